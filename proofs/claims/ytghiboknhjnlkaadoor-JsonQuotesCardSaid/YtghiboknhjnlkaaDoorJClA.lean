/- json's reader: the part of an array. -/
import Derived.Test.YtghiboknhjnlkaaDoorJLs
import Derived.Deep.AppendLies
import Derived.Deep.RegionHeld3
import Derived.Deep.RegionHeld2
set_option linter.unusedVariables false
set_option linter.unusedSimpArgs false
set_option linter.unnecessarySimpa false
namespace Go.Proofs.YtghiboknhjnlkaaDoor
open Go.RowKit

theorem infoValue : (Tryd.prog.info? 34).map (fun i => (i.zero, i.size, i.bytes)) = some (some (.agg #[.int .i64 0, .string ⟨#[]⟩, .slice none 0 0, .slice none 0 0, .int .i64 0]), 5, 80) := by kernel_rfl

/-- what the parts of a list ask of memory, in whatever world that keeps it -/
theorem facts_at {s : ByteArray} {r N : Nat} {dz kind : Int} {pos : Nat} {vn vk : Value} {w W : World} (hbox : w.heap[N]? = some (.cells #[RP r] 72 (0, 0))) (hdeep : w.heap[N + 1]? = some (.cells #[.int .i64 dz] 3 (0, 0)))
    (hvb : w.heap[N + 3]? = some (.cells #[.int .i64 kind, .string ⟨#[]⟩, vn, vk, .int .i64 pos] 34 (0, 0))) (hr : r < N) (ho : ∀ g, vk.ownBlock = some g → N + 4 ≤ g) (k : Kx (fun i => i = r ∨ vk.ownBlock = some i) w W) :
    W.cell? ⟨N, 0, none⟩ = some (RP r) ∧ W.cell? ⟨N + 1, 0, none⟩ = some (.int .i64 dz) ∧ W.cell? ⟨N + 3, 3, none⟩ = some vk ∧ W.frozen? ⟨N + 3, 3, none⟩ = false ∧ W.heap[N]? = w.heap[N]? ∧ W.heap[N + 1]? = w.heap[N + 1]? ∧ W.heap[N + 3]? = w.heap[N + 3]? := by
  have hx : ∀ i, r < i → i < N + 4 → ¬ (i = r ∨ vk.ownBlock = some i) := fun i h1 h2 h => by
    rcases h with h | h
    · omega
    · have := ho i h; omega
  have e0 := k.block N (Array.getElem?_eq_some_iff.1 hbox).1 (hx _ (by omega) (by omega))
  have e1 := k.block (N + 1) (Array.getElem?_eq_some_iff.1 hdeep).1 (hx _ (by omega) (by omega))
  have e3 := k.block (N + 3) (Array.getElem?_eq_some_iff.1 hvb).1 (hx _ (by omega) (by omega))
  refine ⟨?_, ?_, ?_, ?_, e0, e1, e3⟩
  · rw [Lib.cell_of_heap (e0.trans hbox)]; rfl
  · rw [Lib.cell_of_heap (e1.trans hdeep)]; rfl
  · rw [Lib.cell_of_heap (e3.trans hvb)]; rfl
  · exact Lib.frozen_of_heap (e3.trans hvb) 3

/-- the kids' load, under a name: a region's tactic that can't take a load first then leaves it at that, without a word -/
@[go_sem] def ldKids : Oper := { dst := some 4, op := .load 32 (.tmp 3), type := 32, pos := "json.go:181", after := #[{ on := 0, ground := .data }], guard := none }
theorem ldKids_eq : ({ dst := some 4, op := .load 32 (.tmp 3), type := 32, pos := "json.go:181", after := #[{ on := 0, ground := .data }], guard := none } : Oper) = ldKids := rfl

set_option maxHeartbeats 4000000 in
set_option maxRecDepth 100000 in
theorem partA_any (s : ByteArray) (r N f : Nat) (dz : Int) (hdz : dz + 1 + f = 64) (hdz0 : 0 ≤ dz) (kind : Int) (pos : Nat) (hV : ValC s f) (hr : r < N) (hu : r ≠ 0 ∧ r ≠ 1) (hg : 0 < N ∧ 1 < N) (st : JSt) (q : Nat) (w : World) (hI : INV s r N (f + 1) dz kind pos st q w) (hs : s.size ≤ 1000000) :
    Calls Tryd.prog 86 #[.pointer (some ⟨N + 3, 0, none⟩), .pointer (some ⟨N, 0, none⟩), .pointer (some ⟨N + 1, 0, none⟩)] w fun e w' => StepE s (fun st q w => INV s r N (f + 1) dz kind pos st q w) q (stepA (jVal s.data.toList f) st q) e w' ∧ Kx (fun k => k = r ∨ N ≤ k) w w' := by
  have hVc := fun w h1 h2 => hV (dz + 1) hdz (by omega) r q w h1 hI.le h2 hu
  obtain ⟨hrd, hle, henv, hbox, hdeep, ⟨vn, vk, hvb, hn, kcs, hl, hk, hj⟩, hsz, hlen, hres⟩ := hI
  have hlen2 : st.2.length ≤ 1000000 := by omega
  generalize hRR : stepA (jVal s.data.toList f) st q = RR
  unfold stepA at hRR
  generalize jVal s.data.toList f q = RV at *
  obtain ⟨ao, cp, hvk⟩ : ∃ ao cp, vk = .slice ao st.2.length cp := by
    rcases hk.2 with ⟨rfl, h0⟩ | ⟨g, cap, cur, rfl, _⟩
    · exact ⟨none, 0, by rw [h0]⟩
    · exact ⟨_, _, rfl⟩
  have ho : ∀ g, vk.ownBlock = some g → N + 4 ≤ g := fun g h => (hk.lt g h).1
  have FA := Lib.hid (fun W k => facts_at (s := s) (W := W) hbox hdeep hvb hr ho k)
  have hRE : ∀ W, Kx (fun i => i = r ∨ vk.ownBlock = some i) w W → EnvU W := fun W k => henv.kx k (by rintro (h | h); exact hu.1 h.symm; have := ho _ h; omega) (by rintro (h | h); exact hu.2 h.symm; have := ho _ h; omega)
  have hRd : ∀ W, Kx (fun i => vk.ownBlock = some i) w W → Rd s r q W := fun W k => hrd.kx k (fun h => by have := ho _ h; omega)
  have hnn : (st.2.length : Int) < (st.2.length : Int) + 1 := by omega
  have hxl : kcs.flatten.length = st.2.length * 5 := hk.1
  have hwr : IntKind.i64.wrap (dz + 1) = dz + 1 := by rw [IntKind.wrap_i64]; omega
  obtain ⟨d0, d1, d2, z2, -⟩ := FA.out w (Kx.refl _ _)
  have HRR := Lib.hid hRR
  obtain ⟨i0, hi, hz0, hz1, hz2⟩ := info_parts infoValue
  have HN := Lib.hid hn
  have HK := Lib.hid hk
  have HJ := Lib.hid hj
  cases RV with
  | error er =>
    obtain ⟨q3, er⟩ := er
    have hVe : ∀ W, Kx (fun i => vk.ownBlock = some i) w W → Calls Tryd.prog 59 #[RP r, .int .i64 (dz + 1)] W fun e w2 => e = Wr q3 er ∧ Kx (fun k => k = r ∨ N ≤ k) w w2 := by
      intro W h
      refine (hVc W (hRd W h) (hRE W (h.mono (fun _ _ h => .inr h)))).mono ?_
      rintro e w2 ⟨rfl, k2⟩
      exact ⟨rfl, (h.mono (fun i _ h => .inr (by have := ho i h; omega))).trans' k2 (fun i _ h => .inl h)⟩
    have hVx : ∀ W, Kx (fun i => vk.ownBlock = some i) w W → Calls Tryd.prog 59 #[RP r, .int .i64 (dz + 1)] W fun e w2 => (e = .returned (.agg #[.int .i64 0, .string ⟨#[]⟩, .slice none 0 0, .slice none 0 0, .int .i64 0]) ∧ w2 = W ∧ Hid False) ∨ (e = Wr q3 er ∧ Hid (Kx (fun k => k = r ∨ N ≤ k) w w2)) :=
      fun W h => (hVe W h).mono (fun e w2 h => .inr h)
    have HVE := Lib.hid hVx
    clear hVx
    subst hvk
    clear hVe hVc hRd hRE hn hk hj hl hvb hbox hdeep hres hrd henv hRR ho
    have hal := fun (W : World) (o : Obj) => World.cell?_alloc_some W ⟨N + 3, 3, none⟩ o
    have hal0 := fun (W : World) (o : Obj) => World.cell?_alloc_some W ⟨N, 0, none⟩ o
    have hal1 := fun (W : World) (o : Obj) => World.cell?_alloc_some W ⟨N + 1, 0, none⟩ o
    go_enter Tryd.func86, Tryd.ntmps86
    go_wp2_with fail
    rw [ldKids_eq]
    go_region_held2 (fun w' => w'.cell? ⟨N, 0, none⟩ = some (RP r) ∧ w'.cell? ⟨N + 1, 0, none⟩ = some (.int .i64 dz)) (go_keep)
      (first | (go_at_call 59; refine (HVE.out _ ?_).mono ?_; ((with_reducible refine Kx.grown ?_ hgrow (fun g h _ => h)); (repeat (first | (with_reducible exact Kx.refl _ _) | (with_reducible apply Kx.drew) | (with_reducible apply Kx.alloc)))); rintro e w2 (⟨rfl, rfl, hF⟩ | ⟨rfl, k2⟩); rotate_left; (exact ⟨rfl, (by rw [← HRR.out]; rfl), k2.out⟩))
              | (go_at_call 59; refine (HVE.out _ ?_).mono ?_; (repeat (first | (with_reducible exact Kx.refl _ _) | (with_reducible apply Kx.drew) | (with_reducible apply Kx.alloc))); rintro e w2 (⟨rfl, rfl, hF⟩ | ⟨rfl, k2⟩); rotate_left; (exact ⟨rfl, (by rw [← HRR.out]; rfl), k2.out⟩))
              | (refine step_append_lies _ rfl _ _ _ rfl (N + 4) 34 i0 _ 5 80 Tryd.underlying32 hi hz0 hz1 hz2 rfl (by decide) (.slice ao st.2.length cp) st.2.length kcs.flatten rfl ?hown ⟨_, 0, none⟩ 1 1 zero5 rfl rfl ?hnews zero5_one (by decide) (by unfold maxLen; omega) (by omega) ?hbase _ rfl ?_; (case hown => (first | (refine own_kx hk2 ?_) | (refine own_kx HK.out ?_)); (repeat (first | (with_reducible exact Kx.refl _ _) | (with_reducible apply Kx.drew) | (with_reducible apply Kx.alloc)))); (case hnews => (refine news_at (t := 34) (fr := (0, 0)) ?_; (first | (exact heap_alloc_new _ _) | (rw [k2.block w.heap.size (by simp) (by omega)]; exact heap_alloc_new w _)))); (case hbase => (first | (have := k02.size; simp; omega) | (simp; omega) | omega | (have := k02.size; omega))); intro g cap w1 hown hgrow hat hlt; obtain ⟨q0, q1, q2', q3, q4, z0, z1, z2, z3, z4⟩ := five_cells hown hxl; have hg4 := (hown.lt g rfl).1; have hg3 : ¬ g = N + 3 := (by omega); have hg0 : ¬ g = N := (by omega); have hg1 : ¬ g = N + 1 := (by omega); have k01 : Kx (fun i => i = r ∨ (Value.slice ao st.2.length cp).ownBlock = some i) w w1 := (by refine Kx.grown ?_ hgrow (fun g h _ => .inr h); (repeat (first | (with_reducible exact k02) | (with_reducible exact Kx.refl _ _) | (with_reducible apply Kx.drew) | (with_reducible apply Kx.alloc)))); obtain ⟨f0, f1, f2, f3, -⟩ := FA.out _ k01))
    all_goals exact hF.out.elim
  | ok jq =>
    obtain ⟨J, q2⟩ := jq
    have hV5a : ∀ W, Kx (fun i => vk.ownBlock = some i) w W → Calls Tryd.prog 59 #[RP r, .int .i64 (dz + 1)] W fun e w2 => ∃ k t a1 n1 c1 a2 n2 c2 p', e = .returned (.agg #[.int .i64 k, .string t, .slice a1 n1 c1, .slice a2 n2 c2, .int .i64 p']) ∧ Hid (JRep (fun i => W.heap.size ≤ i) w2 (f + 1) [.int .i64 k, .string t, .slice a1 n1 c1, .slice a2 n2 c2, .int .i64 p'] J ∧ Rd s r q2 w2 ∧ q < q2 ∧ q2 ≤ s.size) ∧ Kx (· = r) W w2 ∧ Kx (fun i => i = r ∨ vk.ownBlock = some i) w w2 := by
      intro W h
      refine (hVc W (hRd W h) (hRE W (h.mono (fun _ _ h => .inr h)))).mono ?_
      rintro e w2 ⟨⟨cs, rfl, hJ, hR2, hq, hq2⟩, k2⟩
      obtain ⟨k, t, kn, kk, p', rfl, ⟨a1, c1, n1, rfl⟩, ⟨a2, c2, n2, rfl⟩⟩ := jrep_cells hJ
      exact ⟨k, t, a1, n1, c1, a2, n2, c2, p', rfl, ⟨hJ, hR2, hq, hq2⟩, k2, (h.mono (fun _ _ h => .inr h)).trans' k2 (fun i _ h => .inl h)⟩
    have hV5b : ∀ W, Kx (fun _ => False) w W → Calls Tryd.prog 59 #[RP r, .int .i64 (dz + 1)] W fun e w2 => ∃ k t a1 n1 c1 a2 n2 c2 p', e = .returned (.agg #[.int .i64 k, .string t, .slice a1 n1 c1, .slice a2 n2 c2, .int .i64 p']) ∧ Hid (JRep (fun i => W.heap.size ≤ i) w2 (f + 1) [.int .i64 k, .string t, .slice a1 n1 c1, .slice a2 n2 c2, .int .i64 p'] J ∧ Rd s r q2 w2 ∧ q < q2 ∧ q2 ≤ s.size) ∧ Kx (· = r) W w2 ∧ Kx (fun i => i = r ∨ vk.ownBlock = some i) w w2 ∧ w2.ownsRow (N + 4) 34 5 vk st.2.length kcs.flatten := by
      intro W h
      refine (hV5a W (h.mono (fun _ _ h => h.elim))).mono ?_
      rintro e w2 ⟨k, t, a1, n1, c1, a2, n2, c2, p', rfl, hE, k2, k02⟩
      exact ⟨k, t, a1, n1, c1, a2, n2, c2, p', rfl, hE, k2, k02, ownsRow_keep (own_kx hk h) (fun i hi hb => k2.block i hi (by omega))⟩
    have HVA := Lib.hid hV5a
    have HVB := Lib.hid hV5b
    have hvn : ∀ i, vn.ownBlock = some i → i < w.heap.size := fun i h => (hn.lt i h).2
    have hvk2 : ∀ i, vk.ownBlock = some i → N + 4 ≤ i ∧ i < w.heap.size := fun i h => hk.lt i h
    have hFL : ∀ (W W' : World) (g cap : Nat) (c0 c1 c2 c3 c4 : Value), Pre s r N (f + 1) vn vk kcs.flatten st.2.length [c0, c1, c2, c3, c4] J q2 w W g cap → q < q2 ∧ q2 ≤ s.size →
        (W' = set5 (W.setCell ⟨N + 3, 3, none⟩ (.slice (some ⟨g, 0, none⟩) (st.2.length + 1) cap)) g (st.2.length * 5) c0 c1 c2 c3 c4 ∨ W' = (set5 W g (st.2.length * 5) c0 c1 c2 c3 c4).setCell ⟨N + 3, 3, none⟩ (.slice (some ⟨g, 0, none⟩) (st.2.length + 1) cap)) →
        StepE s (fun st q w => INV s r N (f + 1) dz kind pos st q w) q RR (.returned (.tuple #[])) W' ∧ Kx (fun k => k = r ∨ N ≤ k) w W' := by
      intro W W' g cap c0 c1 c2 c3 c4 hP hq hW'
      obtain ⟨h1, h2, h3⟩ := stores_fin hr ho hP hxl hvb W' hW'
      have h4 := fin_list (q := q) hr hu hg henv hsz hbox hdeep hvb hres hn hl hk hj hP hq.2 (by omega) rfl h1 h2 h3
      refine ⟨?_, h4.2⟩
      rw [← HRR.out]
      exact ⟨rfl, h4.1, by omega⟩
    have hF1 : ∀ (W : World) (g cap : Nat) (c0 c1 c2 c3 c4 : Value), Pre s r N (f + 1) vn vk kcs.flatten st.2.length [c0, c1, c2, c3, c4] J q2 w W g cap → q < q2 ∧ q2 ≤ s.size →
        StepE s (fun st q w => INV s r N (f + 1) dz kind pos st q w) q RR (.returned (.tuple #[])) (set5 (W.setCell ⟨N + 3, 3, none⟩ (.slice (some ⟨g, 0, none⟩) (st.2.length + 1) cap)) g (st.2.length * 5) c0 c1 c2 c3 c4) ∧ Kx (fun k => k = r ∨ N ≤ k) w (set5 (W.setCell ⟨N + 3, 3, none⟩ (.slice (some ⟨g, 0, none⟩) (st.2.length + 1) cap)) g (st.2.length * 5) c0 c1 c2 c3 c4) := fun W g cap c0 c1 c2 c3 c4 hP hq => hFL W _ g cap c0 c1 c2 c3 c4 hP hq (.inl rfl)
    have hF2 : ∀ (W : World) (g cap : Nat) (c0 c1 c2 c3 c4 : Value), Pre s r N (f + 1) vn vk kcs.flatten st.2.length [c0, c1, c2, c3, c4] J q2 w W g cap → q < q2 ∧ q2 ≤ s.size →
        StepE s (fun st q w => INV s r N (f + 1) dz kind pos st q w) q RR (.returned (.tuple #[])) ((set5 W g (st.2.length * 5) c0 c1 c2 c3 c4).setCell ⟨N + 3, 3, none⟩ (.slice (some ⟨g, 0, none⟩) (st.2.length + 1) cap)) ∧ Kx (fun k => k = r ∨ N ≤ k) w ((set5 W g (st.2.length * 5) c0 c1 c2 c3 c4).setCell ⟨N + 3, 3, none⟩ (.slice (some ⟨g, 0, none⟩) (st.2.length + 1) cap)) := fun W g cap c0 c1 c2 c3 c4 hP hq => hFL W _ g cap c0 c1 c2 c3 c4 hP hq (.inr rfl)
    have HF1 := Lib.hid hF1
    have HF2 := Lib.hid hF2
    have HVN := Lib.hid hvn
    have HVK := Lib.hid hvk2
    subst hvk
    clear hV5a hV5b hFL hF1 hF2 hvn hvk2 hVc hRd hRE hn hk hj hl hvb hbox hdeep hres hrd henv hRR ho
    have hal := fun (W : World) (o : Obj) => World.cell?_alloc_some W ⟨N + 3, 3, none⟩ o
    go_enter Tryd.func86, Tryd.ntmps86
    go_wp2_with fail
    refine wp_panTo (fun _ _ _ => False) ?_ (fun _ _ _ h => h.elim)
    rw [ldKids_eq]
    go_region_held3 (fun w' => w'.cell? ⟨N, 0, none⟩ = some (RP r) ∧ w'.cell? ⟨N + 1, 0, none⟩ = some (.int .i64 dz)) (go_keep)
      (first | (go_at_call 59; refine (HVA.out _ ?_).mono ?_; ((with_reducible refine Kx.grown ?_ hgrow (fun g h _ => h)); repeat (first | (with_reducible exact Kx.refl _ _) | (with_reducible apply Kx.drew) | (with_reducible apply Kx.alloc))); rintro e w2 ⟨k, t, a1, n1, c1, a2, n2, c2, p', rfl, hE, k2, k02⟩; have hown2 := ownsRow_keep hown (fun k hk hb => k2.block k hk (by omega)); obtain ⟨q0, q1, q2', q3, q4, z0, z1, z2, z3, z4⟩ := five_cells hown2 hxl; obtain ⟨f0, f1, f2, f3, -⟩ := FA.out _ k02)
              | (go_at_call 59; refine (HVB.out _ ?_).mono ?_; (repeat (first | (with_reducible exact Kx.refl _ _) | (with_reducible apply Kx.drew) | (with_reducible apply Kx.alloc))); rintro e w2 ⟨k, t, a1, n1, c1, a2, n2, c2, p', rfl, hE, k2, k02, hk2⟩; obtain ⟨f0, f1, f2, f3, -⟩ := FA.out _ k02)
              | (refine step_append_lies _ rfl _ _ _ rfl (N + 4) 34 i0 _ 5 80 Tryd.underlying32 hi hz0 hz1 hz2 rfl (by decide) (.slice ao st.2.length cp) st.2.length kcs.flatten rfl ?hown ⟨_, 0, none⟩ 1 1 zero5 rfl rfl ?hnews zero5_one (by decide) (by unfold maxLen; omega) (by omega) ?hbase _ rfl ?_; (case hown => (first | (refine own_kx hk2 ?_) | (refine own_kx HK.out ?_)); (repeat (first | (with_reducible exact Kx.refl _ _) | (with_reducible apply Kx.drew) | (with_reducible apply Kx.alloc)))); (case hnews => (refine news_at (t := 34) (fr := (0, 0)) ?_; (first | (exact heap_alloc_new _ _) | (rw [k2.block w.heap.size (by simp) (by omega)]; exact heap_alloc_new w _)))); (case hbase => (first | (have := k02.size; simp; omega) | (simp; omega) | omega | (have := k02.size; omega))); intro g cap w1 hown hgrow hat hlt; obtain ⟨q0, q1, q2', q3, q4, z0, z1, z2, z3, z4⟩ := five_cells hown hxl; have hg4 := (hown.lt g rfl).1; have hg3 : ¬ g = N + 3 := (by omega); have hg0 : ¬ g = N := (by omega); have hg1 : ¬ g = N + 1 := (by omega); have k01 : Kx (fun i => i = r ∨ (Value.slice ao st.2.length cp).ownBlock = some i) w w1 := (by refine Kx.grown ?_ hgrow (fun g h _ => .inr h); (repeat (first | (with_reducible exact k02) | (with_reducible exact Kx.refl _ _) | (with_reducible apply Kx.drew) | (with_reducible apply Kx.alloc)))); obtain ⟨f0, f1, f2, f3, -⟩ := FA.out _ k01))
    all_goals dsimp only [PanTo]
    all_goals go_end0
    all_goals first
      | (with_reducible exact HF1.out _ _ _ _ _ _ _ _ (pre_callLast hsz HVN.out hlt (by have := hgrow.size; simp at this; omega) hE hown2 hat (by first | exact Nat.le_refl _ | (simp; done) | (simp; omega)) k02) ⟨hE.out.2.2.1, hE.out.2.2.2⟩)
      | (with_reducible exact HF2.out _ _ _ _ _ _ _ _ (pre_callLast hsz HVN.out hlt (by have := hgrow.size; simp at this; omega) hE hown2 hat (by first | exact Nat.le_refl _ | (simp; done) | (simp; omega)) k02) ⟨hE.out.2.2.1, hE.out.2.2.2⟩)
      | (with_reducible exact HF1.out _ _ _ _ _ _ _ _ (pre_appendLast hsz hr HVN.out HVK.out (by first | exact Nat.le_refl _ | (simp; done) | (simp; omega)) hE hown hat (by first | exact Nat.le_refl _ | (simp; done) | (simp; omega)) k02.size (by refine Kx.grown ?_ hgrow (fun g h _ => h); (repeat (first | (with_reducible exact Kx.refl _ _) | (with_reducible apply Kx.drew) | (with_reducible apply Kx.alloc)))) k01) ⟨hE.out.2.2.1, hE.out.2.2.2⟩)
      | (with_reducible exact HF2.out _ _ _ _ _ _ _ _ (pre_appendLast hsz hr HVN.out HVK.out (by first | exact Nat.le_refl _ | (simp; done) | (simp; omega)) hE hown hat (by first | exact Nat.le_refl _ | (simp; done) | (simp; omega)) k02.size (by refine Kx.grown ?_ hgrow (fun g h _ => h); (repeat (first | (with_reducible exact Kx.refl _ _) | (with_reducible apply Kx.drew) | (with_reducible apply Kx.alloc)))) k01) ⟨hE.out.2.2.1, hE.out.2.2.2⟩)
end Go.Proofs.YtghiboknhjnlkaaDoor
