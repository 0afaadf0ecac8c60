/- json's reader: a member of an object. -/
import Derived.Test.YtghiboknhjnlkaaDoorJClA
import Derived.Test.YtghiboknhjnlkaaDoorJNm
set_option linter.unusedVariables false
set_option linter.unusedSimpArgs false
set_option linter.unnecessarySimpa false
namespace Go.Proofs.YtghiboknhjnlkaaDoor
open Go.RowKit

@[go_sem] def ldKids2 : Oper := { dst := some 42, op := .load 32 (.tmp 41), type := 32, pos := "json.go:202", after := #[{ on := 2, ground := .data }], guard := none }
theorem ldKids2_eq : ({ dst := some 42, op := .load 32 (.tmp 41), type := 32, pos := "json.go:202", after := #[{ on := 2, ground := .data }], guard := none } : Oper) = ldKids2 := rfl

set_option maxHeartbeats 4000000 in
set_option maxRecDepth 100000 in
theorem member_any (s : ByteArray) (r N f : Nat) (dz : Int) (hdz : dz + 1 + f = 64) (hdz0 : 0 ≤ dz) (kind : Int) (pos : Nat) (hV : ValC s f) (hr : r < N) (hu : r ≠ 0 ∧ r ≠ 1) (hg : 0 < N ∧ 1 < N) (st0 : JSt) (q0 : Nat) (w0 : World) (hI0 : INV s r N (f + 1) dz kind pos st0 q0 w0) (hs : s.size ≤ 1000000) :
    Calls Tryd.prog 88 #[RP r, .pointer (some ⟨N + 3, 0, none⟩), .int .i64 dz] w0 fun e w' => StepE s (fun st q w => INV s r N (f + 1) dz kind pos st q w) q0 (stepO s.data.toList (jVal s.data.toList f) st0 q0) e w' ∧ Kx (fun k => k = r ∨ N ≤ k) w0 w' := by
  have hT := Lib.hid (text_any s r q0 w0 hI0.rd hI0.le (by omega) hI0.env hu)
  have hB := Lib.hid (fun q hq w h => blanks_any s r q hq (by omega) w h)
  have hW := Lib.hid (fun (q : Nat) w h hq => word_any s r q [58] (by decide) w h hq (by omega))
  have hjw : ∀ q, jWord s.data.toList q [58] = if s.data.toList[q]? = some 58 then .ok (q + 1) else .error q := fun q => by unfold jWord; rfl
  have HJW := Lib.hid hjw
  generalize hRR0 : stepO s.data.toList (jVal s.data.toList f) st0 q0 = RR
  unfold stepO at hRR0
  have TX : ∀ {a b : World}, Kx (· = r) a b → Kx (fun k => k = r ∨ N ≤ k) a b := fun h => h.mono (fun k _ e => .inl e)
  have HTX := Lib.hid (fun (a b : World) (h : Kx (· = r) a b) => TX h)
  have c1 := hI0.rd.c1
  generalize jText s.data.toList q0 = RT at *
  clear hjw TX
  cases RT with
  | error q3 =>
    have HR := Lib.hid hRR0
    clear hRR0
    go_enter Tryd.func88, Tryd.ntmps88
    go_wp2_with fail
    refine hT.out.mono ?_
    rintro e w1 ⟨⟨rfl, -⟩, k1⟩
    go_wp2_with fail
    refine ⟨rfl, ?_, HTX.out _ _ k1⟩
    rw [← HR.out]
    rfl
  | ok tq =>
    obtain ⟨nm, q1⟩ := tq
    simp only at hRR0
    have HRR0 := Lib.hid hRR0
    clear hRR0
    go_enter Tryd.func88, Tryd.ntmps88
    go_wp2_with fail
    refine hT.out.mono ?_
    rintro e w1 ⟨⟨rfl, R1, hq01, hq1s, hnl⟩, k1⟩
    have hI1 := hI0.keep hr hu k1 R1 (by omega) hq1s
    have K1 := HTX.out _ _ k1
    have hlen1 := hI0.len
    obtain ⟨vn, vk, hvb, hn, hrest⟩ := hI1.val
    have hd2 : w1.cell? ⟨N + 3, 2, none⟩ = some vn := by rw [Lib.cell_of_heap hvb]; rfl
    have hz2 : w1.frozen? ⟨N + 3, 2, none⟩ = false := Lib.frozen_of_heap hvb 2
    have HC := Lib.hid (names_any hn (by omega) nm)
    have HNW := Lib.hid hn
    have HVB := Lib.hid hvb
    have HI1 := Lib.hid hI1
    have hsz1 := hI1.size
    have hNo : ∀ i, vn.ownBlock = some i → N + 4 ≤ i := fun i h => (hn.lt i h).1
    have HNO := Lib.hid hNo
    obtain ⟨i1, hi1, hy0, hy1, hy2⟩ := info_parts infoString
    clear hn hvb hrest hT hI1 hNo
    go_wp2_with fail
    refine HC.out.mono ?_
    rintro e w2 ⟨rfl, rfl⟩
    have hrr := HRR0.out
    by_cases hct : st0.1.contains nm = true
    · rw [if_pos hct] at hrr
      rw [hct]
      have HR := Lib.hid hrr
      clear hrr hct HRR0
      go_wp2_with fail
      refine ⟨rfl, ?_, K1⟩
      rw [← HR.out]
      rfl
    · rw [if_neg hct] at hrr
      rw [Bool.eq_false_iff.2 hct]
      have HRR1 := Lib.hid hrr
      clear hrr hct HRR0
      go_wp2_with (at_builtin; refine wpList_append_lies _ rfl _ _ _ rfl (N + 4) 9 i1 _ 1 16 Tryd.underlying31 hi1 hy0 hy1 hy2 rfl (by decide) vn st0.1.length (st0.1.map strV) rfl (HNW.out.alloc _) ⟨_, 0, none⟩ 1 1 [strV nm] rfl rfl (news1 _ nm _) (one1 nm) (by decide) (by unfold maxLen; omega) (by omega) (by simp; omega) _ rfl ?_; intro g cap w3 hown hgrow hat hlt; have e3 := hgrow.block (N + 3) (by simp; omega) (fun h => by have := HNO.out _ h.symm; omega); rw [Lib.alloc_old _ _ (N + 3) (by omega)] at e3; have d3 : w3.cell? ⟨N + 3, 2, none⟩ = some vn := (by rw [Lib.cell_of_heap (e3.trans HVB.out)]; rfl); have z3 := Lib.frozen_of_heap (e3.trans HVB.out) 2)
      obtain ⟨hI2, k23⟩ := fin_names (nm := nm) hr hu hg HI1.out (by omega) ⟨_, HVB.out⟩ hown hgrow hat (by simp)
      have K2 := K1.trans k23
      generalize w3.setCell _ _ = W2 at *
      have hb1 := blank_le s q1 hq1s
      have hBl := Lib.hid (hB.out q1 hq1s)
      have hr1 := HRR1.out
      generalize hq2 : jBlank s.data.toList q1 = q2 at *
      refine (hBl.out _ hI2.rd).mono ?_
      rintro e w4 ⟨v4, rfl, R4, k4⟩
      have hI4 := hI2.keep hr hu k4 R4 (by omega) (by omega)
      have K4 := K2.trans (HTX.out _ _ k4)
      have hw := fun w h hq => hW.out q2 w h hq
      rw [HJW.out] at hw
      clear hq2
      by_cases h58 : s.data.toList[q2]? = some 58
      · rw [if_pos h58] at hr1 hw
        have hlt2 : q2 < s.size := by
          rcases Nat.lt_or_ge q2 s.size with h | h
          · exact h
          · rw [data_none s _ (by omega)] at h58; cases h58
        have HW2 := Lib.hid hw
        have hb3 := blank_le s (q2 + 1) (by omega)
        have hBl3 := Lib.hid (hB.out (q2 + 1) (by omega))
        have HR4 := Lib.hid hr1
        generalize jBlank s.data.toList (q2 + 1) = q at *
        have HI4 := Lib.hid hI4
        clear hr1 hw h58 hI4 hI2 HRR1 e3 d3 z3 hown hgrow hat hlt HC HVB HNW HI1 HNO hd2 hz2 hsz1
        go_wp2_with fail
        refine (HW2.out _ HI4.out.rd (by omega)).mono ?_
        rintro e w5 ⟨⟨rfl, R5, hq5⟩, k5⟩
        have hI5' := Lib.hid (HI4.out.keep hr hu k5 R5 (by omega) hq5)
        have K5' := K4.trans (HTX.out _ _ k5)
        go_wp2_with fail
        refine (hBl3.out _ R5).mono ?_
        rintro e w ⟨v6, rfl, R6, k6⟩
        have hI5 := hI5'.out.keep hr hu k6 R6 (by omega) (by omega)
        have K5 := K5'.trans (HTX.out _ _ k6)
        obtain ⟨st, hst⟩ : ∃ st : JSt, st = (st0.1 ++ [nm], st0.2) := ⟨_, rfl⟩
        have HR5 : Hid ((match jVal s.data.toList f q with | .error e => .error e | .ok (v, q2) => .ok ((st.1, st.2 ++ [v]), q2)) = RR) := by
          rw [hst]; exact HR4.out
        rw [← hst] at hI5
        have hqq : q0 ≤ q := by omega
        clear HR4 HI4 hI5' hst
        go_wp2_with fail
        have hVc := fun w h1 h2 => hV (dz + 1) hdz (by omega) r q w h1 hI5.le h2 hu
        obtain ⟨hrd, hle, henv, hbox, hdeep, ⟨vn, vk, hvb, hn, kcs, hl, hk, hj⟩, hsz, hlen, hres⟩ := hI5
        have hlen2 : st.2.length ≤ 1000000 := by omega
        have hRR := HR5.out
        generalize jVal s.data.toList f q = RV at *
        obtain ⟨ao, cp, hvk⟩ : ∃ ao cp, vk = .slice ao st.2.length cp := by
          rcases hk.2 with ⟨rfl, h0⟩ | ⟨g, cap, cur, rfl, _⟩
          · exact ⟨none, 0, by rw [h0]⟩
          · exact ⟨_, _, rfl⟩
        have ho : ∀ g, vk.ownBlock = some g → N + 4 ≤ g := fun g h => (hk.lt g h).1
        have FA := Lib.hid (fun W k => facts_at (s := s) (W := W) hbox hdeep hvb hr ho k)
        have hRE : ∀ W, Kx (fun i => i = r ∨ vk.ownBlock = some i) w W → EnvU W := fun W k => henv.kx k (by rintro (h | h); exact hu.1 h.symm; have := ho _ h; omega) (by rintro (h | h); exact hu.2 h.symm; have := ho _ h; omega)
        have hRd : ∀ W, Kx (fun i => vk.ownBlock = some i) w W → Rd s r q W := fun W k => hrd.kx k (fun h => by have := ho _ h; omega)
        have hnn : (st.2.length : Int) < (st.2.length : Int) + 1 := by omega
        have hxl : kcs.flatten.length = st.2.length * 5 := hk.1
        have hwr : IntKind.i64.wrap (dz + 1) = dz + 1 := by rw [IntKind.wrap_i64]; omega
        obtain ⟨-, -, d2, z2, -⟩ := FA.out w (Kx.refl _ _)
        have HRR := Lib.hid hRR
        obtain ⟨i0, hi, hz0, hz1, hz2⟩ := info_parts infoValue
        have HN := Lib.hid hn
        have HK := Lib.hid hk
        have HJ := Lib.hid hj
        cases RV with
        | error er =>
          obtain ⟨q3, er⟩ := er
          have hVe : ∀ W, Kx (fun i => vk.ownBlock = some i) w W → Calls Tryd.prog 59 #[RP r, .int .i64 (dz + 1)] W fun e w2 => e = Wr q3 er ∧ Kx (fun k => k = r ∨ N ≤ k) w0 w2 := by
            intro W h
            refine (hVc W (hRd W h) (hRE W (h.mono (fun _ _ h => .inr h)))).mono ?_
            rintro e w2 ⟨rfl, k2⟩
            exact ⟨rfl, K5.trans ((h.mono (fun i _ h => .inr (by have := ho i h; omega))).trans' k2 (fun i _ h => .inl h))⟩
          have hVx : ∀ W, Kx (fun i => vk.ownBlock = some i) w W → Calls Tryd.prog 59 #[RP r, .int .i64 (dz + 1)] W fun e w2 => (e = .returned (.agg #[.int .i64 0, .string ⟨#[]⟩, .slice none 0 0, .slice none 0 0, .int .i64 0]) ∧ w2 = W ∧ Hid False) ∨ (e = Wr q3 er ∧ Hid (Kx (fun k => k = r ∨ N ≤ k) w0 w2)) :=
            fun W h => (hVe W h).mono (fun e w2 h => .inr h)
          have HVE := Lib.hid hVx
          clear hVx
          subst hvk
          clear hVe hVc hRd hRE hn hk hj hl hvb hbox hdeep hres hrd henv hRR ho
          have hal := fun (W : World) (o : Obj) => World.cell?_alloc_some W ⟨N + 3, 3, none⟩ o
          rw [ldKids2_eq]
          go_region_held2 (fun _ => True) (trivial)
            (first | (go_at_call 59; refine (HVE.out _ ?_).mono ?_; ((with_reducible refine Kx.grown ?_ hgrow (fun g h _ => h)); (repeat (first | (with_reducible exact Kx.refl _ _) | (with_reducible apply Kx.drew) | (with_reducible apply Kx.alloc)))); rintro e w2 (⟨rfl, rfl, hF⟩ | ⟨rfl, k2⟩); rotate_left; (exact ⟨rfl, (by rw [← HRR.out]; rfl), k2.out⟩))
                    | (go_at_call 59; refine (HVE.out _ ?_).mono ?_; (repeat (first | (with_reducible exact Kx.refl _ _) | (with_reducible apply Kx.drew) | (with_reducible apply Kx.alloc))); rintro e w2 (⟨rfl, rfl, hF⟩ | ⟨rfl, k2⟩); rotate_left; (exact ⟨rfl, (by rw [← HRR.out]; rfl), k2.out⟩))
                    | (refine step_append_lies _ rfl _ _ _ rfl (N + 4) 34 i0 _ 5 80 Tryd.underlying32 hi hz0 hz1 hz2 rfl (by decide) (.slice ao st.2.length cp) st.2.length kcs.flatten rfl ?hown ⟨_, 0, none⟩ 1 1 zero5 rfl rfl ?hnews zero5_one (by decide) (by unfold maxLen; omega) (by omega) ?hbase _ rfl ?_; (case hown => (first | (refine own_kx hk2 ?_) | (refine own_kx HK.out ?_)); (repeat (first | (with_reducible exact Kx.refl _ _) | (with_reducible apply Kx.drew) | (with_reducible apply Kx.alloc)))); (case hnews => (refine news_at (t := 34) (fr := (0, 0)) ?_; (first | (exact heap_alloc_new _ _) | (rw [k2.block w.heap.size (by simp) (by omega)]; exact heap_alloc_new w _)))); (case hbase => (first | (have := k02.size; simp; omega) | (simp; omega) | omega | (have := k02.size; omega))); intro g cap w1 hown hgrow hat hlt; obtain ⟨q0, q1, q2', q3, q4, z0, z1, z2, z3, z4⟩ := five_cells hown hxl; have hg4 := (hown.lt g rfl).1; have hg3 : ¬ g = N + 3 := (by omega); have hg0 : ¬ g = N := (by omega); have hg1 : ¬ g = N + 1 := (by omega); have k01 : Kx (fun i => i = r ∨ (Value.slice ao st.2.length cp).ownBlock = some i) w w1 := (by refine Kx.grown ?_ hgrow (fun g h _ => .inr h); (repeat (first | (with_reducible exact k02) | (with_reducible exact Kx.refl _ _) | (with_reducible apply Kx.drew) | (with_reducible apply Kx.alloc)))); obtain ⟨f0, f1, f2, f3, -⟩ := FA.out _ k01))
          all_goals exact hF.out.elim
        | ok jq =>
          obtain ⟨J, q2⟩ := jq
          have hV5a : ∀ W, Kx (fun i => vk.ownBlock = some i) w W → Calls Tryd.prog 59 #[RP r, .int .i64 (dz + 1)] W fun e w2 => ∃ k t a1 n1 c1 a2 n2 c2 p', e = .returned (.agg #[.int .i64 k, .string t, .slice a1 n1 c1, .slice a2 n2 c2, .int .i64 p']) ∧ Hid (JRep (fun i => W.heap.size ≤ i) w2 (f + 1) [.int .i64 k, .string t, .slice a1 n1 c1, .slice a2 n2 c2, .int .i64 p'] J ∧ Rd s r q2 w2 ∧ q < q2 ∧ q2 ≤ s.size) ∧ Kx (· = r) W w2 ∧ Kx (fun i => i = r ∨ vk.ownBlock = some i) w w2 := by
            intro W h
            refine (hVc W (hRd W h) (hRE W (h.mono (fun _ _ h => .inr h)))).mono ?_
            rintro e w2 ⟨⟨cs, rfl, hJ, hR2, hq, hq2⟩, k2⟩
            obtain ⟨k, t, kn, kk, p', rfl, ⟨a1, c1, n1, rfl⟩, ⟨a2, c2, n2, rfl⟩⟩ := jrep_cells hJ
            exact ⟨k, t, a1, n1, c1, a2, n2, c2, p', rfl, ⟨hJ, hR2, hq, hq2⟩, k2, (h.mono (fun _ _ h => .inr h)).trans' k2 (fun i _ h => .inl h)⟩
          have hV5b : ∀ W, Kx (fun _ => False) w W → Calls Tryd.prog 59 #[RP r, .int .i64 (dz + 1)] W fun e w2 => ∃ k t a1 n1 c1 a2 n2 c2 p', e = .returned (.agg #[.int .i64 k, .string t, .slice a1 n1 c1, .slice a2 n2 c2, .int .i64 p']) ∧ Hid (JRep (fun i => W.heap.size ≤ i) w2 (f + 1) [.int .i64 k, .string t, .slice a1 n1 c1, .slice a2 n2 c2, .int .i64 p'] J ∧ Rd s r q2 w2 ∧ q < q2 ∧ q2 ≤ s.size) ∧ Kx (· = r) W w2 ∧ Kx (fun i => i = r ∨ vk.ownBlock = some i) w w2 ∧ w2.ownsRow (N + 4) 34 5 vk st.2.length kcs.flatten := by
            intro W h
            refine (hV5a W (h.mono (fun _ _ h => h.elim))).mono ?_
            rintro e w2 ⟨k, t, a1, n1, c1, a2, n2, c2, p', rfl, hE, k2, k02⟩
            exact ⟨k, t, a1, n1, c1, a2, n2, c2, p', rfl, hE, k2, k02, ownsRow_keep (own_kx hk h) (fun i hi hb => k2.block i hi (by omega))⟩
          have HVA := Lib.hid hV5a
          have HVB := Lib.hid hV5b
          have hvn : ∀ i, vn.ownBlock = some i → i < w.heap.size := fun i h => (hn.lt i h).2
          have hvk2 : ∀ i, vk.ownBlock = some i → N + 4 ≤ i ∧ i < w.heap.size := fun i h => hk.lt i h
          have hFL : ∀ (W W' : World) (g cap : Nat) (c0 c1 c2 c3 c4 : Value), Pre s r N (f + 1) vn vk kcs.flatten st.2.length [c0, c1, c2, c3, c4] J q2 w W g cap → q < q2 ∧ q2 ≤ s.size →
              (W' = set5 (W.setCell ⟨N + 3, 3, none⟩ (.slice (some ⟨g, 0, none⟩) (st.2.length + 1) cap)) g (st.2.length * 5) c0 c1 c2 c3 c4 ∨ W' = (set5 W g (st.2.length * 5) c0 c1 c2 c3 c4).setCell ⟨N + 3, 3, none⟩ (.slice (some ⟨g, 0, none⟩) (st.2.length + 1) cap)) →
              StepE s (fun st q w => INV s r N (f + 1) dz kind pos st q w) q0 RR (.returned (.tuple #[])) W' ∧ Kx (fun k => k = r ∨ N ≤ k) w0 W' := by
            intro W W' g cap c0 c1 c2 c3 c4 hP hq hW'
            obtain ⟨h1, h2, h3⟩ := stores_fin hr ho hP hxl hvb W' hW'
            have h4 := fin_list (q := q) hr hu hg henv hsz hbox hdeep hvb hres hn hl hk hj hP hq.2 (by omega) rfl h1 h2 h3
            refine ⟨?_, K5.trans h4.2⟩
            rw [← HRR.out]
            exact ⟨rfl, h4.1, by omega⟩
          have hF1 : ∀ (W : World) (g cap : Nat) (c0 c1 c2 c3 c4 : Value), Pre s r N (f + 1) vn vk kcs.flatten st.2.length [c0, c1, c2, c3, c4] J q2 w W g cap → q < q2 ∧ q2 ≤ s.size →
              StepE s (fun st q w => INV s r N (f + 1) dz kind pos st q w) q0 RR (.returned (.tuple #[])) (set5 (W.setCell ⟨N + 3, 3, none⟩ (.slice (some ⟨g, 0, none⟩) (st.2.length + 1) cap)) g (st.2.length * 5) c0 c1 c2 c3 c4) ∧ Kx (fun k => k = r ∨ N ≤ k) w0 (set5 (W.setCell ⟨N + 3, 3, none⟩ (.slice (some ⟨g, 0, none⟩) (st.2.length + 1) cap)) g (st.2.length * 5) c0 c1 c2 c3 c4) := fun W g cap c0 c1 c2 c3 c4 hP hq => hFL W _ g cap c0 c1 c2 c3 c4 hP hq (.inl rfl)
          have hF2 : ∀ (W : World) (g cap : Nat) (c0 c1 c2 c3 c4 : Value), Pre s r N (f + 1) vn vk kcs.flatten st.2.length [c0, c1, c2, c3, c4] J q2 w W g cap → q < q2 ∧ q2 ≤ s.size →
              StepE s (fun st q w => INV s r N (f + 1) dz kind pos st q w) q0 RR (.returned (.tuple #[])) ((set5 W g (st.2.length * 5) c0 c1 c2 c3 c4).setCell ⟨N + 3, 3, none⟩ (.slice (some ⟨g, 0, none⟩) (st.2.length + 1) cap)) ∧ Kx (fun k => k = r ∨ N ≤ k) w0 ((set5 W g (st.2.length * 5) c0 c1 c2 c3 c4).setCell ⟨N + 3, 3, none⟩ (.slice (some ⟨g, 0, none⟩) (st.2.length + 1) cap)) := fun W g cap c0 c1 c2 c3 c4 hP hq => hFL W _ g cap c0 c1 c2 c3 c4 hP hq (.inr rfl)
          have HF1 := Lib.hid hF1
          have HF2 := Lib.hid hF2
          have HVN := Lib.hid hvn
          have HVK := Lib.hid hvk2
          subst hvk
          clear hV5a hV5b hFL hF1 hF2 hvn hvk2 hVc hRd hRE hn hk hj hl hvb hbox hdeep hres hrd henv hRR ho
          have hal := fun (W : World) (o : Obj) => World.cell?_alloc_some W ⟨N + 3, 3, none⟩ o
          rw [ldKids2_eq]
          go_region_held2 (fun _ => True) (trivial)
            (first | (go_at_call 59; refine (HVA.out _ ?_).mono ?_; ((with_reducible refine Kx.grown ?_ hgrow (fun g h _ => h)); repeat (first | (with_reducible exact Kx.refl _ _) | (with_reducible apply Kx.drew) | (with_reducible apply Kx.alloc))); rintro e w2 ⟨k, t, a1, n1, c1, a2, n2, c2, p', rfl, hE, k2, k02⟩; have hown2 := ownsRow_keep hown (fun k hk hb => k2.block k hk (by omega)); obtain ⟨q0, q1, q2', q3, q4, z0, z1, z2, z3, z4⟩ := five_cells hown2 hxl; obtain ⟨f0, f1, f2, f3, -⟩ := FA.out _ k02)
                    | (go_at_call 59; refine (HVB.out _ ?_).mono ?_; (repeat (first | (with_reducible exact Kx.refl _ _) | (with_reducible apply Kx.drew) | (with_reducible apply Kx.alloc))); rintro e w2 ⟨k, t, a1, n1, c1, a2, n2, c2, p', rfl, hE, k2, k02, hk2⟩; obtain ⟨f0, f1, f2, f3, -⟩ := FA.out _ k02)
                    | (refine step_append_lies _ rfl _ _ _ rfl (N + 4) 34 i0 _ 5 80 Tryd.underlying32 hi hz0 hz1 hz2 rfl (by decide) (.slice ao st.2.length cp) st.2.length kcs.flatten rfl ?hown ⟨_, 0, none⟩ 1 1 zero5 rfl rfl ?hnews zero5_one (by decide) (by unfold maxLen; omega) (by omega) ?hbase _ rfl ?_; (case hown => (first | (refine own_kx hk2 ?_) | (refine own_kx HK.out ?_)); (repeat (first | (with_reducible exact Kx.refl _ _) | (with_reducible apply Kx.drew) | (with_reducible apply Kx.alloc)))); (case hnews => (refine news_at (t := 34) (fr := (0, 0)) ?_; (first | (exact heap_alloc_new _ _) | (rw [k2.block w.heap.size (by simp) (by omega)]; exact heap_alloc_new w _)))); (case hbase => (first | (have := k02.size; simp; omega) | (simp; omega) | omega | (have := k02.size; omega))); intro g cap w1 hown hgrow hat hlt; obtain ⟨q0, q1, q2', q3, q4, z0, z1, z2, z3, z4⟩ := five_cells hown hxl; have hg4 := (hown.lt g rfl).1; have hg3 : ¬ g = N + 3 := (by omega); have hg0 : ¬ g = N := (by omega); have hg1 : ¬ g = N + 1 := (by omega); have k01 : Kx (fun i => i = r ∨ (Value.slice ao st.2.length cp).ownBlock = some i) w w1 := (by refine Kx.grown ?_ hgrow (fun g h _ => .inr h); (repeat (first | (with_reducible exact k02) | (with_reducible exact Kx.refl _ _) | (with_reducible apply Kx.drew) | (with_reducible apply Kx.alloc)))); obtain ⟨f0, f1, f2, f3, -⟩ := FA.out _ k01))
          all_goals go_wp2
          all_goals go_end0
          all_goals first
            | (with_reducible exact HF1.out _ _ _ _ _ _ _ _ (pre_callLast hsz HVN.out hlt (by have := hgrow.size; simp at this; omega) hE hown2 hat (by first | exact Nat.le_refl _ | (simp; done) | (simp; omega)) k02) ⟨hE.out.2.2.1, hE.out.2.2.2⟩)
            | (with_reducible exact HF2.out _ _ _ _ _ _ _ _ (pre_callLast hsz HVN.out hlt (by have := hgrow.size; simp at this; omega) hE hown2 hat (by first | exact Nat.le_refl _ | (simp; done) | (simp; omega)) k02) ⟨hE.out.2.2.1, hE.out.2.2.2⟩)
            | (with_reducible exact HF1.out _ _ _ _ _ _ _ _ (pre_appendLast hsz hr HVN.out HVK.out (by first | exact Nat.le_refl _ | (simp; done) | (simp; omega)) hE hown hat (by first | exact Nat.le_refl _ | (simp; done) | (simp; omega)) k02.size (by refine Kx.grown ?_ hgrow (fun g h _ => h); (repeat (first | (with_reducible exact Kx.refl _ _) | (with_reducible apply Kx.drew) | (with_reducible apply Kx.alloc)))) k01) ⟨hE.out.2.2.1, hE.out.2.2.2⟩)
            | (with_reducible exact HF2.out _ _ _ _ _ _ _ _ (pre_appendLast hsz hr HVN.out HVK.out (by first | exact Nat.le_refl _ | (simp; done) | (simp; omega)) hE hown hat (by first | exact Nat.le_refl _ | (simp; done) | (simp; omega)) k02.size (by refine Kx.grown ?_ hgrow (fun g h _ => h); (repeat (first | (with_reducible exact Kx.refl _ _) | (with_reducible apply Kx.drew) | (with_reducible apply Kx.alloc)))) k01) ⟨hE.out.2.2.1, hE.out.2.2.2⟩)
      · rw [if_neg h58] at hr1 hw
        have HW2 := Lib.hid hw
        have HR := Lib.hid hr1
        clear hr1 hw h58
        go_wp2_with fail
        refine (HW2.out _ hI4.rd (by omega)).mono ?_
        rintro e w5 ⟨⟨rfl, hq5⟩, k5⟩
        go_wp2_with fail
        refine ⟨rfl, ?_, K4.trans (HTX.out _ _ k5)⟩
        rw [← HR.out]
        rfl
end Go.Proofs.YtghiboknhjnlkaaDoor
