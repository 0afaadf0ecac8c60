/- stetlaw17.copied: a value as new memory. -/
import Derived.Test.YtghiboknhjnlkaaDoorJCopyP
set_option linter.unusedVariables false
set_option linter.unusedSimpArgs false
set_option linter.unnecessarySimpa false
namespace Go.Proofs.YtghiboknhjnlkaaDoor
open Go.RowKit

/-- how copied ends -/
def CopyE (f : Nat) (V : JV) (w : World) (e : Ending) (w' : World) : Prop := ∃ cs : List Value, e = .returned (.agg cs.toArray) ∧ JRep (fun k => w.heap.size ≤ k) w' f cs V ∧ Below w.heap.size w w'
def CopyC (f : Nat) : Prop :=
  ∀ (S : Nat → Prop) (w : World) (cs : List Value) (V : JV) (dz : Int), (f : Int) ≤ dz → dz ≤ 1000 → JRep S w f cs V → JSm f V → (∀ k, S k → k < w.heap.size) →
    Calls Tryd.prog 31 #[.agg cs.toArray, .int .i64 dz] w fun e w' => CopyE f V w e w'

theorem copy_start (w : World) (bx : List Value) : ∀ W, W = (((w.alloc (.cells bx.toArray 34)).alloc (.cells zeroV.toArray 34)).alloc (.cells #[] 9)).alloc (.cells #[] 34) →
    Box5 w.heap.size bx W ∧ Box5 (w.heap.size + 1) zeroV W ∧ W.ownsRow (w.heap.size + 2) 9 1 (.slice (some ⟨w.heap.size + 2, 0, none⟩) 0 0) 0 [] ∧ W.ownsRow (w.heap.size + 2) 34 5 (.slice (some ⟨w.heap.size + 3, 0, none⟩) 0 0) 0 [] ∧ Below w.heap.size w W ∧ W.heap.size = w.heap.size + 4 := by
  rintro W rfl
  have h1 := heap_alloc_new w (.cells bx.toArray 34)
  have h2 := heap_alloc_new2 w (.cells bx.toArray 34) (.cells zeroV.toArray 34)
  have h3 := heap_alloc_new2 (w.alloc (.cells bx.toArray 34)) (.cells zeroV.toArray 34) (.cells #[] 9)
  have h4 := heap_alloc_new2 ((w.alloc (.cells bx.toArray 34)).alloc (.cells zeroV.toArray 34)) (.cells #[] 9) (.cells #[] 34)
  simp only [World.size_alloc] at h3 h4
  refine ⟨?_, ?_, ⟨rfl, .inr ⟨w.heap.size + 2, 0, #[], rfl, Nat.le_refl _, ?_, Nat.le_refl _, Nat.zero_le _, rfl, rfl⟩⟩, ⟨rfl, .inr ⟨w.heap.size + 3, 0, #[], rfl, by omega, h4, Nat.le_refl _, Nat.zero_le _, rfl, rfl⟩⟩, ?_, by simp⟩
  · exact Box5.alloc (Box5.alloc (Box5.alloc h1 _) _) _
  · exact Box5.alloc (Box5.alloc h2 _) _
  · rw [Lib.alloc_old _ _ _ (by simp)]
    exact h3
  · exact ((((Below.refl _ w).alloc (Nat.le_refl _) _).alloc (by simp) _).alloc (by simp <;> omega) _).alloc (by simp <;> omega) _

-- BELOW: gen_jcopy.py
theorem strs_one (ns : List (List UInt8)) : ∀ u ∈ ns.map strV, u.oneCell' = true := by
  intro u hu
  obtain ⟨x, _, rfl⟩ := List.mem_map.1 hu
  rfl

theorem news5 (W : World) (t : TypeId) (c0 c1 c2 c3 c4 : Value) : ∀ (j : Nat) (u : Value), [c0, c1, c2, c3, c4][j]? = some u → (W.alloc (.cells #[c0, c1, c2, c3, c4] t)).cell? ((⟨W.heap.size, 0, none⟩ : Addr).add j) = some u := by
  intro j u hu
  have hadd : (⟨W.heap.size, 0, none⟩ : Addr).add j = ⟨W.heap.size, j, none⟩ := by simp [Addr.add]; omega
  rw [hadd, Lib.cell_of_heap (heap_alloc_new W _)]
  simpa using hu
theorem one5 (k : Int) (t : ByteArray) (a1 : Option Addr) (n1 c1 : Nat) (a2 : Option Addr) (n2 c2 : Nat) (p : Int) : ∀ u ∈ ([.int .i64 k, .string t, .slice a1 n1 c1, .slice a2 n2 c2, .int .i64 p] : List Value), u.oneCell' = true := by
  intro u hu
  simp only [List.mem_cons, List.not_mem_nil, or_false] at hu
  rcases hu with rfl | rfl | rfl | rfl | rfl <;> rfl

theorem copy_done {H : Nat} {ns : List (List UInt8)} {ks : List JV} {f : Nat} {w : World} {bx : List Value} {a1 : Option Addr} {n1 c1 : Nat} {a2 : Option Addr} {n2 c2 : Nat} {kcs : List (List Value)} {wr : World} {k : Int} {t : List UInt8} {p : Int}
    (hI : CopyI H ns ks f w bx (.slice a1 n1 c1) (.slice a2 n2 c2) ks.length kcs wr) (hH : w.heap.size = H) (u0 u1 c0 c1' c2' c3 c4 : Value) :
    ∀ W, W = set5 ((wr.setCell ⟨H, 2, none⟩ u0).setCell ⟨H, 3, none⟩ u1) (H + 1) 0 c0 c1' c2' c3 c4 → JRep (fun i => H ≤ i) W (f + 1) [.int .i64 k, strV t, .slice a1 n1 c1, .slice a2 n2 c2, .int .i64 p] (.mk k t ns ks p) ∧ Below H w W := by
  rintro W rfl
  have hsz := hI.size
  have K : Kx (fun i => i = H ∨ i = H + 1) wr (set5 ((wr.setCell ⟨H, 2, none⟩ u0).setCell ⟨H, 3, none⟩ u1) (H + 1) 0 c0 c1' c2' c3 c4) :=
    set5_kx (((Kx.refl _ wr).setCell ⟨H, 2, none⟩ (fun _ => .inl rfl) u0).setCell ⟨H, 3, none⟩ (fun _ => .inl rfl) u1) (H + 1) 0 c0 c1' c2' c3 c4 (.inr rfl)
  refine ⟨⟨_, _, rfl, ?_, kcs, hI.len, ?_, fun j h1 h2 => ?_⟩, ?_⟩
  · exact ((RowAt.of_own (World.ownsRowF_of hI.names)).mono (T := fun k => H + 2 ≤ k) (fun k _ e => (hI.names.lt k e).1)).kx K (fun k hk e => by omega) |>.mono (fun k _ hk => by omega)
  · exact ((RowAt.of_own (World.ownsRowF_of hI.kids)).mono (T := fun k => H + 2 ≤ k) (fun k _ e => (hI.kids.lt k e).1)).kx K (fun k hk e => by omega) |>.mono (fun k _ hk => by omega)
  · exact ((hI.each j h1 h2).mono (T := fun k => H + 2 ≤ k) (fun k _ e => e.1)).kx K (fun k hk e => by omega) |>.mono (fun k _ hk => by omega)
  · exact hI.below.trans (K.below H (by omega) (by omega))

set_option maxHeartbeats 1000000 in
set_option maxRecDepth 100000 in
theorem copied_step (f : Nat) (hIH : CopyC f) : CopyC (f + 1) := by
  intro S w cs V dz hdz hdz2 hJ hsm hS
  obtain ⟨k, t, ns, ks, p⟩ := V
  obtain ⟨vn, vk, rfl, hnm, kcs, hl, hk, hj⟩ := hJ
  obtain ⟨ht, hs1, hs2, hs3, hs4⟩ := hsm
  obtain ⟨a1, c1, rfl⟩ := hnm.slice
  obtain ⟨a2, c2, rfl⟩ := hk.slice
  have hdz0 : 0 < dz := by omega
  have HDZ := Lib.hid hdz
  obtain ⟨i0, hi, hy0, hy1, hy2⟩ := info_parts infoString
  obtain ⟨i1, gi, gy0, gy1, gy2⟩ := info_parts infoValue
  have HNM := Lib.hid (fun W (h : Below w.heap.size w W) => hnm.keep (w' := W) h.size (fun i hi _ => h.block i hi))
  have HL : Hid ((ns.map strV).length = ns.length) := List.length_map ..
  have h5 := jrep_len5 hl hj
  clear hnm hs2 hdz
  by_cases h0 : ks.length = 0
  · obtain rfl : ks = [] := List.eq_nil_of_length_eq_zero h0
    clear hj hk hl hs4
    have HST := Lib.hid (fun W h => copy_start w [.int .i64 k, strV t, .slice a1 ns.length c1, .slice a2 0 c2, .int .i64 p] W h)
    go_enter Tryd.func31, Tryd.ntmps31
    go_upto_region 3 with (fail)
    obtain ⟨hb0, hr0, hn0, hk0, hbl0, hsz0⟩ := HST.out _ rfl
    generalize (((w.alloc _).alloc _).alloc _).alloc _ = W0 at *
    have HSZ := Lib.hid hsz0
    have x2 := hb0.cell 2 _ rfl
    have HN0 := Lib.hid hn0
    have HK0 := Lib.hid hk0
    clear hn0 hk0 hsz0 HST
    go_wp2_with (at_builtin; refine wpList_append_row rfl _ _ _ rfl (w.heap.size + 2) 9 i0 _ 16 Tryd.underlying31 hi hy0 hy1 hy2 rfl (w.heap.size + 2) 0 rfl HN0.out S _ ns.length (ns.map strV) rfl (HNM.out _ hbl0) HL.out (strs_one ns) (by unfold maxLen; omega) (by omega) (by rw [HSZ.out]; omega) ?_; intro g1 cap1 W1 hn1 hg1)
    have HN1 := Lib.hid hn1
    have HG1 := Lib.hid hg1
    have hne1 : (some (w.heap.size + 2) : Option Nat) ≠ some w.heap.size := by intro e; injection e with e; omega
    have hne2 : (some (w.heap.size + 2) : Option Nat) ≠ some (w.heap.size + 1) := by intro e; injection e with e; omega
    have hI0 : CopyI w.heap.size ns [] f w [.int .i64 k, strV t, .slice a1 ns.length c1, .slice a2 0 c2, .int .i64 p] (.slice (some ⟨g1, 0, none⟩) ns.length cap1) (.slice (some ⟨w.heap.size + 3, 0, none⟩) 0 0) 0 [] W1 := {
      bx := hb0.grown hg1 hne1
      res := hr0.grown hg1 hne2
      names := hn1
      len := rfl
      kids := ⟨rfl, .inr ⟨w.heap.size + 3, 0, #[], rfl, by omega, by
        obtain ⟨hx, hy | ⟨g', cap', cur', hv, _, hh, _, _, hsz, _⟩⟩ := HK0.out
        · cases hy.1
        · injection hv with hv _ hv2
          injection hv with hv
          injection hv with hv _ _
          subst hv hv2
          rw [hg1.block (w.heap.size + 3) (by rw [HSZ.out]; omega) (by intro e; injection e with e; omega), hh]
          congr 2
          apply Array.eq_empty_of_size_eq_zero
          omega, Nat.le_refl _, Nat.zero_le _, rfl, rfl⟩⟩
      each := fun j h => by simp at h
      below := hbl0.grown hg1 (by rw [HSZ.out]; omega) (fun g hg => by injection hg with hg; omega)
      size := by have := hg1.size; have := HSZ.out; omega }
    have HI0 := Lib.hid hI0
    clear hn1 hg1 hI0 hb0 hr0 hbl0 x2 HN0 HK0 HG1 HN1 hne1 hne2
    have x3 := HI0.out.bx.cell 3 _ rfl
    go_wp2_with fail
    have HIE := HI0
    refine wp_loop_rounds 1 ?_
    rw [rounds_succ]
    clear x3
    have hIe := HIE.out
    have x0 := hIe.bx.cell 0 _ rfl
    have x1 := hIe.bx.cell 1 _ rfl
    have x2 := hIe.bx.cell 2 _ rfl
    have x3 := hIe.bx.cell 3 _ rfl
    have x4 := hIe.bx.cell 4 _ rfl
    have z2 := Lib.frozen_of_heap hIe.bx 2
    have z3 := Lib.frozen_of_heap hIe.bx 3
    have r0 := hIe.res.cell 0 _ rfl
    have r1 := hIe.res.cell 1 _ rfl
    have r2 := hIe.res.cell 2 _ rfl
    have r3 := hIe.res.cell 3 _ rfl
    have r4 := hIe.res.cell 4 _ rfl
    have y0 := Lib.frozen_of_heap hIe.res 0
    have y1 := Lib.frozen_of_heap hIe.res 1
    have y2 := Lib.frozen_of_heap hIe.res 2
    have y3 := Lib.frozen_of_heap hIe.res 3
    have y4 := Lib.frozen_of_heap hIe.res 4
    clear hIe
    unfold strV at x1
    go_wp2_with fail
    refine bodyPost_ret (v := .agg #[.int .i64 k, .string ⟨t.toArray⟩, .slice (some ⟨g1, 0, none⟩) ns.length cap1, (.slice (some ⟨w.heap.size + 3, 0, none⟩) 0 0), .int .i64 p]) (by simp [results, Tryd.results31, go_sem, x0, x1, x2, x3, x4, r0, r1, r2, r3, r4]) rfl ?_
    obtain ⟨e1, e2⟩ := copy_done HIE.out rfl (.slice (some ⟨g1, 0, none⟩) ns.length cap1) (.slice (some ⟨w.heap.size + 3, 0, none⟩) 0 0) (.int .i64 k) (strV t) (.slice (some ⟨g1, 0, none⟩) ns.length cap1) (.slice (some ⟨w.heap.size + 3, 0, none⟩) 0 0) (.int .i64 p) (k := k) (t := t) (p := p) _ rfl
    exact ⟨_, rfl, e1, e2⟩
  · obtain ⟨ga, oa, ca, hv, hSg, hga, hca⟩ := kid_cellsS hk hl h5 h0
    injection hv with hv1 _ hv2
    subst hv1 hv2
    have HCA := Lib.hid hca
    have HJ := Lib.hid hj
    have HSM := Lib.hid hs4
    have H5 := Lib.hid h5
    have HLK := Lib.hid hl
    clear hca hj hs4 h5 hl hk
    have HST := Lib.hid (fun W h => copy_start w [.int .i64 k, strV t, .slice a1 ns.length c1, .slice (some ⟨ga, oa, none⟩) ks.length c2, .int .i64 p] W h)
    go_enter Tryd.func31, Tryd.ntmps31
    go_upto_region 3 with (fail)
    obtain ⟨hb0, hr0, hn0, hk0, hbl0, hsz0⟩ := HST.out _ rfl
    generalize (((w.alloc _).alloc _).alloc _).alloc _ = W0 at *
    have HSZ := Lib.hid hsz0
    have x2 := hb0.cell 2 _ rfl
    have HN0 := Lib.hid hn0
    have HK0 := Lib.hid hk0
    clear hn0 hk0 hsz0 HST
    go_wp2_with (at_builtin; refine wpList_append_row rfl _ _ _ rfl (w.heap.size + 2) 9 i0 _ 16 Tryd.underlying31 hi hy0 hy1 hy2 rfl (w.heap.size + 2) 0 rfl HN0.out S _ ns.length (ns.map strV) rfl (HNM.out _ hbl0) HL.out (strs_one ns) (by unfold maxLen; omega) (by omega) (by rw [HSZ.out]; omega) ?_; intro g1 cap1 W1 hn1 hg1)
    have HN1 := Lib.hid hn1
    have HG1 := Lib.hid hg1
    have hne1 : (some (w.heap.size + 2) : Option Nat) ≠ some w.heap.size := by intro e; injection e with e; omega
    have hne2 : (some (w.heap.size + 2) : Option Nat) ≠ some (w.heap.size + 1) := by intro e; injection e with e; omega
    have hI0 : CopyI w.heap.size ns ks f w [.int .i64 k, strV t, .slice a1 ns.length c1, .slice (some ⟨ga, oa, none⟩) ks.length c2, .int .i64 p] (.slice (some ⟨g1, 0, none⟩) ns.length cap1) (.slice (some ⟨w.heap.size + 3, 0, none⟩) 0 0) 0 [] W1 := {
      bx := hb0.grown hg1 hne1
      res := hr0.grown hg1 hne2
      names := hn1
      len := rfl
      kids := ⟨rfl, .inr ⟨w.heap.size + 3, 0, #[], rfl, by omega, by
        obtain ⟨hx, hy | ⟨g', cap', cur', hv, _, hh, _, _, hsz, _⟩⟩ := HK0.out
        · cases hy.1
        · injection hv with hv _ hv2
          injection hv with hv
          injection hv with hv _ _
          subst hv hv2
          rw [hg1.block (w.heap.size + 3) (by rw [HSZ.out]; omega) (by intro e; injection e with e; omega), hh]
          congr 2
          apply Array.eq_empty_of_size_eq_zero
          omega, Nat.le_refl _, Nat.zero_le _, rfl, rfl⟩⟩
      each := fun j h => by simp at h
      below := hbl0.grown hg1 (by rw [HSZ.out]; omega) (fun g hg => by injection hg with hg; omega)
      size := by have := hg1.size; have := HSZ.out; omega }
    have HI0 := Lib.hid hI0
    clear hn1 hg1 hI0 hb0 hr0 hbl0 x2 HN0 HK0 HG1 HN1 hne1 hne2
    go_wp2_with fail
    go_loopw [6, 7] (fun v6 v7 wr => ∃ (i : Nat) (kc : List (List Value)) (a6 : Option Addr) (n6 c6 : Nat), v7 = .int .i64 i ∧ v6 = .slice a6 n6 c6 ∧ i ≤ ks.length ∧ Hid (CopyI w.heap.size ns ks f w [.int .i64 k, strV t, .slice a1 ns.length c1, .slice (some ⟨ga, oa, none⟩) ks.length c2, .int .i64 p] (.slice (some ⟨g1, 0, none⟩) ns.length cap1) (.slice a6 n6 c6) i kc wr)) (fun _ v7 _ => ks.length - (intOf v7).toNat)
    case atStart => exact ⟨0, [], _, _, _, rfl, rfl, Nat.zero_le _, HI0⟩
    case round =>
      obtain ⟨i, kc, a6, n6, c6, rfl, rfl, hik, HI⟩ := hrel
      have x3 := HI.out.bx.cell 3 _ rfl
      by_cases hlt : i < ks.length
      · have hka : i < kcs.length := by have := HLK.out; omega
        have hbw := HI.out.below
        have JA := (HJ.out i hka hlt).keep hbw.size (fun j _ hs => hbw.block j (hS j hs))
        obtain ⟨k0, t0, vn0, vk0, p0, e0, ⟨a3, c3, m3, rfl⟩, ⟨a4, c4, m4, rfl⟩⟩ := jrep_cells JA
        have fa : ∀ j u, kcs[i][j]? = some u → wr.cell? ⟨ga, oa + i * 5 + j, none⟩ = some u := fun j u hu => (hbw.cell (p := ⟨ga, _, none⟩) hga).trans (HCA.out i hka j u hu)
        rw [e0] at fa JA
        have q0 := fa 0 _ rfl
        have q1 := fa 1 _ rfl
        have q2 := fa 2 _ rfl
        have q3 := fa 3 _ rfl
        have q4 := fa 4 _ rfl
        simp only [Nat.add_zero] at q0
        have HCP := Lib.hid (hIH S wr [.int .i64 k0, .string t0, .slice a3 m3 c3, .slice a4 m4 c4, .int .i64 p0] ks[i] (dz - 1) (by have := HDZ.out; omega) (by omega) JA (HSM.out _ (List.getElem_mem hlt)) (fun j h => Nat.lt_of_lt_of_le (hS j h) hbw.size))
        have hsw := HI.out.size
        clear fa JA e0 hbw
        go_wp2_with fail
        refine HCP.out.mono ?_
        rintro e W2 ⟨cs', rfl, hJ2, b2⟩
        obtain ⟨k5, t5, vn5, vk5, p5, rfl, ⟨a5, c5, m5, rfl⟩, ⟨a7, c7, m7, rfl⟩⟩ := jrep_cells hJ2
        have HJ2 := Lib.hid hJ2
        have HB2 := Lib.hid b2
        have hown2 := ownsRow_keep (w' := W2) HI.out.kids (fun j hj _ => b2.block j hj)
        have hs2 := b2.size
        have HOW := Lib.hid hown2
        clear hJ2 b2 hown2 q0 q1 q2 q3 q4 HCP x3
        go_wp2_with (at_builtin; refine wpList_append_lies _ rfl _ _ _ rfl (w.heap.size + 2) 34 i1 _ 5 80 Tryd.underlying32 gi gy0 gy1 gy2 rfl (by decide) (.slice a6 n6 c6) i kc.flatten rfl (HOW.out.alloc _) ⟨_, 0, none⟩ 1 1 [.int .i64 k5, .string t5, .slice a5 m5 c5, .slice a7 m7 c7, .int .i64 p5] rfl rfl (news5 _ _ _ _ _ _ _) (one5 _ _ _ _ _ _ _ _ _) (by decide) (by unfold maxLen; omega) (by omega) (by simp; omega) _ rfl ?_; intro g cap w3 hown hgrow hat hlt3)
        have hI3 := Lib.hid (copy_next (cs := [.int .i64 k5, .string t5, .slice a5 m5 c5, .slice a7 m7 c7, .int .i64 p5]) HI.out hlt HJ2.out HB2.out hown hgrow (by rcases hat with h | h; exact .inl h; exact .inr (by simpa using h)))
        clear hown hgrow hat hlt3 HOW
        go_wp2_with fail
        go_roundw
        case rel => exact ⟨i + 1, _, _, _, _, by go_num, rfl, by omega, hI3⟩
        case measure => simp [intOf]; omega
      · have hie : i = ks.length := by omega
        have HIE := HI
        rw [hie] at HIE
        clear HI hie x3
        have hIe := HIE.out
        have x0 := hIe.bx.cell 0 _ rfl
        have x1 := hIe.bx.cell 1 _ rfl
        have x2 := hIe.bx.cell 2 _ rfl
        have x3 := hIe.bx.cell 3 _ rfl
        have x4 := hIe.bx.cell 4 _ rfl
        have z2 := Lib.frozen_of_heap hIe.bx 2
        have z3 := Lib.frozen_of_heap hIe.bx 3
        have r0 := hIe.res.cell 0 _ rfl
        have r1 := hIe.res.cell 1 _ rfl
        have r2 := hIe.res.cell 2 _ rfl
        have r3 := hIe.res.cell 3 _ rfl
        have r4 := hIe.res.cell 4 _ rfl
        have y0 := Lib.frozen_of_heap hIe.res 0
        have y1 := Lib.frozen_of_heap hIe.res 1
        have y2 := Lib.frozen_of_heap hIe.res 2
        have y3 := Lib.frozen_of_heap hIe.res 3
        have y4 := Lib.frozen_of_heap hIe.res 4
        clear hIe
        unfold strV at x1
        go_wp2_with fail
        refine bodyPost_ret (v := .agg #[.int .i64 k, .string ⟨t.toArray⟩, .slice (some ⟨g1, 0, none⟩) ns.length cap1, (.slice a6 n6 c6), .int .i64 p]) (by simp [results, Tryd.results31, go_sem, x0, x1, x2, x3, x4, r0, r1, r2, r3, r4]) rfl ?_
        obtain ⟨e1, e2⟩ := copy_done HIE.out rfl (.slice (some ⟨g1, 0, none⟩) ns.length cap1) (.slice a6 n6 c6) (.int .i64 k) (strV t) (.slice (some ⟨g1, 0, none⟩) ns.length cap1) (.slice a6 n6 c6) (.int .i64 p) (k := k) (t := t) (p := p) _ rfl
        exact ⟨_, rfl, e1, e2⟩

theorem copied_any : ∀ f, CopyC f
  | 0 => fun S w cs V dz _ _ h _ _ => h.elim
  | f + 1 => copied_step f (copied_any f)
end Go.Proofs.YtghiboknhjnlkaaDoor
