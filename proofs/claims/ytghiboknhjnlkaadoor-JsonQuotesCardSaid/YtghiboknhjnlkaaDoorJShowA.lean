/- json.show: arrays. -/
import Derived.Test.YtghiboknhjnlkaaDoorJShow
set_option linter.unusedVariables false
set_option linter.unusedSimpArgs false
set_option linter.unnecessarySimpa false
namespace Go.Proofs.YtghiboknhjnlkaaDoor
open Go.RowKit

theorem kid_cellsS {S : Nat → Prop} {w : World} {v : Value} {n : Nat} {kcs : List (List Value)} (h : RowAt S w v n kcs.flatten) (hl : kcs.length = n) (h5 : ∀ c ∈ kcs, c.length = 5) (hn : n ≠ 0) :
    ∃ g o c, v = .slice (some ⟨g, o, none⟩) n c ∧ S g ∧ g < w.heap.size ∧ ∀ j (hj : j < kcs.length) i u, kcs[j][i]? = some u → w.cell? ⟨g, o + j * 5 + i, none⟩ = some u := by
  have h2 := kid_cells h hl h5 hn
  obtain ⟨g, o, c, rfl, h3, h4⟩ := h2
  rcases h with ⟨h1, _⟩ | ⟨g', o', c', hv, hs, _⟩
  · exact absurd h1 hn
  · injection hv with hv _ _
    injection hv with hv
    injection hv with hv _ _
    subst hv
    exact ⟨g, o, c, rfl, hs, h3, h4⟩

/-- a block that is there, not the builder's, below its rows -/
theorem bk_cell {N b : Nat} {w w' : World} (k : BK N b w w') {g : Nat} (h1 : g < N) (h2 : g ≠ b) (hlt : g < w.heap.size) (o : Nat) : w'.cell? ⟨g, o, none⟩ = w.cell? ⟨g, o, none⟩ := by
  have h := Array.getElem?_eq_getElem hlt
  exact World.cell?_of_block (w := w) ((k.block g _ h h2 (fun hr => by omega)).trans h.symm)

/-- a box of a value -/
def Box5 (H : Nat) (cs : List Value) (w : World) : Prop := w.heap[H]? = some (.cells cs.toArray 34 (0, 0))
theorem Box5.bk {N b H : Nat} {cs : List Value} {w w' : World} (h : Box5 H cs w) (k : BK N b w w') (hb : H ≠ b) : Box5 H cs w' := KB.other k h hb (by decide)
theorem Box5.below {H : Nat} {cs : List Value} {w w' : World} (h : Box5 H cs w) (k : Below w.heap.size w w') : Box5 H cs w' := (k.block H (Array.getElem?_eq_some_iff.1 h).1).trans h
theorem Box5.alloc {H : Nat} {cs : List Value} {w : World} (h : Box5 H cs w) (o : Obj) : Box5 H cs (w.alloc o) := (Lib.alloc_old w o H (Array.getElem?_eq_some_iff.1 h).1).trans h
theorem Box5.cell {H : Nat} {cs : List Value} {w : World} (h : Box5 H cs w) (i : Nat) (u : Value) (hu : cs[i]? = some u) : w.cell? ⟨H, i, none⟩ = some u := by
  rw [Lib.cell_of_heap h]
  simpa using hu
theorem Box5.lt {H : Nat} {cs : List Value} {w : World} (h : Box5 H cs w) : H < w.heap.size := (Array.getElem?_eq_some_iff.1 h).1
theorem Box5.new (w : World) (c0 c1 c2 c3 c4 : Value) : Box5 w.heap.size [c0, c1, c2, c3, c4] (w.alloc (.cells #[c0, c1, c2, c3, c4] 34)) := heap_alloc_new w _

theorem jrep_bk {S : Nat → Prop} {N b g : Nat} {w w' : World} {cs : List Value} {J : JV} (h : JRep S w g cs J) (hS : ∀ k, S k → k < N ∧ k ≠ b) (k : BK N b w w') : JRep S w' g cs J :=
  h.keep k.size fun i hi hs => (k.block i _ (Array.getElem?_eq_getElem hi) (hS i hs).2 (fun hr => by have := (hS i hs).1; omega)).trans (Array.getElem?_eq_getElem hi).symm

set_option maxHeartbeats 1000000 in
set_option maxRecDepth 100000 in
theorem show_arrN (n : Nat) (hn1000 : n ≤ 1000) (hIH : ShowC n) (g : Nat) (S : Nat → Prop) (N b : Nat) (acc : List UInt8) (w : World) (t : List UInt8) (ns : List (List UInt8)) (ks : List JV) (p dz : Int) (hdz : dz = n + 1) (a1 : Option Addr) (n1 c1 : Nat) (a2 : Option Addr) (c2 : Nat) (kcs : List (List Value))
    (hl : kcs.length = ks.length) (hk : RowAt S w (.slice a2 ks.length c2) ks.length kcs.flatten) (hj : ∀ j (h : j < kcs.length) (h2 : j < ks.length), JRep S w g kcs[j] ks[j]) (hsm : ∀ x ∈ ks, JSm g x) (hkl : ks.length ≤ 1000000000000) (hS : ∀ k, S k → k < N ∧ k ≠ b)
    (hB : Bld N b acc w) (hN : N ≤ w.heap.size) (hln : acc.length + ([91] ++ showKids (jShow n) false ns 0 ks ++ [93]).length ≤ 70368744177664) :
    Calls Tryd.prog 65 #[BP b, .agg (cells5 6 t a1 n1 c1 a2 ks.length c2 p).toArray, .int .i64 dz] w fun e w' => ShowE N b (acc ++ ([91] ++ showKids (jShow n) false ns 0 ks ++ [93])) w e w' := by
  have hbl := hB.lt
  have hd0 : (dz == 0) = false := by rw [beq_eq_false_iff_ne]; omega
  have HDZ := Lib.hid hdz
  have hdz1 : 1 ≤ dz := by omega
  have hdz2 : dz ≤ 1001 := by omega
  by_cases h0 : ks.length = 0
  · have e1 : ks = [] := List.eq_nil_of_length_eq_zero h0
    subst e1
    clear hj hsm hl hdz hd0
    simp only [showKids] at hln ⊢
    have hx := Box5.new w (.int .i64 6) (.string ⟨t.toArray⟩) (.slice a1 n1 c1) (.slice a2 0 c2) (.int .i64 p)
    go_enter Tryd.func65, Tryd.ntmps65
    go_wp2_with fail
    refine (writeByte N b acc 91 _ (hB.alloc _) (by simp at hln; omega) (by simp; omega)).mono ?_
    rintro e w1 ⟨rfl, hB1, k1⟩
    have hx1 := hx.bk k1 (by omega)
    have x3 := hx1.cell 3 _ rfl
    go_wp2_with fail
    refine wp_loop_rounds 1 ?_
    rw [rounds_succ]
    go_wp2_with fail
    refine (writeByte N b _ 93 _ hB1 (by simp at hln ⊢; omega) (by have := k1.size; simp at this; omega)).mono ?_
    rintro e w2 ⟨rfl, hB2, k2⟩
    go_wp2_with fail
    refine bodyPost_ret (results_none rfl _ _ _) rfl ?_
    refine showE (by simpa using hB2) (((bk_alloc _).trans k1).trans k2)
  · obtain ⟨ga, oa, ca, hv, hSg, hga, hca⟩ := kid_cellsS hk hl (jrep_len5 hl hj) h0
    injection hv with hv1 _ hv2
    subst hv1 hv2
    have hx := fun v => Box5.new w (.int .i64 6) (.string ⟨t.toArray⟩) (.slice a1 n1 c1) v (.int .i64 p)
    have hgN := hS _ hSg
    clear hdz
    go_enter Tryd.func65, Tryd.ntmps65
    go_wp2_with fail
    refine (writeByte N b acc 91 _ (hB.alloc _) (by simp at hln; omega) (by simp; omega)).mono ?_
    rintro e w1 ⟨rfl, hB1, k1⟩
    have hx1 := (hx _).bk k1 (by omega)
    have x3 := hx1.cell 3 _ rfl
    have hk1 := (bk_alloc _).trans k1
    go_wp2_with fail
    go_loopw [42] (fun v wr => ∃ (i : Nat) (acc' : List UInt8), v = .int .i64 i ∧ i ≤ ks.length ∧ Bld N b acc' wr ∧ BK N b w wr ∧ Box5 w.heap.size (cells5 6 t a1 n1 c1 (some ⟨ga, oa, none⟩) ks.length c2 p) wr ∧ Hid (acc' ++ showKids (jShow n) false ns i (ks.drop i) = acc ++ [91] ++ showKids (jShow n) false ns 0 ks)) (fun v _ => ks.length - (intOf v).toNat)
    case atStart => exact ⟨0, _, rfl, Nat.zero_le _, hB1, hk1, hx1, rfl⟩
    case round =>
      obtain ⟨i, acc', rfl, hi, hBw, hkw, hxw, HA⟩ := hrel
      have hsz := hkw.size
      by_cases hlt : i < ks.length
      · have hka : i < kcs.length := by omega
        have JA := hj i hka hlt
        obtain ⟨k0, t0, vn0, vk0, p0, e0, ⟨a3, c3, m3, rfl⟩, ⟨a4, c4, m4, rfl⟩⟩ := jrep_cells JA
        have fa : ∀ j u, kcs[i][j]? = some u → wr.cell? ⟨ga, oa + i * 5 + j, none⟩ = some u := fun j u hu => (bk_cell hkw hgN.1 hgN.2 hga _).trans (hca i hka j u hu)
        rw [e0] at fa JA
        have q0 := fa 0 _ rfl
        have q1 := fa 1 _ rfl
        have q2 := fa 2 _ rfl
        have q3 := fa 3 _ rfl
        have q4 := fa 4 _ rfl
        simp only [Nat.add_zero] at q0
        have hd : ks.drop i = ks[i] :: ks.drop (i + 1) := List.drop_eq_getElem_cons hlt
        have HJA := Lib.hid JA
        have HSM := hsm _ (List.getElem_mem hlt)
        have hA := HA.out
        rw [hd, showKids] at hA
        simp only [Bool.false_eq_true, false_and, if_false, List.append_nil] at hA
        generalize ks[i] = K at *
        have HA2 := Lib.hid hA
        have hAl := congrArg List.length hA
        simp only [List.length_append, List.length_cons, List.length_nil] at hAl hln
        have hln2 : acc'.length + (if 0 < i then [44] else [] : List UInt8).length + (jShow n K).length ≤ 70368744177664 := by omega
        have hxa := fun o => (hxw.alloc o).cell 0 _ rfl
        have hya := Box5.new wr (.int .i64 k0) (.string t0) (.slice a3 m3 c3) (.slice a4 m4 c4) (.int .i64 p0)
        have HX := Lib.hid hxw
        clear JA fa hA hd hca hj hl x3 hAl hln hk HA hxw hx
        rcases Nat.eq_zero_or_pos i with hi0 | hi0
        · have hi1 : ¬ 0 < i := by omega
          rw [if_neg hi1] at hln2
          simp only [List.length_nil, Nat.add_zero] at hln2
          clear hya hi0
          go_wp2_with fail
          refine (hIH g S N b acc' _ [.int .i64 k0, .string t0, .slice a3 m3 c3, .slice a4 m4 c4, .int .i64 p0] K (dz - 1) (by have := HDZ.out; omega) (jrep_bk HJA.out hS (hkw.trans (bk_alloc _))) HSM hS (hBw.alloc _) (by simp; omega) hln2).mono ?_
          rintro e W2 ⟨rfl, hB2, k2⟩
          have hF : Hid ((acc' ++ jShow n K) ++ showKids (jShow n) false ns (i + 1) (ks.drop (i + 1)) = acc ++ [91] ++ showKids (jShow n) false ns 0 ks) := by
            show _ = _
            rw [← HA2.out, if_neg hi1]
            simp
          have hk2 := (hkw.trans (bk_alloc _)).trans k2
          have hx2 := (HX.out.alloc _).bk k2 (by omega)
          clear hln2 hxa
          go_wp2_with fail
          go_roundw
          case rel => exact ⟨i + 1, _, by go_num, by omega, hB2, hk2, hx2, hF⟩
          case measure => simp [intOf]; omega
        · rw [if_pos hi0] at hln2
          simp only [List.length_cons, List.length_nil, Nat.zero_add] at hln2
          have HYA := Lib.hid hya
          clear hya hxa
          go_wp2_with fail
          refine (writeByte N b acc' 44 _ (hBw.alloc _) (by omega) (by simp; omega)).mono ?_
          rintro e W1 ⟨rfl, hB1', k1'⟩
          have hy := HYA.out.bk k1' (by omega)
          have y0 := hy.cell 0 _ rfl
          have y1 := hy.cell 1 _ rfl
          have y2 := hy.cell 2 _ rfl
          have y3 := hy.cell 3 _ rfl
          have y4 := hy.cell 4 _ rfl
          have hx1' := (HX.out.alloc _).bk k1' (by omega)
          have x0 := hx1'.cell 0 _ rfl
          have hk1' := (hkw.trans (bk_alloc _)).trans k1'
          have hs1 := hk1'.size
          clear hy
          go_wp2_with fail
          refine (hIH g S N b _ _ [.int .i64 k0, .string t0, .slice a3 m3 c3, .slice a4 m4 c4, .int .i64 p0] K (dz - 1) (by have := HDZ.out; omega) (jrep_bk HJA.out hS hk1') HSM hS hB1' (by omega) (by simp; omega)).mono ?_
          rintro e W2 ⟨rfl, hB2, k2⟩
          have hF : Hid ((acc' ++ [44] ++ jShow n K) ++ showKids (jShow n) false ns (i + 1) (ks.drop (i + 1)) = acc ++ [91] ++ showKids (jShow n) false ns 0 ks) := by
            show _ = _
            rw [← HA2.out, if_pos hi0]
            simp
          have hk2 := hk1'.trans k2
          have hx2 := hx1'.bk k2 (by omega)
          clear y0 y1 y2 y3 y4 x0 hx1'
          go_wp2_with fail
          go_roundw
          case rel => exact ⟨i + 1, _, by go_num, by omega, hB2, hk2, hx2, hF⟩
          case measure => simp [intOf]; omega
      · have hA := HA.out
        rw [List.drop_of_length_le (by omega)] at hA
        simp only [showKids, List.append_nil] at hA
        subst hA
        clear HA
        go_wp2_with fail
        refine (writeByte N b _ 93 _ hBw (by simp at hln ⊢; omega) (by omega)).mono ?_
        rintro e w2 ⟨rfl, hB2, k2⟩
        go_wp2_with fail
        refine bodyPost_ret (results_none rfl _ _ _) rfl ?_
        exact showE (by simpa using hB2) (hkw.trans k2)
end Go.Proofs.YtghiboknhjnlkaaDoor
