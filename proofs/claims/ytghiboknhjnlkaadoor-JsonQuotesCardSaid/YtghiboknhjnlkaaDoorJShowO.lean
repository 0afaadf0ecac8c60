/- json.show: objects. -/
import Derived.Test.YtghiboknhjnlkaaDoorJShowA
import Derived.Deep.DeepCutAuto
set_option linter.unusedVariables false
set_option linter.unusedSimpArgs false
set_option linter.unnecessarySimpa false
namespace Go.Proofs.YtghiboknhjnlkaaDoor
open Go.RowKit

theorem row_cellsS {S : Nat → Prop} {w : World} {v : Value} {ns : List (List UInt8)} (h : RowAt S w v ns.length (ns.map strV)) (i : Nat) (hi : i < ns.length) :
    ∃ g o c, v = .slice (some ⟨g, o, none⟩) ns.length c ∧ S g ∧ g < w.heap.size ∧ w.cell? ⟨g, o + i, none⟩ = some (strV ns[i]) := by
  rcases h with ⟨h1, _⟩ | ⟨g, o, c, rfl, hs, hg, hc⟩
  · omega
  · refine ⟨g, o, c, rfl, hs, hg, hc i _ (by simp [hi])⟩

set_option maxHeartbeats 1000000 in
set_option maxRecDepth 100000 in
theorem show_objN (n : Nat) (hn1000 : n ≤ 1000) (hIH : ShowC n) (g : Nat) (S : Nat → Prop) (N b : Nat) (acc : List UInt8) (w : World) (t : List UInt8) (ns : List (List UInt8)) (ks : List JV) (p dz : Int) (hdz : dz = n + 1) (a1 : Option Addr) (c1 : Nat) (a2 : Option Addr) (c2 : Nat) (kcs : List (List Value))
    (hl : kcs.length = ks.length) (hk : RowAt S w (.slice a2 ks.length c2) ks.length kcs.flatten) (hj : ∀ j (h : j < kcs.length) (h2 : j < ks.length), JRep S w g kcs[j] ks[j]) (hnm : RowAt S w (.slice a1 ns.length c1) ns.length (ns.map strV)) (hnl : ∀ x ∈ ns, x.length ≤ 1000000000000) (hsm : ∀ x ∈ ks, JSm g x) (hkl : ks.length ≤ 1000000000000) (hS : ∀ k, S k → k < N ∧ k ≠ b)
    (hB : Bld N b acc w) (hN : N ≤ w.heap.size) (hln : acc.length + ([123] ++ showKids (jShow n) true ns 0 ks ++ [125]).length ≤ 70368744177664) :
    Calls Tryd.prog 65 #[BP b, .agg (cells5 7 t a1 ns.length c1 a2 ks.length c2 p).toArray, .int .i64 dz] w fun e w' => ShowE N b (acc ++ ([123] ++ showKids (jShow n) true ns 0 ks ++ [125])) w e w' := by
  have hbl := hB.lt
  have hd0 : (dz == 0) = false := by rw [beq_eq_false_iff_ne]; omega
  have HDZ := Lib.hid hdz
  have hdz1 : 1 ≤ dz := by omega
  have hdz2 : dz ≤ 1001 := by omega
  by_cases h0 : ks.length = 0
  · have e1 : ks = [] := List.eq_nil_of_length_eq_zero h0
    subst e1
    clear hj hsm hl hdz hd0
    simp only [showKids] at hln ⊢
    have hx := Box5.new w (.int .i64 7) (.string ⟨t.toArray⟩) (.slice a1 ns.length c1) (.slice a2 0 c2) (.int .i64 p)
    go_enter Tryd.func65, Tryd.ntmps65
    go_wp2_with fail
    refine (writeByte N b acc 123 _ (hB.alloc _) (by simp at hln; omega) (by simp; omega)).mono ?_
    rintro e w1 ⟨rfl, hB1, k1⟩
    have hx1 := hx.bk k1 (by omega)
    have x3 := hx1.cell 3 _ rfl
    go_wp2_with fail
    refine wp_loop_rounds 1 ?_
    rw [rounds_succ]
    go_wp2_with fail
    refine (writeByte N b _ 125 _ hB1 (by simp at hln ⊢; omega) (by have := k1.size; simp at this; omega)).mono ?_
    rintro e w2 ⟨rfl, hB2, k2⟩
    go_wp2_with fail
    refine bodyPost_ret (results_none rfl _ _ _) rfl ?_
    refine showE (by simpa using hB2) (((bk_alloc _).trans k1).trans k2)
  · obtain ⟨ga, oa, ca, hv, hSg, hga, hca⟩ := kid_cellsS hk hl (jrep_len5 hl hj) h0
    injection hv with hv1 _ hv2
    subst hv1 hv2
    have hx := fun v => Box5.new w (.int .i64 7) (.string ⟨t.toArray⟩) (.slice a1 ns.length c1) v (.int .i64 p)
    have hgN := hS _ hSg
    clear hdz
    go_enter Tryd.func65, Tryd.ntmps65
    go_wp2_with fail
    refine (writeByte N b acc 123 _ (hB.alloc _) (by simp at hln; omega) (by simp; omega)).mono ?_
    rintro e w1 ⟨rfl, hB1, k1⟩
    have hx1 := (hx _).bk k1 (by omega)
    have x3 := hx1.cell 3 _ rfl
    have hk1 := (bk_alloc _).trans k1
    go_wp2_with fail
    go_loopw [42] (fun v wr => ∃ (i : Nat) (acc' : List UInt8), v = .int .i64 i ∧ i ≤ ks.length ∧ Bld N b acc' wr ∧ BK N b w wr ∧ Box5 w.heap.size (cells5 7 t a1 ns.length c1 (some ⟨ga, oa, none⟩) ks.length c2 p) wr ∧ Hid (acc' ++ showKids (jShow n) true ns i (ks.drop i) = acc ++ [123] ++ showKids (jShow n) true ns 0 ks)) (fun v _ => ks.length - (intOf v).toNat)
    case atStart => exact ⟨0, _, rfl, Nat.zero_le _, hB1, hk1, hx1, rfl⟩
    case round =>
      obtain ⟨i, acc', rfl, hi, hBw, hkw, hxw, HA⟩ := hrel
      have hsz := hkw.size
      by_cases hlt : i < ks.length
      · have hka : i < kcs.length := by omega
        have JA := hj i hka hlt
        obtain ⟨k0, t0, vn0, vk0, p0, e0, ⟨a3, c3, m3, rfl⟩, ⟨a4, c4, m4, rfl⟩⟩ := jrep_cells JA
        have fa : ∀ j u, kcs[i][j]? = some u → wr.cell? ⟨ga, oa + i * 5 + j, none⟩ = some u := fun j u hu => (bk_cell hkw hgN.1 hgN.2 hga _).trans (hca i hka j u hu)
        rw [e0] at fa JA
        have q0 := fa 0 _ rfl
        have q1 := fa 1 _ rfl
        have q2 := fa 2 _ rfl
        have q3 := fa 3 _ rfl
        have q4 := fa 4 _ rfl
        simp only [Nat.add_zero] at q0
        have hd : ks.drop i = ks[i] :: ks.drop (i + 1) := List.drop_eq_getElem_cons hlt
        have HJA := Lib.hid JA
        have HSM := hsm _ (List.getElem_mem hlt)
        have hA := HA.out
        rw [hd, showKids] at hA
        simp only [true_and] at hA
        generalize ks[i] = K at *
        have HA2 := Lib.hid hA
        have hAl := congrArg List.length hA
        simp only [List.length_append, List.length_cons, List.length_nil] at hAl hln
        have hln2 : acc'.length + (if 0 < i then [44] else [] : List UInt8).length + (if i < ns.length then jQuote (ns.getD i []) ++ [58] else [] : List UInt8).length + (jShow n K).length ≤ 70368744177664 := by omega
        have hya := Box5.new wr (.int .i64 k0) (.string t0) (.slice a3 m3 c3) (.slice a4 m4 c4) (.int .i64 p0)
        have HX := Lib.hid hxw
        have HNM : i < ns.length → Hid (∃ gn on c, Value.slice a1 ns.length c1 = .slice (some ⟨gn, on, none⟩) ns.length c ∧ S gn ∧ gn < w.heap.size ∧ w.cell? ⟨gn, on + i, none⟩ = some (strV (ns.getD i [])) ∧ (ns.getD i []).length ≤ 1000000000000) := fun h => by
          obtain ⟨gn, on, c, e, h1, h2, h3⟩ := row_cellsS hnm i h
          have e2 : ns.getD i [] = ns[i] := by simp [List.getD_eq_getElem?_getD, h]
          exact ⟨gn, on, c, e, h1, h2, by rw [e2]; exact h3, by rw [e2]; exact hnl _ (List.getElem_mem h)⟩
        clear JA fa hA hd hca hj hl x3 hAl hln hk HA hxw hx hnm hnl
        rcases Nat.eq_zero_or_pos i with hi0 | hi0
        · have hi1 : ¬ 0 < i := by omega
          have hA3 := HA2.out
          rw [if_neg hi1] at hln2 hA3
          simp only [List.length_nil, Nat.add_zero, List.nil_append] at hln2 hA3
          have hya' := Lib.hid hya
          clear hya hi0 HA2
          go_upto_region 19 with (fail)
          have hB1 := hBw.alloc (.cells #[.int .i64 k0, .string t0, .slice a3 m3 c3, .slice a4 m4 c4, .int .i64 p0] 34)
          have hy := hya'.out
          have hx1 := HX.out.alloc (.cells #[.int .i64 k0, .string t0, .slice a3 m3 c3, .slice a4 m4 c4, .int .i64 p0] 34)
          have hk1 := hkw.trans (bk_alloc (.cells #[.int .i64 k0, .string t0, .slice a3 m3 c3, .slice a4 m4 c4, .int .i64 p0] 34))
          have HA2 := Lib.hid hA3
          clear hya' hA3 HX q0 q1 q2 q3 q4
          generalize wr.alloc (.cells #[.int .i64 k0, .string t0, .slice a3 m3 c3, .slice a4 m4 c4, .int .i64 p0] 34) = W1 at *
          generalize acc' = acc1 at *
          have hs1 := hk1.size
          have y0 := hy.cell 0 _ rfl
          have y1 := hy.cell 1 _ rfl
          have y2 := hy.cell 2 _ rfl
          have y3 := hy.cell 3 _ rfl
          have y4 := hy.cell 4 _ rfl
          have x0 := hx1.cell 0 _ rfl
          have x2 := hx1.cell 2 _ rfl
          have HY := Lib.hid hy
          clear hy
          have hyl := HY.out.lt
          by_cases hin : i < ns.length
          · have HNM' := (HNM hin).out
            obtain ⟨gn, on, cn, hv, hSn, hgn, hcn, hnl⟩ := HNM'
            injection hv with hv1 _ hv2
            subst hv1 hv2
            have hSn2 := hS _ hSn
            have hcn1 := (bk_cell hk1 hSn2.1 hSn2.2 hgn _).trans hcn
            unfold strV at hcn1
            rw [if_pos hin] at hln2
            have hA3 := HA2.out
            rw [if_pos hin] at hA3
            generalize ns.getD i [] = nm at *
            have HQ := Lib.hid (fun w => jquote_any ⟨nm.toArray⟩ w (by simp [ByteArray.size]; omega))
            have HA3 := Lib.hid hA3
            have HCN := Lib.hid hcn1
            clear HNM hcn HA2 hA3
            go_wp2_with fail
            refine (HQ.out _).mono ?_
            rintro e W2 ⟨rfl, b2⟩
            have hx2 := hx1.below b2
            have hy2 := HY.out.below b2
            have hk2 := hk1.trans (bk_below b2)
            have hs2 := b2.size
            clear y0 y1 y2 y3 y4 x0 x2 hcn1
            simp only [List.length_append, List.length_cons, List.length_nil] at hln2
            go_wp2_with fail
            refine (writeString N b acc1 _ _ (hB1.below b2) (by simp [ByteArray.size]; omega) (by omega)).mono ?_
            rintro e W3 ⟨rfl, hB3, k3⟩
            have hx3 := hx2.bk k3 (by omega)
            have hy3 := hy2.bk k3 (by omega)
            have hk3 := hk2.trans k3
            have hs3 := k3.size
            have y0 := hy3.cell 0 _ rfl
            have y1 := hy3.cell 1 _ rfl
            have y2 := hy3.cell 2 _ rfl
            have y3 := hy3.cell 3 _ rfl
            have y4 := hy3.cell 4 _ rfl
            clear hx2 hy2 hy3
            go_wp2_with fail
            refine (hIH g S N b _ _ [.int .i64 k0, .string t0, .slice a3 m3 c3, .slice a4 m4 c4, .int .i64 p0] K (dz - 1) (by have := HDZ.out; omega) (jrep_bk HJA.out hS hk3) HSM hS hB3 (by omega) (by simp; omega)).mono ?_
            rintro e W4 ⟨rfl, hB4, k4⟩
            have hF : Hid ((acc1 ++ (⟨(jQuote nm).toArray⟩ ++ ⟨#[58]⟩ : ByteArray).data.toList ++ jShow n K) ++ showKids (jShow n) true ns (i + 1) (ks.drop (i + 1)) = acc ++ [123] ++ showKids (jShow n) true ns 0 ks) := by
              show _ = _
              rw [← HA3.out]
              simp
            have hk4 := hk3.trans k4
            have hx4 := hx3.bk k4 (by omega)
            clear y0 y1 y2 y3 y4 hx3
            go_wp2_with fail
            go_roundw
            case rel => exact ⟨i + 1, _, by go_num, by omega, hB4, hk4, hx4, hF⟩
            case measure => simp [intOf]; omega
          · rw [if_neg hin] at hln2
            have hA3 := HA2.out
            rw [if_neg hin, List.nil_append] at hA3
            have HA3 := Lib.hid hA3
            simp only [List.length_nil, Nat.add_zero] at hln2
            clear HNM HA2 hA3
            go_wp2_with fail
            refine (hIH g S N b _ _ [.int .i64 k0, .string t0, .slice a3 m3 c3, .slice a4 m4 c4, .int .i64 p0] K (dz - 1) (by have := HDZ.out; omega) (jrep_bk HJA.out hS hk1) HSM hS hB1 (by omega) hln2).mono ?_
            rintro e W4 ⟨rfl, hB4, k4⟩
            have hF : Hid ((acc1 ++ jShow n K) ++ showKids (jShow n) true ns (i + 1) (ks.drop (i + 1)) = acc ++ [123] ++ showKids (jShow n) true ns 0 ks) := by
              show _ = _
              rw [← HA3.out]
              simp
            have hk4 := hk1.trans k4
            have hx4 := hx1.bk k4 (by omega)
            clear y0 y1 y2 y3 y4 x0 x2 hx1
            go_wp2_with fail
            go_roundw
            case rel => exact ⟨i + 1, _, by go_num, by omega, hB4, hk4, hx4, hF⟩
            case measure => simp [intOf]; omega
        · have hA3 := HA2.out
          rw [if_pos hi0] at hln2 hA3
          simp only [List.length_cons, List.length_nil, Nat.zero_add] at hln2
          have HYA := Lib.hid hya
          have hA4 := Lib.hid hA3
          clear hya HA2 hA3
          go_wp2_with fail
          refine (writeByte N b acc' 44 _ (hBw.alloc _) (by omega) (by simp; omega)).mono ?_
          rintro e W1 ⟨rfl, hB1, k1'⟩
          have hy := HYA.out.bk k1' (by omega)
          have hx1 := (HX.out.alloc _).bk k1' (by omega)
          have hk1 := (hkw.trans (bk_alloc _)).trans k1'
          have hA3 := hA4.out
          have HA2 : Hid ((acc' ++ [44]) ++ ((if i < ns.length then jQuote (ns.getD i []) ++ [58] else []) ++ jShow n K ++ showKids (jShow n) true ns (i + 1) (ks.drop (i + 1))) = acc ++ [123] ++ showKids (jShow n) true ns 0 ks) := by
            show _ = _
            rw [← hA3]; simp
          have hln2' : (acc' ++ [44]).length + (if i < ns.length then jQuote (ns.getD i []) ++ [58] else [] : List UInt8).length + (jShow n K).length ≤ 70368744177664 := by rw [List.length_append]; simp only [List.length_cons, List.length_nil]; omega
          clear hln2
          have hln2 := hln2'
          clear hln2' hA3 hA4 HYA HX k1' q0 q1 q2 q3 q4
          generalize acc' ++ [44] = acc1 at *
          have hs1 := hk1.size
          have y0 := hy.cell 0 _ rfl
          have y1 := hy.cell 1 _ rfl
          have y2 := hy.cell 2 _ rfl
          have y3 := hy.cell 3 _ rfl
          have y4 := hy.cell 4 _ rfl
          have x0 := hx1.cell 0 _ rfl
          have x2 := hx1.cell 2 _ rfl
          have HY := Lib.hid hy
          clear hy
          have hyl := HY.out.lt
          by_cases hin : i < ns.length
          · have HNM' := (HNM hin).out
            obtain ⟨gn, on, cn, hv, hSn, hgn, hcn, hnl⟩ := HNM'
            injection hv with hv1 _ hv2
            subst hv1 hv2
            have hSn2 := hS _ hSn
            have hcn1 := (bk_cell hk1 hSn2.1 hSn2.2 hgn _).trans hcn
            unfold strV at hcn1
            rw [if_pos hin] at hln2
            have hA3 := HA2.out
            rw [if_pos hin] at hA3
            generalize ns.getD i [] = nm at *
            have HQ := Lib.hid (fun w => jquote_any ⟨nm.toArray⟩ w (by simp [ByteArray.size]; omega))
            have HA3 := Lib.hid hA3
            have HCN := Lib.hid hcn1
            clear HNM hcn HA2 hA3
            go_wp2_with fail
            refine (HQ.out _).mono ?_
            rintro e W2 ⟨rfl, b2⟩
            have hx2 := hx1.below b2
            have hy2 := HY.out.below b2
            have hk2 := hk1.trans (bk_below b2)
            have hs2 := b2.size
            clear y0 y1 y2 y3 y4 x0 x2 hcn1
            simp only [List.length_append, List.length_cons, List.length_nil] at hln2
            go_wp2_with fail
            refine (writeString N b acc1 _ _ (hB1.below b2) (by simp [ByteArray.size]; omega) (by omega)).mono ?_
            rintro e W3 ⟨rfl, hB3, k3⟩
            have hx3 := hx2.bk k3 (by omega)
            have hy3 := hy2.bk k3 (by omega)
            have hk3 := hk2.trans k3
            have hs3 := k3.size
            have y0 := hy3.cell 0 _ rfl
            have y1 := hy3.cell 1 _ rfl
            have y2 := hy3.cell 2 _ rfl
            have y3 := hy3.cell 3 _ rfl
            have y4 := hy3.cell 4 _ rfl
            clear hx2 hy2 hy3
            go_wp2_with fail
            refine (hIH g S N b _ _ [.int .i64 k0, .string t0, .slice a3 m3 c3, .slice a4 m4 c4, .int .i64 p0] K (dz - 1) (by have := HDZ.out; omega) (jrep_bk HJA.out hS hk3) HSM hS hB3 (by omega) (by simp; omega)).mono ?_
            rintro e W4 ⟨rfl, hB4, k4⟩
            have hF : Hid ((acc1 ++ (⟨(jQuote nm).toArray⟩ ++ ⟨#[58]⟩ : ByteArray).data.toList ++ jShow n K) ++ showKids (jShow n) true ns (i + 1) (ks.drop (i + 1)) = acc ++ [123] ++ showKids (jShow n) true ns 0 ks) := by
              show _ = _
              rw [← HA3.out]
              simp
            have hk4 := hk3.trans k4
            have hx4 := hx3.bk k4 (by omega)
            clear y0 y1 y2 y3 y4 hx3
            go_wp2_with fail
            go_roundw
            case rel => exact ⟨i + 1, _, by go_num, by omega, hB4, hk4, hx4, hF⟩
            case measure => simp [intOf]; omega
          · rw [if_neg hin] at hln2
            have hA3 := HA2.out
            rw [if_neg hin, List.nil_append] at hA3
            have HA3 := Lib.hid hA3
            simp only [List.length_nil, Nat.add_zero] at hln2
            clear HNM HA2 hA3
            go_wp2_with fail
            refine (hIH g S N b _ _ [.int .i64 k0, .string t0, .slice a3 m3 c3, .slice a4 m4 c4, .int .i64 p0] K (dz - 1) (by have := HDZ.out; omega) (jrep_bk HJA.out hS hk1) HSM hS hB1 (by omega) hln2).mono ?_
            rintro e W4 ⟨rfl, hB4, k4⟩
            have hF : Hid ((acc1 ++ jShow n K) ++ showKids (jShow n) true ns (i + 1) (ks.drop (i + 1)) = acc ++ [123] ++ showKids (jShow n) true ns 0 ks) := by
              show _ = _
              rw [← HA3.out]
              simp
            have hk4 := hk1.trans k4
            have hx4 := hx1.bk k4 (by omega)
            clear y0 y1 y2 y3 y4 x0 x2 hx1
            go_wp2_with fail
            go_roundw
            case rel => exact ⟨i + 1, _, by go_num, by omega, hB4, hk4, hx4, hF⟩
            case measure => simp [intOf]; omega
      · have hA := HA.out
        rw [List.drop_of_length_le (by omega)] at hA
        simp only [showKids, List.append_nil] at hA
        subst hA
        clear HA
        go_wp2_with fail
        refine (writeByte N b _ 125 _ hBw (by simp at hln ⊢; omega) (by omega)).mono ?_
        rintro e w2 ⟨rfl, hB2, k2⟩
        go_wp2_with fail
        refine bodyPost_ret (results_none rfl _ _ _) rfl ?_
        exact showE (by simpa using hB2) (hkw.trans k2)
end Go.Proofs.YtghiboknhjnlkaaDoor
