/- json's reader: text. -/
import Derived.Test.YtghiboknhjnlkaaDoorJTextP
set_option linter.unusedVariables false
set_option linter.unusedSimpArgs false
set_option linter.unnecessarySimpa false
namespace Go.Proofs.YtghiboknhjnlkaaDoor
open Go.RowKit

/-- how text ends -/
def TextE (s : ByteArray) (r p : Nat) (R : Except Nat (List UInt8 × Nat)) (e : Ending) (w' : World) : Prop :=
  match R with
  | .ok (t, q) => e = .returned (.string ⟨t.toArray⟩) ∧ Rd s r q w' ∧ p < q ∧ q ≤ s.size ∧ t.length ≤ 4 * s.size
  | .error q => e = Wr q 40 ∧ q ≤ s.size

set_option maxHeartbeats 800000 in
set_option maxRecDepth 100000 in
theorem text_any (s : ByteArray) (r p : Nat) (w : World) (hR : Rd s r p w) (hp : p ≤ s.size) (hs : s.size ≤ 4398046511104) (hU : EnvU w) (hr : r ≠ 0 ∧ r ≠ 1) :
    Calls Tryd.prog 84 #[RP r] w fun e w' => TextE s r p (jText s.data.toList p) e w' ∧ Kx (· = r) w w' := by
  have HW := Lib.hid (fun w h => word_any s r p [34] (by decide) w h hp (by omega))
  have hO := Lib.hid (fun (q : Nat) w h hq => one_any s r q [34] w h hq (by omega))
  have hRest := Lib.hid (fun (q : Nat) w h hq => rest_any s r q w h hq)
  have hHas := Lib.hid (fun (q : Nat) w h hq => has_any s r q 92 w h hq)
  have hEsc := Lib.hid (fun (q : Nat) w h hq => escape_any s r q w h hq (by omega))
  generalize hRR : jText s.data.toList p = RR
  unfold jText at hRR
  have hjw : jWord s.data.toList p [34] = if s.data.toList[p]? = some 34 then .ok (p + 1) else .error p := by
    unfold jWord; rfl
  rw [hjw] at HW
  have hrw : r < w.heap.size := hR.lt
  have hrn : ∀ i, i = r → i ≠ w.heap.size ∧ i < w.heap.size := by intro i hi; subst hi; exact ⟨by omega, hrw⟩
  have hx1 : ¬ (fun i => i = r) 0 := fun h => hr.1 h.symm
  have hx2 : ¬ (fun i => i = r) 1 := fun h => hr.2 h.symm
  have hgu1 : 0 < w.heap.size ∧ 0 ≠ w.heap.size := by have := hU.lt; omega
  have hgu2 : 1 < w.heap.size ∧ 1 ≠ w.heap.size := by have := hU.lt; omega
  have hrb : r ≠ w.heap.size := by omega
  have hR0 := hR.alloc (.cells #[.pointer none, .slice none 0 0] 57)
  have hB0 := BldG.fresh 57 5 w.heap.size w
  have hU0 : EnvU (w.alloc (.cells #[.pointer none, .slice none 0 0] 57)) := hU.below ((Below.refl _ w).alloc (Nat.le_refl _) _)
  have K0 : Kx (· = r) w (w.alloc (.cells #[.pointer none, .slice none 0 0] 57)) := (Kx.refl _ w).alloc _
  by_cases h34 : s.data.toList[p]? = some 34
  · rw [if_pos h34] at hRR HW
    have HRR := Lib.hid hRR
    clear hjw hRR h34
    go_enter Tryd.func84, Tryd.ntmps84
    go_wp2_with fail
    generalize w.alloc _ = w0 at *
    refine (HW.out _ hR0).mono ?_
    rintro e w1 ⟨⟨rfl, hR1, hp1⟩, k1⟩
    have hB1 := Bld.kx (l := []) hB0 k1 hrn
    have hU1 := hU0.kx k1 (fun h => hr.1 h.symm) (fun h => hr.2 h.symm)
    have K1 := K0.trans k1
    go_wp2_with fail
    go_loopw [] (fun wr => ∃ (q n : Nat) (acc : List UInt8), p < q ∧ q ≤ s.size ∧ Rd s r q wr ∧ Bld w.heap.size w.heap.size acc wr ∧ EnvU wr ∧ Kx (· = r) w wr ∧ s.size < n + q ∧ Hid (jStr s.data.toList n q acc = RR) ∧ acc.length ≤ 4 * q) (fun wr => s.size - rdPos r wr)
    case atStart => exact ⟨p + 1, s.size, [], by omega, hp1, hR1, hB1, hU1, K1, by omega, HRR.out, by simp⟩
    case round =>
      obtain ⟨q, n, acc, hpq, hq, hRq, hB, hUq, hK, hn, HJ, hal⟩ := hrel
      have hg : w.heap.size ≤ wr.heap.size := hK.size
      have hgu := hU.lt
      have hone := hO.out q wr hRq hq
      rw [jHas_one] at hone
      obtain ⟨m, rfl⟩ : ∃ m, n = m + 1 := ⟨n - 1, by omega⟩
      have hj := HJ.out
      unfold jStr at hj
      have hmeas : rdPos r wr = q := rdPos_of hRq
      by_cases hlt : q < s.size
      · have hdg := data_get s q hlt
        have hat := rest_at s q hlt
        have h0 : 0 < (s.extract q s.size).size := by rw [rest_size s q hq]; omega
        have hem : (s.extract q s.size).toList.isEmpty = false := by rw [rest_empty s q hq]; simp; omega
        have HRs := Lib.hid (hRest.out q)
        have hhas := hHas.out q
        rw [jHas_one] at hhas
        rw [hdg] at hone hj hhas
        simp only [Option.some.injEq] at hone hj hhas
        have hat0 := hat h0
        clear hat
        have hdec := decodeGo_rest s q hlt
        have hDec := fun w h => Tryd.utf8_DecodeRuneInString (s.extract q s.size) w h
        rw [hdec] at hDec
        have hdp := dec_pos (s.data.toList.drop q) (by intro e; have := congrArg List.length e; simp at this; omega)
        rw [drop_len s q hq] at hdp
        have hdr := Lib.decodeL_rune (s.data.toList.drop q)
        have hslx : ∀ k, ((s.extract q s.size).extract 0 k).data.toList = (s.data.toList.drop q).take k := by
          intro k
          rw [ext_take, rest_list]
        have hxz := rest_size s q hq
        generalize Lib.decodeL (s.data.toList.drop q) = dc at *
        obtain ⟨dr, dn⟩ := dc
        simp only at *
        generalize s.extract q s.size = x at *
        generalize s[q]'hlt = c at *
        clear hdec hdg
        by_cases hc34 : c = 34
        · rw [decide_eq_true hc34] at hone
          rw [if_pos hc34] at hj
          have HON := Lib.hid hone
          have HR := Lib.hid hj
          have HKK := Lib.hid hK
          clear hone hj hhas hDec hslx hO hRest hHas hEsc HJ hK
          go_wp2_with fail
          refine HON.out.mono ?_
          rintro e w2 ⟨rfl, hR2, k2⟩
          simp only [if_true] at hR2
          have hB2 := Bld.kx hB k2 hrn
          have K2 := HKK.out.trans k2
          go_wp2_with fail
          refine (toString_any w.heap.size w.heap.size acc _ hB2 w.heap.size (Nat.le_refl _) (Nat.le_refl _) K2.size).mono ?_
          rintro e w3 ⟨rfl, b3⟩
          go_wp2_with fail
          go_ret
          refine ⟨?_, kx_low K2 b3⟩
          rw [← HR.out]
          exact ⟨rfl, hR2.keep (b3.block r hrw), by omega, by omega, by omega⟩
        · rw [decide_eq_false hc34] at hone
          rw [if_neg hc34] at hj
          have HON := Lib.hid hone
          have HKK := Lib.hid hK
          have HES := Lib.hid (hEsc.out q)
          have hfin : ∀ (w' : World) (q' : Nat) (acc' : List UInt8), q < q' → q' ≤ s.size → Rd s r q' w' → Bld w.heap.size w.heap.size acc' w' → EnvU w' → Kx (· = r) w w' → jStr s.data.toList m q' acc' = RR → acc'.length ≤ 4 * q' →
              (∃ (q n : Nat) (acc : List UInt8), p < q ∧ q ≤ s.size ∧ Rd s r q w' ∧ Bld w.heap.size w.heap.size acc w' ∧ EnvU w' ∧ Kx (· = r) w w' ∧ s.size < n + q ∧ Hid (jStr s.data.toList n q acc = RR) ∧ acc.length ≤ 4 * q) ∧ s.size - rdPos r w' < s.size - rdPos r wr := by
            intro w' q' acc' h1 h2 h3 h4 h5 h6 h7 h8
            exact ⟨⟨q', m, acc', by omega, h2, h3, h4, h5, h6, by omega, h7, h8⟩, by rw [rdPos_of h3, hmeas]; omega⟩
          have HFIN := Lib.hid hfin
          have HHA := Lib.hid hhas
          have HDC := Lib.hid hDec
          have HSX := Lib.hid hslx
          clear hone hhas hDec hslx hO hRest hHas hEsc HJ hK hc34 hfin hmeas
          by_cases hc32 : c < 32
          · have hcn0 : c.toNat < 32 := UInt8.lt_iff_toNat_lt.1 hc32
            have hcn : decide (32 ≤ (c.toNat : Int)) = false := decide_eq_false (by omega)
            clear hcn0
            rw [if_pos hc32] at hj
            have HR := Lib.hid hj
            clear hj hc32
            go_wp2_with fail
            refine HON.out.mono ?_
            rintro e w2 ⟨rfl, hR2, k2⟩
            simp only [if_false, Bool.false_eq_true] at hR2
            have hB2 := Bld.kx hB k2 hrn
            have hU2 := hUq.kx k2 hx1 hx2
            have K2 := HKK.out.trans k2
            go_wp2_with fail
            refine (HRs.out _ hR2 hq).mono ?_
            rintro e w3 ⟨rfl, b3⟩
            have hR3 := hR2.below b3
            go_wp2_with fail
            refine (HRs.out _ hR3 hq).mono ?_
            rintro e w4 ⟨rfl, b4⟩
            have b34 := bthen b3 b4
            have hR4 := hR2.below b34
            have hB4 := BldG.below hB2 b34
            have hU4 := hU2.below b34
            have K4 := K2.trans (Kx.of_below b34)
            go_wp2_with fail
            refine (need_bad s r _ _ hR4).mono ?_
            rintro e w5 ⟨rfl, rfl⟩
            go_wp2_with fail
            refine ⟨rfl, ?_, K4⟩
            rw [← HR.out]
            exact ⟨rfl, hq⟩
          · have hcn : (32 : Int) ≤ c.toNat := by
              have h1 : ¬ c.toNat < 32 := fun h => hc32 (UInt8.lt_iff_toNat_lt.2 h)
              omega
            rw [if_neg hc32] at hj
            by_cases hc92 : c = 92
            · rw [if_pos hc92] at hj
              rw [decide_eq_true hc92] at HHA
              clear hc32 hc92
              generalize jEsc s.data.toList q = RE at *
              cases RE with
              | error q2 =>
                have HR := Lib.hid hj
                clear hj
                go_wp2_with fail
                refine HON.out.mono ?_
                rintro e w2 ⟨rfl, hR2, k2⟩
                simp only [if_false, Bool.false_eq_true] at hR2
                have hB2 := Bld.kx hB k2 hrn
                have hU2 := hUq.kx k2 hx1 hx2
                have K2 := HKK.out.trans k2
                go_wp2_with fail
                refine (HRs.out _ hR2 hq).mono ?_
                rintro e w3 ⟨rfl, b3⟩
                have hR3 := hR2.below b3
                go_wp2_with fail
                refine (HRs.out _ hR3 hq).mono ?_
                rintro e w4 ⟨rfl, b4⟩
                have b34 := bthen b3 b4
                have hR4 := hR2.below b34
                have hB4 := BldG.below hB2 b34
                have hU4 := hU2.below b34
                have K4 := K2.trans (Kx.of_below b34)
                go_wp2_with fail
                refine (need_ok r _).mono ?_
                rintro e w5 ⟨rfl, rfl⟩
                go_wp2_with fail
                refine (HHA.out _ hR4 hq).mono ?_
                rintro e w6 ⟨rfl, b6⟩
                have hR6 := hR4.below b6
                have hB6 := BldG.below hB4 b6
                have hU6 := hU4.below b6
                have K6 := K4.trans (Kx.of_below b6)
                go_wp2_with fail
                refine (HES.out _ hR6 hlt).mono ?_
                rintro e w7 ⟨⟨rfl, hq2⟩, k7⟩
                go_wp2_with fail
                refine ⟨rfl, ?_, K6.trans k7⟩
                rw [← HR.out]
                exact ⟨rfl, hq2⟩
              | ok rq =>
                obtain ⟨rr, q2⟩ := rq
                have HR := Lib.hid hj
                clear hj
                go_wp2_with fail
                refine HON.out.mono ?_
                rintro e w2 ⟨rfl, hR2, k2⟩
                simp only [if_false, Bool.false_eq_true] at hR2
                have hB2 := Bld.kx hB k2 hrn
                have hU2 := hUq.kx k2 hx1 hx2
                have K2 := HKK.out.trans k2
                go_wp2_with fail
                refine (HRs.out _ hR2 hq).mono ?_
                rintro e w3 ⟨rfl, b3⟩
                have hR3 := hR2.below b3
                go_wp2_with fail
                refine (HRs.out _ hR3 hq).mono ?_
                rintro e w4 ⟨rfl, b4⟩
                have b34 := bthen b3 b4
                have hR4 := hR2.below b34
                have hB4 := BldG.below hB2 b34
                have hU4 := hU2.below b34
                have K4 := K2.trans (Kx.of_below b34)
                go_wp2_with fail
                refine (need_ok r _).mono ?_
                rintro e w5 ⟨rfl, rfl⟩
                go_wp2_with fail
                refine (HHA.out _ hR4 hq).mono ?_
                rintro e w6 ⟨rfl, b6⟩
                have hR6 := hR4.below b6
                have hB6 := BldG.below hB4 b6
                have hU6 := hU4.below b6
                have K6 := K4.trans (Kx.of_below b6)
                go_wp2_with fail
                refine (HES.out _ hR6 hlt).mono ?_
                rintro e w7 ⟨⟨rfl, hR7, hqq, hq2, hrr⟩, k7⟩
                have hB7 := Bld.kx hB6 k7 hrn
                have hU7 := hU6.kx k7 hx1 hx2
                have K7 := K6.trans k7
                go_wp2_with fail
                refine (writeRune _ _ _ _ (by omega) (by omega) _ hB7 (by omega) K7.size).mono ?_
                rintro e w8 ⟨rfl, hB8, k8⟩
                go_wp2_with fail
                have hel := encodeRune_len (rr : Int)
                exact HFIN.out _ q2 _ (by omega) hq2 (hR7.kb k8 hrb) hB8 (hU7.bk k8 hgu1 hgu2) (kx_bk K7 k8) HR.out (by simp; omega)
            · rw [if_neg hc92] at hj
              rw [decide_eq_false hc92] at HHA
              clear hc32 hc92 HES
              have HDR : Hid (dr ≤ 1114111) := hdr
              by_cases hbad : dr = 65533 ∧ dn = 1
              · rw [if_pos hbad] at hj
                obtain ⟨rfl, rfl⟩ := hbad
                have HR := Lib.hid hj
                clear hj
                go_wp2_with fail
                refine HON.out.mono ?_
                rintro e w2 ⟨rfl, hR2, k2⟩
                simp only [if_false, Bool.false_eq_true] at hR2
                have hB2 := Bld.kx hB k2 hrn
                have hU2 := hUq.kx k2 hx1 hx2
                have K2 := HKK.out.trans k2
                go_wp2_with fail
                refine (HRs.out _ hR2 hq).mono ?_
                rintro e w3 ⟨rfl, b3⟩
                have hR3 := hR2.below b3
                go_wp2_with fail
                refine (HRs.out _ hR3 hq).mono ?_
                rintro e w4 ⟨rfl, b4⟩
                have b34 := bthen b3 b4
                have hR4 := hR2.below b34
                have hB4 := BldG.below hB2 b34
                have hU4 := hU2.below b34
                have K4 := K2.trans (Kx.of_below b34)
                go_wp2_with fail
                refine (need_ok r _).mono ?_
                rintro e w5 ⟨rfl, rfl⟩
                go_wp2_with fail
                refine (HHA.out _ hR4 hq).mono ?_
                rintro e w6 ⟨rfl, b6⟩
                have hR6 := hR4.below b6
                have hB6 := BldG.below hB4 b6
                have hU6 := hU4.below b6
                have K6 := K4.trans (Kx.of_below b6)
                go_wp2_with fail
                refine (HRs.out _ hR6 hq).mono ?_
                rintro e w7 ⟨rfl, b7⟩
                have hR7 := hR6.below b7
                have hB7 := BldG.below hB6 b7
                have hU7 := hU6.below b7
                have K7 := K6.trans (Kx.of_below b7)
                go_wp2_with fail
                refine (HDC.out _ hU7).mono ?_
                rintro e w8 ⟨rfl, b8⟩
                have hR8 := hR7.below b8
                have hB8 := BldG.below hB7 b8
                have hU8 := hU7.below b8
                have K8 := K7.trans (Kx.of_below b8)
                go_wp2_with fail
                refine (need_bad s r _ _ hR8).mono ?_
                rintro e w9 ⟨rfl, rfl⟩
                go_wp2_with fail
                refine ⟨rfl, ?_, K8⟩
                rw [← HR.out]
                exact ⟨rfl, hq⟩
              · rw [if_neg hbad] at hj
                obtain ⟨dz, hdz⟩ : ∃ dz : Int, (dr : Int) = dz := ⟨_, rfl⟩
                rw [hdz] at HDC
                have hgood : ((dz == 65533) = false ∧ (dz != 65533) = true) ∨ (dz = 65533 ∧ 1 < dn ∧ (1 : Int) < dn) := by
                  by_cases h : dr = 65533
                  · exact .inr ⟨by omega, by omega, by omega⟩
                  · exact .inl ⟨by rw [beq_eq_false_iff_ne]; omega, by rw [bne_iff_ne]; omega⟩
                have HR := Lib.hid hj
                have hdn : dn ≤ x.size := by omega
                have hz8 : (x.extract 0 dn).size ≤ 4 := by rw [extract_size]; omega
                have hqb : (q : Int) + dn ≤ 4398046511104 := by omega
                clear hj hdz hbad hdr
                rcases hgood with ⟨hgd, hgd2⟩ | ⟨rfl, hgd, hgd2⟩
                all_goals
                  go_wp2_with fail
                  refine HON.out.mono ?_
                  rintro e w2 ⟨rfl, hR2, k2⟩
                  simp only [if_false, Bool.false_eq_true] at hR2
                  have hB2 := Bld.kx hB k2 hrn
                  have hU2 := hUq.kx k2 hx1 hx2
                  have K2 := HKK.out.trans k2
                  go_wp2_with fail
                  refine (HRs.out _ hR2 hq).mono ?_
                  rintro e w3 ⟨rfl, b3⟩
                  have hR3 := hR2.below b3
                  go_wp2_with fail
                  refine (HRs.out _ hR3 hq).mono ?_
                  rintro e w4 ⟨rfl, b4⟩
                  have b34 := bthen b3 b4
                  have hR4 := hR2.below b34
                  have hB4 := BldG.below hB2 b34
                  have hU4 := hU2.below b34
                  have K4 := K2.trans (Kx.of_below b34)
                  go_wp2_with fail
                  refine (need_ok r _).mono ?_
                  rintro e w5 ⟨rfl, rfl⟩
                  go_wp2_with fail
                  refine (HHA.out _ hR4 hq).mono ?_
                  rintro e w6 ⟨rfl, b6⟩
                  have hR6 := hR4.below b6
                  have hB6 := BldG.below hB4 b6
                  have hU6 := hU4.below b6
                  have K6 := K4.trans (Kx.of_below b6)
                  go_wp2_with fail
                  refine (HRs.out _ hR6 hq).mono ?_
                  rintro e w7 ⟨rfl, b7⟩
                  have hR7 := hR6.below b7
                  have hB7 := BldG.below hB6 b7
                  have hU7 := hU6.below b7
                  have K7 := K6.trans (Kx.of_below b7)
                  go_wp2_with fail
                  refine (HDC.out _ hU7).mono ?_
                  rintro e w8 ⟨rfl, b8⟩
                  have hR8 := hR7.below b8
                  have hB8 := BldG.below hB7 b8
                  have hU8 := hU7.below b8
                  have K8 := K7.trans (Kx.of_below b8)
                  go_wp2_with fail
                  refine (need_ok r _).mono ?_
                  rintro e w9 ⟨rfl, rfl⟩
                  go_wp2_with fail
                  refine (HRs.out _ hR8 hq).mono ?_
                  rintro e w10 ⟨rfl, b10⟩
                  have hR10 := hR8.below b10
                  have hB10 := BldG.below hB8 b10
                  have hU10 := hU8.below b10
                  have K10 := K8.trans (Kx.of_below b10)
                  go_wp2_with fail
                  refine (writeString _ _ _ _ _ hB10 (by omega) K10.size).mono ?_
                  rintro e w11 ⟨rfl, hB11, k11⟩
                  have hR11 := hR10.kb k11 hrb
                  have c1 := hR11.c1
                  have f1 := hR11.fz
                  have K11 := kx_bk K10 k11
                  have hU11 := hU10.bk k11 hgu1 hgu2
                  have KS : Kx (· = r) w11 (w11.setCell ⟨r, 1, none⟩ (.int .i64 ((q : Int) + dn))) := Kx.setCell (X := (· = r)) (Kx.refl _ _) ⟨r, 1, none⟩ (fun _ => rfl) _
                  go_wp2_with fail
                  refine HFIN.out _ (q + dn) _ (by omega) (by omega) (hR11.set _ _ (by omega)) (Bld.kx hB11 KS hrn) (hU11.kx KS hx1 hx2) (K11.trans KS) ?_ ?_
                  · rw [HSX.out]; exact HR.out
                  · rw [HSX.out]; simp; omega
      · have hem : (s.extract q s.size).toList.isEmpty = true := by rw [rest_empty s q hq]; simp; omega
        have HRs := Lib.hid (hRest.out q)
        rw [data_none s q hlt] at hone hj
        generalize s.extract q s.size = x at *
        have HON := Lib.hid hone
        have HR := Lib.hid hj
        have HKK := Lib.hid hK
        clear hone hj hO hRest hHas hEsc HJ hK
        go_wp2_with fail
        refine HON.out.mono ?_
        rintro e w2 ⟨rfl, hR2, k2⟩
        simp at hR2
        have K2 := HKK.out.trans k2
        go_wp2_with fail
        refine (HRs.out _ hR2 hq).mono ?_
        rintro e w3 ⟨rfl, b3⟩
        have hR3 := hR2.below b3
        go_wp2_with fail
        refine (need_bad s r _ _ hR3).mono ?_
        rintro e w4 ⟨rfl, rfl⟩
        go_wp2_with fail
        refine ⟨rfl, ?_, K2.trans (Kx.of_below b3)⟩
        rw [← HR.out]
        exact ⟨rfl, hq⟩
  · rw [if_neg h34] at hRR HW
    have HR := Lib.hid hRR
    clear hjw hRR h34
    go_enter Tryd.func84, Tryd.ntmps84
    go_wp2_with fail
    refine (HW.out _ hR0).mono ?_
    rintro e w1 ⟨⟨rfl, hq⟩, k1⟩
    go_wp2_with fail
    refine ⟨rfl, ?_, K0.trans k1⟩
    rw [← HR.out]
    exact ⟨rfl, hq⟩
end Go.Proofs.YtghiboknhjnlkaaDoor
