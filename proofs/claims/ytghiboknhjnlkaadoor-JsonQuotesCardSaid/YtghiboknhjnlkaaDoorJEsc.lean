/- json's reader: escape. -/
import Derived.Test.YtghiboknhjnlkaaDoorJPa
set_option linter.unusedVariables false
set_option linter.unusedSimpArgs false
set_option linter.unnecessarySimpa false
namespace Go.Proofs.YtghiboknhjnlkaaDoor
open Go.RowKit

/-- how escape ends -/
def EscE (s : ByteArray) (r p : Nat) (R : Except Nat (Nat × Nat)) (e : Ending) (w' : World) : Prop :=
  match R with
  | .ok (c, q) => e = .returned (.int .i32 c) ∧ Rd s r q w' ∧ p < q ∧ q ≤ s.size ∧ c ≤ 1114111
  | .error q => e = Wr q 40 ∧ q ≤ s.size

theorem esc_tab : ∀ c : UInt8, escFrom.contains c = true → ∃ i : Fin 8, Lib.indexByte escFrom c = ((i.1 : Nat) : Int) ∧ escTo.getD (escFrom.idxOf c) 0 = escTo.getD i.1 0 := u8_all _ (by decide +kernel)
theorem esc_at (i : Nat) (h : i < 8) : (⟨#[34, 92, 47, 8, 12, 10, 13, 9]⟩ : ByteArray)[i]'h = escTo.getD i 0 := by
  have : ∀ i : Fin 8, (⟨#[34, 92, 47, 8, 12, 10, 13, 9]⟩ : ByteArray)[i.1]'i.2 = escTo.getD i.1 0 := by decide
  exact this ⟨i, h⟩

theorem jWord_ok (l : List UInt8) : ∀ (w : List UInt8) (p q : Nat), jWord l p w = .ok q → q = p + w.length
  | [], p, q, h => by injection h with h; simp [h]
  | c :: w, p, q, h => by
    unfold jWord at h
    split at h
    · rw [jWord_ok l w _ _ h]; simp; omega
    · cases h

set_option maxHeartbeats 2000000 in
set_option maxRecDepth 100000 in
theorem escape_any (s : ByteArray) (r p : Nat) (w : World) (hR : Rd s r p w) (hp : p < s.size) (hs : s.size ≤ 140737488351232) :
    Calls Tryd.prog 104 #[RP r] w fun e w' => EscE s r p (jEsc s.data.toList p) e w' ∧ Kx (· = r) w w' := by
  have HRest := Lib.hid (fun w h => rest_any s r (p + 1) w h (by omega))
  have hem := rest_empty s (p + 1) (by omega)
  generalize hRR : jEsc s.data.toList p = RR
  unfold jEsc at hRR
  have c1 := hR.c1
  have f1 := hR.fz
  have R1 : Rd s r (p + 1) (w.setCell ⟨r, 1, none⟩ (.int .i64 ((p : Int) + 1))) := hR.set _ _ (by omega)
  have K1 : Kx (· = r) w (w.setCell ⟨r, 1, none⟩ (.int .i64 ((p : Int) + 1))) := Kx.setCell (X := (· = r)) (Kx.refl _ w) ⟨r, 1, none⟩ (fun _ => rfl) _
  by_cases hlt : p + 1 < s.size
  · have hat := rest_at s (p + 1) hlt
    have hsz := rest_size s (p + 1) (by omega)
    have hem2 : (s.extract (p + 1) s.size).toList.isEmpty = false := by rw [hem]; simp; omega
    rw [data_get s (p + 1) hlt] at hRR
    simp only at hRR
    have h0 : 0 < (s.extract (p + 1) s.size).size := by omega
    generalize s.extract (p + 1) s.size = x at *
    have hat0 := hat h0
    have hjw : jWord s.data.toList (p + 1) [117] = if s[p + 1]'hlt = 117 then .ok (p + 2) else .error (p + 1) := by
      unfold jWord
      rw [data_get s (p + 1) hlt]
      simp only [Option.some.injEq]
      rfl
    clear hat hem hsz
    generalize s[p + 1]'hlt = c at *
    have hI := fun w => Tryd.strings_IndexByte ⟨escFrom.toArray⟩ c.toNat w
    have hu8 : ((c.toNat : Int).toNat.toUInt8) = c := by simp
    rw [hu8] at hI
    have HI := Lib.hid hI
    have hidx := idx_has c escFrom
    have htab := esc_tab c
    clear hI hu8
    by_cases he : escFrom.contains c = true
    · rw [if_pos he] at hRR
      obtain ⟨⟨i, hi⟩, hi1, hi2⟩ := htab he
      rw [hi2] at hRR
      simp only at hi1 hRR
      have hI2 := HI.out
      change ∀ w, Calls _ _ _ _ fun e w' => e = .returned (.int .i64 (Lib.indexByte escFrom c)) ∧ w' = w at hI2
      rw [hi1] at hI2
      have HI2 := Lib.hid hI2
      have hat2 := esc_at i hi
      have HR := Lib.hid hRR
      generalize escTo.getD i 0 = b at *
      have hb : (b.toNat : Int) < 256 := by have := b.toNat_lt; omega
      have hb2 : b.toNat < 256 := b.toNat_lt
      have hi8 : (i : Int) < 8 := by omega
      clear hi2 hidx htab he hI2 HI hi1 hRR hjw
      go_enter Tryd.func104, Tryd.ntmps104
      go_wp2_with fail
      generalize w.setCell _ _ = W1 at *
      refine (HRest.out _ R1).mono ?_
      rintro e w2 ⟨rfl, b2⟩
      go_wp2_with fail
      refine (need_ok r _).mono ?_
      rintro e w3 ⟨rfl, rfl⟩
      go_wp2_with fail
      have R2 := R1.below b2
      refine (HRest.out _ R2).mono ?_
      rintro e w3 ⟨rfl, b3⟩
      go_wp2_with fail
      refine (HI2.out _).mono ?_
      rintro e w4 ⟨rfl, rfl⟩
      have R3 := R2.below b3
      have d1 := R3.c1
      have g1 := R3.fz
      go_wp2_with fail
      go_ret
      refine ⟨?_, (K1.trans (Kx.of_below (bthen b2 b3))).trans (Kx.setCell (X := (· = r)) (Kx.refl _ _) ⟨r, 1, none⟩ (fun _ => rfl) _)⟩
      rw [← HR.out]
      exact ⟨rfl, R3.set _ _ (by omega), by omega, by omega, by omega⟩
    · rw [if_neg he] at hRR
      have hz : ¬ 0 ≤ Lib.indexByte escFrom c := fun h => he (hidx.1 h)
      have HI2 : Hid (∀ w, Calls Tryd.prog 54 #[.string ⟨escFrom.toArray⟩, .int .u8 c.toNat] w fun e w' => e = .returned (.int .i64 (Lib.indexByte escFrom c)) ∧ w' = w) := HI.out
      generalize Lib.indexByte escFrom c = z at *
      have hz2 : decide (0 ≤ z) = false := decide_eq_false hz
      have HRR := Lib.hid hRR
      have HW := Lib.hid (fun w h => word_any s r (p + 1) [117] (by decide) w h (by omega) hs)
      rw [hjw] at HW
      have HF := Lib.hid (fun w h hq => four_any s r (p + 2) w h hq hs)
      clear hRR he hidx htab HI hjw
      by_cases h117 : c = 117
      · rw [if_pos h117] at HW
        have hrr := HRR.out
        rw [if_neg (by simpa using h117)] at hrr
        generalize hf4 : jFour s.data.toList (p + 2) = R4 at *
        clear HRR h117 hf4
        cases R4 with
        | error q =>
          have HR := Lib.hid hrr
          clear hrr
          go_enter Tryd.func104, Tryd.ntmps104
          go_wp2_with fail
          generalize w.setCell _ _ = W1 at *
          refine (HRest.out _ R1).mono ?_
          rintro e w2 ⟨rfl, b2⟩
          go_wp2_with fail
          refine (need_ok r _).mono ?_
          rintro e w3 ⟨rfl, rfl⟩
          go_wp2_with fail
          have R2 := R1.below b2
          refine (HRest.out _ R2).mono ?_
          rintro e w3 ⟨rfl, b3⟩
          go_wp2_with fail
          refine (HI2.out _).mono ?_
          rintro e w4 ⟨rfl, rfl⟩
          have R3 := R2.below b3
          have K3 := K1.trans (Kx.of_below (bthen b2 b3))
          go_wp2_with fail
          refine (HW.out _ R3).mono ?_
          rintro e w5 ⟨⟨rfl, R5, hs5⟩, k5⟩
          go_wp2_with fail
          refine (HF.out _ R5 hs5).mono ?_
          rintro e w6 ⟨⟨rfl, hq⟩, k6⟩
          go_wp2_with fail
          refine ⟨rfl, ?_, (K3.trans k5).trans k6⟩
          rw [← HR.out]
          exact ⟨rfl, hq⟩
        | ok v =>
          obtain ⟨vz, hvz⟩ : ∃ vz : Int, (v : Int) = vz := ⟨_, rfl⟩
          have HFv : Hid (∀ w, Rd s r (p + 2) w → p + 2 ≤ s.size → Calls Tryd.prog 114 #[RP r] w fun e w' => (e = .returned (.int .i32 vz) ∧ Rd s r (p + 6) w' ∧ p + 6 ≤ s.size ∧ 0 ≤ vz ∧ vz < 65536) ∧ Kx (· = r) w w') := by
            intro w h hq
            refine (HF.out w h hq).mono ?_
            rintro e w' ⟨⟨rfl, a, b, c⟩, k⟩
            exact ⟨⟨by rw [hvz], a, b, by omega, by omega⟩, k⟩
          have HVZ := Lib.hid hvz
          clear hvz HF
          by_cases hv : v < 55296 ∨ 57343 < v
          · simp only at hrr
            rw [if_pos hv] at hrr
            have HR := Lib.hid hrr
            clear hrr
            go_enter Tryd.func104, Tryd.ntmps104
            go_wp2_with fail
            generalize w.setCell _ _ = W1 at *
            refine (HRest.out _ R1).mono ?_
            rintro e w2 ⟨rfl, b2⟩
            go_wp2_with fail
            refine (need_ok r _).mono ?_
            rintro e w3 ⟨rfl, rfl⟩
            go_wp2_with fail
            have R2 := R1.below b2
            refine (HRest.out _ R2).mono ?_
            rintro e w3 ⟨rfl, b3⟩
            go_wp2_with fail
            refine (HI2.out _).mono ?_
            rintro e w4 ⟨rfl, rfl⟩
            have R3 := R2.below b3
            have K3 := K1.trans (Kx.of_below (bthen b2 b3))
            go_wp2_with fail
            refine (HW.out _ R3).mono ?_
            rintro e w5 ⟨⟨rfl, R5, hs5⟩, k5⟩
            go_wp2_with fail
            refine (HFv.out _ R5 hs5).mono ?_
            rintro e w6 ⟨⟨rfl, R6, hs6, hv0, hv2⟩, k6⟩
            have K6 := (K3.trans k5).trans k6
            have hvq : vz < 55296 ∨ (57343 < vz ∧ decide (vz < 55296) = false) := by
              have := HVZ.out
              rcases hv with h | h
              · exact .inl (by omega)
              · exact .inr ⟨by omega, decide_eq_false (by omega)⟩
            clear hv
            rcases hvq with hv | ⟨hv, hd⟩
            all_goals
              go_wp2_with fail
              go_ret
              refine ⟨?_, K6⟩
              rw [← HR.out]
              exact ⟨by rw [← HVZ.out]; rfl, R6, by omega, by omega, by have := HVZ.out; omega⟩
          · simp only at hrr
            rw [if_neg hv] at hrr
            have hd : decide (vz < 55296) = false := decide_eq_false (by have := HVZ.out; omega)
            have hd2 : decide (57343 < vz) = false := decide_eq_false (by have := HVZ.out; omega)
            by_cases hv3 : 56320 ≤ v
            · rw [if_pos hv3] at hrr
              have HR := Lib.hid hrr
              have hz3 : 56320 ≤ vz := by have := HVZ.out; omega
              clear hrr hv hv3
              go_enter Tryd.func104, Tryd.ntmps104
              go_wp2_with fail
              generalize w.setCell _ _ = W1 at *
              refine (HRest.out _ R1).mono ?_
              rintro e w2 ⟨rfl, b2⟩
              go_wp2_with fail
              refine (need_ok r _).mono ?_
              rintro e w3 ⟨rfl, rfl⟩
              go_wp2_with fail
              have R2 := R1.below b2
              refine (HRest.out _ R2).mono ?_
              rintro e w3 ⟨rfl, b3⟩
              go_wp2_with fail
              refine (HI2.out _).mono ?_
              rintro e w4 ⟨rfl, rfl⟩
              have R3 := R2.below b3
              have K3 := K1.trans (Kx.of_below (bthen b2 b3))
              go_wp2_with fail
              refine (HW.out _ R3).mono ?_
              rintro e w5 ⟨⟨rfl, R5, hs5⟩, k5⟩
              go_wp2_with fail
              refine (HFv.out _ R5 hs5).mono ?_
              rintro e w6 ⟨⟨rfl, R6, hs6, hv0, hv2⟩, k6⟩
              have K6 := (K3.trans k5).trans k6
              go_wp2_with fail
              refine ⟨rfl, ?_, K6⟩
              rw [← HR.out]
              exact ⟨rfl, by omega⟩
            · rw [if_neg hv3] at hrr
              have hd3 : decide (56320 ≤ vz) = false := decide_eq_false (by have := HVZ.out; omega)
              unfold jEsc2 at hrr
              have hvv : 55296 ≤ vz ∧ vz < 56320 := by have := HVZ.out; omega
              clear hv hv3
              generalize hw2 : jWord s.data.toList (p + 6) [92, 117] = RW at *
              have HW2 := Lib.hid (fun w h hq => word_any s r (p + 6) [92, 117] (by decide) w h hq hs)
              rw [hw2] at HW2
              cases RW with
              | error q =>
                have HR := Lib.hid hrr
                clear hrr hw2
                go_enter Tryd.func104, Tryd.ntmps104
                go_wp2_with fail
                generalize w.setCell _ _ = W1 at *
                refine (HRest.out _ R1).mono ?_
                rintro e w2 ⟨rfl, b2⟩
                go_wp2_with fail
                refine (need_ok r _).mono ?_
                rintro e w3 ⟨rfl, rfl⟩
                go_wp2_with fail
                have R2 := R1.below b2
                refine (HRest.out _ R2).mono ?_
                rintro e w3 ⟨rfl, b3⟩
                go_wp2_with fail
                refine (HI2.out _).mono ?_
                rintro e w4 ⟨rfl, rfl⟩
                have R3 := R2.below b3
                have K3 := K1.trans (Kx.of_below (bthen b2 b3))
                go_wp2_with fail
                refine (HW.out _ R3).mono ?_
                rintro e w5 ⟨⟨rfl, R5, hs5⟩, k5⟩
                go_wp2_with fail
                refine (HFv.out _ R5 hs5).mono ?_
                rintro e w6 ⟨⟨rfl, R6, hs6, hv0, hv2⟩, k6⟩
                have K6 := (K3.trans k5).trans k6
                have R6' : Rd s r (p + 6) w6 := R6
                have d1 := R6'.c1
                go_wp2_with fail
                refine (HW2.out _ R6' (by omega)).mono ?_
                rintro e w7 ⟨⟨rfl, hq⟩, k7⟩
                go_wp2_with fail
                refine ⟨rfl, ?_, K6.trans k7⟩
                rw [← HR.out]
                exact ⟨rfl, hq⟩
              | ok q =>
                have hq := jWord_ok _ _ _ _ hw2
                simp at hq
                subst hq
                have HF2 := Lib.hid (fun w h hq => four_any s r (p + 6 + 2) w h hq hs)
                simp only at hrr
                generalize hf5 : jFour s.data.toList (p + 6 + 2) = R5' at *
                cases R5' with
                | error q =>
                  have HR := Lib.hid hrr
                  clear hrr hw2 hf5
                  go_enter Tryd.func104, Tryd.ntmps104
                  go_wp2_with fail
                  generalize w.setCell _ _ = W1 at *
                  refine (HRest.out _ R1).mono ?_
                  rintro e w2 ⟨rfl, b2⟩
                  go_wp2_with fail
                  refine (need_ok r _).mono ?_
                  rintro e w3 ⟨rfl, rfl⟩
                  go_wp2_with fail
                  have R2 := R1.below b2
                  refine (HRest.out _ R2).mono ?_
                  rintro e w3 ⟨rfl, b3⟩
                  go_wp2_with fail
                  refine (HI2.out _).mono ?_
                  rintro e w4 ⟨rfl, rfl⟩
                  have R3 := R2.below b3
                  have K3 := K1.trans (Kx.of_below (bthen b2 b3))
                  go_wp2_with fail
                  refine (HW.out _ R3).mono ?_
                  rintro e w5 ⟨⟨rfl, R5, hs5⟩, k5⟩
                  go_wp2_with fail
                  refine (HFv.out _ R5 hs5).mono ?_
                  rintro e w6 ⟨⟨rfl, R6, hs6, hv0, hv2⟩, k6⟩
                  have K6 := (K3.trans k5).trans k6
                  have R6' : Rd s r (p + 6) w6 := R6
                  have d1 := R6'.c1
                  go_wp2_with fail
                  refine (HW2.out _ R6' (by omega)).mono ?_
                  rintro e w7 ⟨⟨rfl, R7, hs7⟩, k7⟩
                  go_wp2_with fail
                  refine (HF2.out _ R7 hs7).mono ?_
                  rintro e w8 ⟨⟨rfl, hq⟩, k8⟩
                  go_wp2_with fail
                  refine ⟨rfl, ?_, (K6.trans k7).trans k8⟩
                  rw [← HR.out]
                  exact ⟨rfl, hq⟩
                | ok d =>
                  simp only at hrr
                  obtain ⟨dz, hdz⟩ : ∃ dz : Int, (d : Int) = dz := ⟨_, rfl⟩
                  have HFd : Hid (∀ w, Rd s r (p + 6 + 2) w → p + 6 + 2 ≤ s.size → Calls Tryd.prog 114 #[RP r] w fun e w' => (e = .returned (.int .i32 dz) ∧ Rd s r (p + 12) w' ∧ p + 12 ≤ s.size ∧ 0 ≤ dz ∧ dz < 65536) ∧ Kx (· = r) w w') := by
                    intro w h hq
                    refine (HF2.out w h hq).mono ?_
                    rintro e w' ⟨⟨rfl, a, b, c⟩, k⟩
                    exact ⟨⟨by rw [hdz], a, b, by omega, by omega⟩, k⟩
                  have HDZ := Lib.hid hdz
                  clear hdz HF2
                  by_cases hdd : d < 56320 ∨ 57343 < d
                  · rw [if_pos hdd] at hrr
                    have HR := Lib.hid hrr
                    clear hrr hw2 hf5
                    have hdd2 : dz < 56320 ∨ (57343 < dz ∧ decide (dz < 56320) = false) := by
                      have := HDZ.out
                      rcases hdd with h | h
                      · exact .inl (by omega)
                      · exact .inr ⟨by omega, decide_eq_false (by omega)⟩
                    clear hdd
                    rcases hdd2 with hdd | ⟨hdd, hdf⟩
                    all_goals
                      go_enter Tryd.func104, Tryd.ntmps104
                      go_wp2_with fail
                      generalize w.setCell _ _ = W1 at *
                      refine (HRest.out _ R1).mono ?_
                      rintro e w2 ⟨rfl, b2⟩
                      go_wp2_with fail
                      refine (need_ok r _).mono ?_
                      rintro e w3 ⟨rfl, rfl⟩
                      go_wp2_with fail
                      have R2 := R1.below b2
                      refine (HRest.out _ R2).mono ?_
                      rintro e w3 ⟨rfl, b3⟩
                      go_wp2_with fail
                      refine (HI2.out _).mono ?_
                      rintro e w4 ⟨rfl, rfl⟩
                      have R3 := R2.below b3
                      have K3 := K1.trans (Kx.of_below (bthen b2 b3))
                      go_wp2_with fail
                      refine (HW.out _ R3).mono ?_
                      rintro e w5 ⟨⟨rfl, R5, hs5⟩, k5⟩
                      go_wp2_with fail
                      refine (HFv.out _ R5 hs5).mono ?_
                      rintro e w6 ⟨⟨rfl, R6, hs6, hv0, hv2⟩, k6⟩
                      have K6 := (K3.trans k5).trans k6
                      have R6' : Rd s r (p + 6) w6 := R6
                      have d1 := R6'.c1
                      go_wp2_with fail
                      refine (HW2.out _ R6' (by omega)).mono ?_
                      rintro e w7 ⟨⟨rfl, R7, hs7⟩, k7⟩
                      go_wp2_with fail
                      refine (HFd.out _ R7 hs7).mono ?_
                      rintro e w8 ⟨⟨rfl, R8, hs8, hd80, hd8⟩, k8⟩
                      go_wp2_with fail
                      refine ⟨rfl, ?_, (K6.trans k7).trans k8⟩
                      rw [← HR.out]
                      exact ⟨rfl, by omega⟩
                  · rw [if_neg hdd] at hrr
                    have HR := Lib.hid hrr
                    have hdf : decide (dz < 56320) = false := decide_eq_false (by have := HDZ.out; omega)
                    have hdf2 : decide (57343 < dz) = false := decide_eq_false (by have := HDZ.out; omega)
                    have hd1 : 56320 ≤ dz ∧ dz ≤ 57343 := by have := HDZ.out; omega
                    clear hrr hw2 hf5 hdd
                    go_enter Tryd.func104, Tryd.ntmps104
                    go_wp2_with fail
                    generalize w.setCell _ _ = W1 at *
                    refine (HRest.out _ R1).mono ?_
                    rintro e w2 ⟨rfl, b2⟩
                    go_wp2_with fail
                    refine (need_ok r _).mono ?_
                    rintro e w3 ⟨rfl, rfl⟩
                    go_wp2_with fail
                    have R2 := R1.below b2
                    refine (HRest.out _ R2).mono ?_
                    rintro e w3 ⟨rfl, b3⟩
                    go_wp2_with fail
                    refine (HI2.out _).mono ?_
                    rintro e w4 ⟨rfl, rfl⟩
                    have R3 := R2.below b3
                    have K3 := K1.trans (Kx.of_below (bthen b2 b3))
                    go_wp2_with fail
                    refine (HW.out _ R3).mono ?_
                    rintro e w5 ⟨⟨rfl, R5, hs5⟩, k5⟩
                    go_wp2_with fail
                    refine (HFv.out _ R5 hs5).mono ?_
                    rintro e w6 ⟨⟨rfl, R6, hs6, hv0, hv2⟩, k6⟩
                    have K6 := (K3.trans k5).trans k6
                    have R6' : Rd s r (p + 6) w6 := R6
                    have d1 := R6'.c1
                    go_wp2_with fail
                    refine (HW2.out _ R6' (by omega)).mono ?_
                    rintro e w7 ⟨⟨rfl, R7, hs7⟩, k7⟩
                    go_wp2_with fail
                    refine (HFd.out _ R7 hs7).mono ?_
                    rintro e w8 ⟨⟨rfl, R8, hs8, hd80, hd8⟩, k8⟩
                    go_wp2_with fail
                    go_ret
                    refine ⟨?_, (K6.trans k7).trans k8⟩
                    rw [← HR.out]
                    have e1 := HVZ.out
                    have e2 := HDZ.out
                    refine ⟨ret_v (congrArg (Value.int IntKind.i32) ?_), R8, by omega, by omega, by omega⟩
                    show 65536 + (vz - 55296) * 1024 + dz - 56320 = ((65536 + (v - 55296) * 1024 + (d - 56320) : Nat) : Int)
                    omega
      · rw [if_neg h117] at HW
        have hrr := HRR.out
        rw [if_pos h117] at hrr
        have HR := Lib.hid hrr
        clear hrr HRR h117 HF
        go_enter Tryd.func104, Tryd.ntmps104
        go_wp2_with fail
        generalize w.setCell _ _ = W1 at *
        refine (HRest.out _ R1).mono ?_
        rintro e w2 ⟨rfl, b2⟩
        go_wp2_with fail
        refine (need_ok r _).mono ?_
        rintro e w3 ⟨rfl, rfl⟩
        go_wp2_with fail
        have R2 := R1.below b2
        refine (HRest.out _ R2).mono ?_
        rintro e w3 ⟨rfl, b3⟩
        go_wp2_with fail
        refine (HI2.out _).mono ?_
        rintro e w4 ⟨rfl, rfl⟩
        have R3 := R2.below b3
        have K3 := K1.trans (Kx.of_below (bthen b2 b3))
        go_wp2_with fail
        refine (HW.out _ R3).mono ?_
        rintro e w5 ⟨⟨rfl, hq⟩, k5⟩
        go_wp2_with fail
        refine ⟨rfl, ?_, K3.trans k5⟩
        rw [← HR.out]
        exact ⟨rfl, hq⟩
  · have hem2 : (s.extract (p + 1) s.size).toList.isEmpty = true := by rw [hem]; simp; omega
    rw [data_none s (p + 1) hlt] at hRR
    generalize s.extract (p + 1) s.size = x at *
    have HR := Lib.hid hRR
    clear hem hRR
    go_enter Tryd.func104, Tryd.ntmps104
    go_wp2_with fail
    generalize w.setCell _ _ = W1 at *
    refine (HRest.out _ R1).mono ?_
    rintro e w2 ⟨rfl, b2⟩
    go_wp2_with fail
    refine (need_bad s r _ _ (R1.below b2)).mono ?_
    rintro e w3 ⟨rfl, rfl⟩
    go_wp2_with fail
    refine ⟨rfl, ?_, K1.trans (Kx.of_below b2)⟩
    rw [← HR.out]
    exact ⟨rfl, by omega⟩
end Go.Proofs.YtghiboknhjnlkaaDoor
