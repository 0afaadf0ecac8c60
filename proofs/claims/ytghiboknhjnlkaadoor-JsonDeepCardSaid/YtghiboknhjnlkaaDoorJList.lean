/- json's reader: list, for whatever function it is handed. -/
import Derived.Test.YtghiboknhjnlkaaDoorJText
set_option linter.unusedVariables false
set_option linter.unusedSimpArgs false
set_option linter.unnecessarySimpa false
namespace Go.Proofs.YtghiboknhjnlkaaDoor
open Go.RowKit

def blS : List UInt8 := [32, 9, 10, 13]
theorem ascii_blS : Ascii ⟨blS.toArray⟩ := by
  intro k hk
  have : ∀ k : Fin 4, ((⟨blS.toArray⟩ : ByteArray)[k.1]'(by exact k.2)).toNat < 128 := by decide
  exact this ⟨k, hk⟩

theorem blank_le (s : ByteArray) (q : Nat) (hq : q ≤ s.size) : q ≤ jBlank s.data.toList q ∧ jBlank s.data.toList q ≤ s.size := by
  unfold jBlank
  have := takeWhile_le isBl (s.data.toList.drop q)
  rw [drop_len s q hq] at this
  omega

theorem blanks_any (s : ByteArray) (r q : Nat) (hq : q ≤ s.size) (hs : s.size ≤ 140737488351232) (w : World) (h : Rd s r q w) :
    Calls Tryd.prog 58 #[RP r, .string ⟨blS.toArray⟩] w fun e w' => ∃ v : Value, e = .returned v ∧ Rd s r (jBlank s.data.toList q) w' ∧ Kx (· = r) w w' :=
  (eat_any s r q blS ascii_blS (by decide) w h hq hs).mono fun e w' ⟨he, hr, hk⟩ => ⟨_, he, hr, hk⟩

/-- how a step of a list, or a list, ends -/
def StepE (s : ByteArray) (INV : JSt → Nat → World → Prop) (p : Nat) (R : Except JErr (JSt × Nat)) (e : Ending) (w' : World) : Prop :=
  match R with
  | .ok (st, q) => e = .returned (.tuple #[]) ∧ INV st q w' ∧ p ≤ q
  | .error (q, er) => e = Wr q er

set_option maxHeartbeats 1000000 in
set_option maxRecDepth 100000 in
theorem list_any (s : ByteArray) (r p : Nat) (en : UInt8) (F : Nat) (cap : Array Value) (X : Nat → Prop) (INV : JSt → Nat → World → Prop) (step : JSt → Nat → Except JErr (JSt × Nat)) (w : World)
    (hs : s.size ≤ 4398046511104) (hX : X r) (hEn : ∀ w, Sem.run Tryd.prog (callFunc F cap) w = .ok (.enter F cap) w)
    (hstep : ∀ st q w, INV st q w → Calls Tryd.prog F cap w fun e w' => StepE s INV q (step st q) e w' ∧ Kx X w w')
    (hrd : ∀ st q w, INV st q w → Rd s r q w ∧ q ≤ s.size)
    (hkeep : ∀ st q w q' w', INV st q w → Kx (· = r) w w' → Rd s r q' w' → q ≤ q' → q' ≤ s.size → INV st q' w')
    (h0 : INV ([], []) p w) (hp : p < s.size) :
    Calls Tryd.prog 85 #[RP r, .string ⟨[en].toArray⟩, .func (.func F) #[] cap] w fun e w' => StepE s INV (p + 1) (jList s.data.toList en step p) e w' ∧ Kx X w w' := by
  obtain ⟨hR, -⟩ := hrd _ _ _ h0
  have c1 := hR.c1
  have f1 := hR.fz
  have R1 : Rd s r (p + 1) (w.setCell ⟨r, 1, none⟩ (.int .i64 ((p : Int) + 1))) := hR.set _ _ (by omega)
  have K1 : Kx (· = r) w (w.setCell ⟨r, 1, none⟩ (.int .i64 ((p : Int) + 1))) := Kx.setCell (X := (· = r)) (Kx.refl _ w) ⟨r, 1, none⟩ (fun _ => rfl) _
  have I1 := Lib.hid (hkeep _ _ _ _ _ h0 K1 R1 (by omega) (by omega))
  have hB := Lib.hid (fun q hq w h => blanks_any s r q hq (by omega) w h)
  have hO := Lib.hid (fun (q : Nat) w h hq => one_any s r q [en] w h hq (by omega))
  have hW := Lib.hid (fun (q : Nat) w h hq => word_any s r q [44] (by decide) w h hq (by omega))
  have hRd := Lib.hid hrd
  have hKp := Lib.hid hkeep
  have hSt := Lib.hid hstep
  have toX : ∀ {a b : World}, Kx (· = r) a b → Kx X a b := fun h => h.mono (fun k _ e => e ▸ hX)
  have TX := Lib.hid (fun (a b : World) (h : Kx (· = r) a b) => toX h)
  generalize hRR : jList s.data.toList en step p = RR
  unfold jList at hRR
  have hb1 := blank_le s (p + 1) (by omega)
  have hBl := Lib.hid (hB.out (p + 1) (by omega))
  have HRR := Lib.hid hRR
  generalize jBlank s.data.toList (p + 1) = q1 at *
  clear hstep hrd hkeep h0 toX hRR
  have hone := hO.out q1
  rw [jHas_one] at hone
  have HON := Lib.hid hone
  clear hone
  go_enter Tryd.func85, Tryd.ntmps85
  go_wp2_with fail
  generalize w.setCell _ _ = W1 at *
  refine (hBl.out _ R1).mono ?_
  rintro e w2 ⟨v2, rfl, R2, k2⟩
  have I2 := Lib.hid (hKp.out _ _ _ _ _ I1.out k2 R2 (by omega) (by omega))
  have K2 := TX.out _ _ (K1.trans k2)
  go_wp2_with fail
  refine (HON.out _ R2 (by omega)).mono ?_
  rintro e w3 ⟨rfl, R3, k3⟩
  by_cases hen : s.data.toList[q1]? = some en
  · have hrr := HRR.out
    rw [if_pos hen] at hrr
    rw [decide_eq_true hen] at R3 ⊢
    simp only [if_true] at R3
    have HR := Lib.hid hrr
    have hlt : q1 < s.size := by
      rcases Nat.lt_or_ge q1 s.size with h | h
      · exact h
      · rw [data_none s _ (by omega)] at hen; cases hen
    have I3 := hKp.out _ _ _ _ _ I2.out k3 R3 (by omega) (by omega)
    have I3' := Lib.hid I3
    clear hrr hen I3
    go_wp2_with fail
    refine bodyPost_ret (results_none rfl _ _ _) rfl ?_
    refine ⟨?_, K2.trans (TX.out _ _ k3)⟩
    rw [← HR.out]
    exact ⟨rfl, I3'.out, by omega⟩
  · have hrr := HRR.out
    rw [if_neg hen] at hrr
    rw [decide_eq_false hen] at R3 ⊢
    simp only [Bool.false_eq_true, if_false] at R3
    have HR := Lib.hid hrr
    have I3 := hKp.out _ _ _ _ _ I2.out k3 R3 (by omega) (by omega)
    have I3' := Lib.hid I3
    have K3 := K2.trans (TX.out _ _ k3)
    clear hrr hen I3 HRR
    go_wp2_with fail
    go_loopw [] (fun wr => ∃ (q n : Nat) (st : JSt), p + 1 ≤ q ∧ q ≤ s.size ∧ Hid (INV st q wr) ∧ Kx X w wr ∧ s.size < n + q ∧ Hid (jLoop s.data.toList en step n st q = RR)) (fun wr => s.size - rdPos r wr)
    case atStart => exact ⟨q1, s.size + 1, _, by omega, by omega, I3', K3, by omega, HR.out⟩
    case round =>
      obtain ⟨q, n, st, hpq, hq, HI, hK, hn, HJ⟩ := hrel
      obtain ⟨m, rfl⟩ : ∃ m, n = m + 1 := ⟨n - 1, by omega⟩
      have hj := HJ.out
      unfold jLoop at hj
      have hmeas : rdPos r wr = q := rdPos_of (hRd.out _ _ _ HI.out).1
      have hS := hSt.out st q wr HI.out
      have HSC := Lib.hid hS
      generalize step st q = RS at *
      clear hS HJ hSt
      cases RS with
      | error er =>
        obtain ⟨q2, er⟩ := er
        have HR := Lib.hid hj
        clear hj
        go_wp2_with fail
        refine HSC.out.mono ?_
        rintro e w4 ⟨rfl, k4⟩
        go_wp2_with fail
        refine ⟨rfl, ?_, hK.trans k4⟩
        rw [← HR.out]
        rfl
      | ok sq =>
        obtain ⟨st2, q2⟩ := sq
        simp only at hj
        go_wp2_with fail
        refine HSC.out.mono ?_
        rintro e w4 ⟨⟨rfl, I4, hq2⟩, k4⟩
        obtain ⟨R4, hq2s⟩ := hRd.out _ _ _ I4
        have hb2 := blank_le s q2 hq2s
        have hBl2 := Lib.hid (hB.out q2 hq2s)
        have I4' := Lib.hid I4
        have K4 := hK.trans k4
        generalize jBlank s.data.toList q2 = q3 at *
        clear I4
        go_wp2_with fail
        refine (hBl2.out _ R4).mono ?_
        rintro e w5 ⟨v5, rfl, R5, k5⟩
        have I5 := Lib.hid (hKp.out _ _ _ _ _ I4'.out k5 R5 (by omega) (by omega))
        have K5 := K4.trans (TX.out _ _ k5)
        have hone := hO.out q3 _ R5 (by omega)
        rw [jHas_one] at hone
        have HON2 := Lib.hid hone
        clear hone
        go_wp2_with fail
        refine HON2.out.mono ?_
        rintro e w6 ⟨rfl, R6, k6⟩
        have K6 := K5.trans (TX.out _ _ k6)
        by_cases hen2 : s.data.toList[q3]? = some en
        · rw [if_pos hen2] at hj
          rw [decide_eq_true hen2] at R6 ⊢
          simp only [if_true] at R6
          have hlt : q3 < s.size := by
            rcases Nat.lt_or_ge q3 s.size with h | h
            · exact h
            · rw [data_none s _ (by omega)] at hen2; cases hen2
          have I6 := Lib.hid (hKp.out _ _ _ _ _ I5.out k6 R6 (by omega) (by omega))
          have HR := Lib.hid hj
          clear hj hen2
          go_wp2_with fail
          refine bodyPost_ret (results_none rfl _ _ _) rfl ?_
          refine ⟨?_, K6⟩
          rw [← HR.out]
          exact ⟨rfl, I6.out, by omega⟩
        · rw [if_neg hen2] at hj
          rw [decide_eq_false hen2] at R6 ⊢
          simp only [Bool.false_eq_true, if_false] at R6
          have I6 := Lib.hid (hKp.out _ _ _ _ _ I5.out k6 R6 (by omega) (by omega))
          have hjw : jWord s.data.toList q3 [44] = if s.data.toList[q3]? = some 44 then .ok (q3 + 1) else .error q3 := by unfold jWord; rfl
          have hw := fun w h hq => hW.out q3 w h hq
          rw [hjw] at hw
          by_cases h44 : s.data.toList[q3]? = some 44
          · rw [if_pos h44] at hj hw
            have hlt : q3 < s.size := by
              rcases Nat.lt_or_ge q3 s.size with h | h
              · exact h
              · rw [data_none s _ (by omega)] at h44; cases h44
            have hb3 := blank_le s (q3 + 1) (by omega)
            have hBl3 := Lib.hid (hB.out (q3 + 1) (by omega))
            have HR := Lib.hid hj
            have HW := Lib.hid hw
            clear hj hw hjw hen2 h44
            go_wp2_with fail
            refine (HW.out _ R6 (by omega)).mono ?_
            rintro e w7 ⟨⟨rfl, R7, hq7⟩, k7⟩
            have I7 := Lib.hid (hKp.out _ _ _ _ _ I6.out k7 R7 (by omega) hq7)
            have K7 := K6.trans (TX.out _ _ k7)
            go_wp2_with fail
            refine (hBl3.out _ R7).mono ?_
            rintro e w8 ⟨v8, rfl, R8, k8⟩
            have I8 := Lib.hid (hKp.out _ _ _ _ _ I7.out k8 R8 (by omega) (by omega))
            go_wp2_with fail
            exact ⟨⟨_, m, st2, by omega, by omega, I8, K7.trans (TX.out _ _ k8), by omega, HR.out⟩, by rw [rdPos_of R8, hmeas]; omega⟩
          · rw [if_neg h44] at hj hw
            have HR := Lib.hid hj
            have HW := Lib.hid hw
            clear hj hw hjw hen2 h44
            go_wp2_with fail
            refine (HW.out _ R6 (by omega)).mono ?_
            rintro e w7 ⟨⟨rfl, hq7⟩, k7⟩
            go_wp2_with fail
            refine ⟨rfl, ?_, K6.trans (TX.out _ _ k7)⟩
            rw [← HR.out]
            rfl
end Go.Proofs.YtghiboknhjnlkaaDoor
