/- json's reader: word. -/
import Derived.Test.YtghiboknhjnlkaaDoorJRd
set_option linter.unusedVariables false
set_option linter.unusedSimpArgs false
set_option linter.unnecessarySimpa false
namespace Go.Proofs.YtghiboknhjnlkaaDoor
open Go.RowKit

/-- how a method that hands back nothing ends -/
def Ended (s : ByteArray) (r : Nat) (R : Except Nat Nat) (e : Ending) (w' : World) : Prop :=
  match R with
  | .ok q => e = .returned (.tuple #[]) ∧ Rd s r q w' ∧ q ≤ s.size
  | .error q => e = Wr q 40 ∧ q ≤ s.size

theorem jHas_one (l : List UInt8) (p : Nat) (c : UInt8) : jHas l p [c] = decide (l[p]? = some c) := by
  unfold jHas
  cases l[p]? with
  | none => simp
  | some b =>
    simp only [Option.any_some, List.contains_cons, List.contains_nil, Bool.or_false, Option.some.injEq]
    rw [Bool.eq_iff_iff, beq_iff_eq, decide_eq_true_iff]

set_option maxHeartbeats 2000000 in
set_option maxRecDepth 100000 in
theorem word_any (s : ByteArray) (r p : Nat) (wd : List UInt8) (hwd : wd.length ≤ 1000) (w : World) (hR : Rd s r p w) (hp : p ≤ s.size) (hs : s.size ≤ 140737488351232) :
    Calls Tryd.prog 83 #[RP r, .string ⟨wd.toArray⟩] w fun e w' => Ended s r (jWord s.data.toList p wd) e w' ∧ Kx (· = r) w w' := by
  have hO := Lib.hid (fun (q : Nat) (c : UInt8) w h hq => one_any s r q [c] w h hq hs)
  generalize hRR : jWord s.data.toList p wd = RR
  have HRR := Lib.hid hRR
  clear hRR
  go_enter Tryd.func83, Tryd.ntmps83
  go_wp2
  go_loopw [7] (fun v wr => ∃ k : Nat, v = .int .i64 k ∧ k ≤ wd.length ∧ Rd s r (p + k) wr ∧ p + k ≤ s.size ∧ Hid (jWord s.data.toList (p + k) (wd.drop k) = RR) ∧ Kx (· = r) w wr) (fun v _ => wd.length - (intOf v).toNat)
  case atStart => exact ⟨0, rfl, Nat.zero_le _, hR, hp, HRR.out, Kx.refl _ _⟩
  case round =>
    obtain ⟨k, rfl, hk, hRk, hpk, HJ, hK⟩ := hrel
    by_cases hlt : k < wd.length
    · have hx : (⟨wd.toArray⟩ : ByteArray).extract k (k + 1) = ⟨[wd[k]].toArray⟩ := by
        apply ByteArray.ext
        apply Array.ext'
        simp [List.take_one, List.head?_drop, List.getElem?_eq_getElem hlt]
      have hone := hO.out (p + k) wd[k] wr hRk hpk
      rw [← hx] at hone
      have hj := HJ.out
      rw [List.drop_eq_getElem_cons hlt] at hj
      unfold jWord at hj
      have hj1 := jHas_one s.data.toList (p + k) wd[k]
      have hsl : (0 : Int) ≤ (k : Int) ∧ (k : Int) ≤ (k : Int) + 1 ∧ (k : Int) + 1 ≤ wd.length := by omega
      have HO1 := Lib.hid hone
      clear hone hx hO HJ
      by_cases hc : s.data.toList[p + k]? = some wd[k]
      · rw [if_pos hc] at hj
        rw [decide_eq_true hc] at hj1
        have hlt2 : p + k < s.size := by
          rcases Nat.lt_or_ge (p + k) s.size with h | h
          · exact h
          · rw [data_none s _ (by omega)] at hc; cases hc
        have HO2 := HO1.out
        rw [hj1] at HO2
        have HO3 := Lib.hid HO2
        have HJ2 := Lib.hid hj
        have HKK := Lib.hid hK
        clear hj hj1 hc HO1 HO2 hK
        go_wp2_with (first | (go_at_call 103; refine HO3.out.mono ?_; rintro e w2 ⟨rfl, hR2, k2⟩) | (go_at_call 60; refine (need_ok r _).mono ?_; rintro e w3 ⟨rfl, rfl⟩))
        rw [if_pos trivial] at hR2
        exact ⟨⟨k + 1, by go_num, by omega, hR2, by omega, HJ2.out, HKK.out.trans k2⟩, by simp [intOf]; omega⟩
      · rw [if_neg hc] at hj
        rw [decide_eq_false hc] at hj1
        have HO2 := HO1.out
        rw [hj1] at HO2
        have HO3 := Lib.hid HO2
        have HJ2 := Lib.hid hj
        have HKK := Lib.hid hK
        clear hj hj1 hc HO1 HO2 hK
        go_wp2_with (first | (go_at_call 103; refine HO3.out.mono ?_; rintro e w2 ⟨rfl, hR2, k2⟩; rw [if_neg (by simp)] at hR2) | (go_at_call 60; refine (need_bad s r _ _ hR2).mono ?_; rintro e w3 ⟨rfl, rfl⟩))
        refine ⟨rfl, ?_, HKK.out.trans k2⟩
        rw [← HJ2.out]
        exact ⟨rfl, hpk⟩
    · have hke : k = wd.length := by omega
      have hj := HJ.out
      rw [hke, List.drop_length] at hj
      unfold jWord at hj
      have HJ2 := Lib.hid hj
      clear hj
      go_wp2
      go_end0
      refine ⟨?_, hK⟩
      rw [← HJ2.out]
      exact ⟨rfl, hke ▸ hRk, hke ▸ hpk⟩
end Go.Proofs.YtghiboknhjnlkaaDoor
