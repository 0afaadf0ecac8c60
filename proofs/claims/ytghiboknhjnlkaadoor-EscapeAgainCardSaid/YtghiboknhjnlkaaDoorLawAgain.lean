/- The law EscapeAgain: a URL's bytes, and a URL is one already. -/
import Derived.Test.YtghiboknhjnlkaaDoorAlive
import Derived.Test.YtghiboknhjnlkaaDoorUrlLaw
set_option linter.unusedVariables false
set_option linter.unusedSimpArgs false
set_option linter.unnecessarySimpa false
namespace Go.Proofs.YtghiboknhjnlkaaDoor
open Go.RowKit

set_option maxHeartbeats 4000000 in
set_option maxRecDepth 100000 in
theorem lawAgain_any (s : ByteArray) (w : World) (hE : EnvS w) :
    Calls Tryd.prog 7 #[.string s] w fun e w' => e = .returned (.bool true) ∧ Below w.heap.size w w' := by
  have HA := Lib.hid (fun w h => alive_any w h)
  by_cases hs : s.size ≤ 20000
  · have hs2 : decide (20000 < (s.size : Int)) = false := by simp; omega
    have U1 := Lib.hid (fun w => url_any s w (by omega))
    have hul := url_len s.data.toList
    have e1 : s.data.toList.length = s.size := rfl
    rw [e1] at hul
    have hok : ∀ b ∈ url s.data.toList, urlOk b = true := urlG_ok _
    have htw := url_twice s.data.toList
    generalize url s.data.toList = u at *
    have U2 := Lib.hid (fun w => url_any ⟨u.toArray⟩ w (by rw [size_list]; omega))
    simp only [htw] at U2
    have HOK := Lib.hid hok
    clear hok htw
    go_enter Tryd.func7, Tryd.ntmps7
    go_wp2_with (first | (go_at_call 15; refine (HA.out _ hE).mono ?_; rintro e w1 ⟨rfl, b1⟩) | (go_at_call 22; refine (U1.out _).mono ?_; rintro e w2 ⟨rfl, b2⟩))
    go_loopw [4] (fun v wr => ∃ k : Nat, v = .int .i64 k ∧ k ≤ u.length ∧ wr = w2) (fun v _ => u.length - (intOf v).toNat)
    case atStart => exact ⟨0, rfl, Nat.zero_le _, rfl⟩
    case round =>
      obtain ⟨k, rfl, hk, rfl⟩ := hrel
      by_cases hlt : k < u.length
      · have hb := ok_byte _ (HOK.out u[k] (List.getElem_mem hlt))
        have q1 : decide ((((⟨u.toArray⟩ : ByteArray)[k]'(by rw [size_list]; exact hlt)).toNat : Int) ≤ 32) = false := by
          rw [decide_eq_false_iff_not]; show ¬ ((u[k].toNat : Int) ≤ 32); omega
        have q2 : decide (127 ≤ (((⟨u.toArray⟩ : ByteArray)[k]'(by rw [size_list]; exact hlt)).toNat : Int)) = false := by
          rw [decide_eq_false_iff_not]; show ¬ (127 ≤ (u[k].toNat : Int)); omega
        have q3 : ((((⟨u.toArray⟩ : ByteArray)[k]'(by rw [size_list]; exact hlt)).toNat : Int) == 60) = false := beq_u8 _ 60 (by decide) hb.2.2.2.2.1
        have q4 : ((((⟨u.toArray⟩ : ByteArray)[k]'(by rw [size_list]; exact hlt)).toNat : Int) == 62) = false := beq_u8 _ 62 (by decide) hb.2.2.2.2.2.1
        have q5 : ((((⟨u.toArray⟩ : ByteArray)[k]'(by rw [size_list]; exact hlt)).toNat : Int) == 34) = false := beq_u8 _ 34 (by decide) hb.2.2.2.2.2.2.1
        have q6 : ((((⟨u.toArray⟩ : ByteArray)[k]'(by rw [size_list]; exact hlt)).toNat : Int) == 92) = false := beq_u8 _ 92 (by decide) hb.2.2.2.2.2.2.2
        clear hb
        go_wp2_with fail
        exact ⟨⟨k + 1, by go_num, by omega, by trivial⟩, by simp [intOf]; omega⟩
      · have hke : k = u.length := by omega
        subst hke
        go_wp2_with (go_at_call 22; refine (U2.out _).mono ?_; rintro e w3 ⟨rfl, b3⟩)
        go_ret
        exact ⟨rfl, bnx (bnx b1 b2) b3⟩
  · have hs2 : decide (20000 < (s.size : Int)) = true := by simp; omega
    go_enter Tryd.func7, Tryd.ntmps7
    go_wp2_with (go_at_call 15; refine (HA.out _ hE).mono ?_; rintro e w1 ⟨rfl, b1⟩)
    go_ret
    exact ⟨rfl, b1⟩
end Go.Proofs.YtghiboknhjnlkaaDoor
