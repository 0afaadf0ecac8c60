/- The law EscapeEntities: both answer what EntAt says. -/
import Derived.Test.YtghiboknhjnlkaaDoorAlive
import Derived.Test.YtghiboknhjnlkaaDoorRefEntN
set_option linter.unusedVariables false
set_option linter.unusedSimpArgs false
namespace Go.Proofs.YtghiboknhjnlkaaDoor
open Go.RowKit

set_option maxHeartbeats 4000000 in
set_option maxRecDepth 100000 in
theorem lawEntities_any (s : ByteArray) (at' : Int) (w : World) (hE : EnvS w) :
    Calls Tryd.prog 3 #[.string s, .int .i64 at'] w fun e w' => e = .returned (.bool true) ∧ Below w.heap.size w w' := by
  have HA := Lib.hid (fun w h => alive_any w h)
  by_cases hs : s.size ≤ 50000
  · have hs2 : decide (50000 < (s.size : Int)) = false := by simp; omega
    have H1 := Lib.hid (fun w h => entity_at s at' w (by omega) h)
    have H2 := Lib.hid (fun w => refEntity_at s at' w (by omega))
    generalize entAt s at' = E at *
    obtain ⟨m, hm⟩ : ∃ m : Int, m = E.2 := ⟨_, rfl⟩
    rw [← hm] at H1 H2
    generalize E.1 = cs at *
    clear hm
    go_enter Tryd.func3, Tryd.ntmps3
    go_wp2_with (first | (go_at_call 15; refine (HA.out _ hE).mono ?_; rintro e w1 ⟨rfl, b1⟩) | (go_at_call 16; refine (H1.out _ (hE.below b1)).mono ?_; rintro e w2 ⟨rfl, b2⟩) | (go_at_call 17; refine (H2.out _).mono ?_; rintro e w3 ⟨rfl, b3⟩))
    go_ret
    exact ⟨rfl, bnx (bnx b1 b2) b3⟩
  · have hs2 : decide (50000 < (s.size : Int)) = true := by simp; omega
    go_enter Tryd.func3, Tryd.ntmps3
    go_wp2_with (go_at_call 15; refine (HA.out _ hE).mono ?_; rintro e w1 ⟨rfl, b1⟩)
    go_ret
    exact ⟨rfl, b1⟩
end Go.Proofs.YtghiboknhjnlkaaDoor
