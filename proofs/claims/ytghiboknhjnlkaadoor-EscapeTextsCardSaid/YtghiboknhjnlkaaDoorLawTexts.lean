/- The law EscapeTexts: Plain, Html and Url answer as the document's. -/
import Derived.Test.YtghiboknhjnlkaaDoorAlive
import Derived.Test.YtghiboknhjnlkaaDoorRefPlain
import Derived.Test.YtghiboknhjnlkaaDoorRefUrl
set_option linter.unusedVariables false
set_option linter.unusedSimpArgs false
set_option linter.unnecessarySimpa false
namespace Go.Proofs.YtghiboknhjnlkaaDoor
open Go.RowKit

set_option maxHeartbeats 4000000 in
set_option maxRecDepth 100000 in
theorem lawTexts_any (s : ByteArray) (w : World) (hE : EnvS w) :
    Calls Tryd.prog 4 #[.string s] w fun e w' => e = .returned (.bool true) ∧ Below w.heap.size w w' := by
  have HA := Lib.hid (fun w h => alive_any w h)
  by_cases hs : s.size ≤ 20000
  · have hs2 : decide (20000 < (s.size : Int)) = false := by simp; omega
    have P1 := Lib.hid (fun w h => plainText_any s w (by omega) h)
    have P2 := Lib.hid (fun w => refPlainText_any s w (by omega))
    have H1 := Lib.hid (fun w => html_any s w (by omega))
    have H2 := Lib.hid (fun w => refHtml_any s w (by omega))
    have U1 := Lib.hid (fun w => url_any s w (by omega))
    have U2 := Lib.hid (fun w => refUrl_any s w (by omega))
    generalize plain s.data.toList = p at *
    generalize html s.data.toList = h at *
    generalize url s.data.toList = u at *
    go_enter Tryd.func4, Tryd.ntmps4
    go_wp2_with (first | (go_at_call 15; refine (HA.out _ hE).mono ?_; rintro e w1 ⟨rfl, b1⟩) | (go_at_call 18; refine (P1.out _ (hE.below b1)).mono ?_; rintro e w2 ⟨rfl, b2⟩) | (go_at_call 19; refine (P2.out _).mono ?_; rintro e w3 ⟨rfl, b3⟩) | (go_at_call 20; refine (H1.out _).mono ?_; rintro e w4 ⟨rfl, b4⟩) | (go_at_call 21; refine (H2.out _).mono ?_; rintro e w5 ⟨rfl, b5⟩) | (go_at_call 22; refine (U1.out _).mono ?_; rintro e w6 ⟨rfl, b6⟩) | (go_at_call 23; refine (U2.out _).mono ?_; rintro e w7 ⟨rfl, b7⟩))
    go_ret
    exact ⟨rfl, bnx (bnx (bnx (bnx (bnx (bnx b1 b2) b3) b4) b5) b6) b7⟩
  · have hs2 : decide (20000 < (s.size : Int)) = true := by simp; omega
    go_enter Tryd.func4, Tryd.ntmps4
    go_wp2_with (go_at_call 15; refine (HA.out _ hE).mono ?_; rintro e w1 ⟨rfl, b1⟩)
    go_ret
    exact ⟨rfl, b1⟩
end Go.Proofs.YtghiboknhjnlkaaDoor
