/- That the document's fixed texts are answered so. -/
import Derived.Test.YtghiboknhjnlkaaDoorPlainW
import Derived.Test.YtghiboknhjnlkaaDoorHtml
import Derived.Test.YtghiboknhjnlkaaDoorUrl
import Derived.Test.YtghiboknhjnlkaaDoorEntW
set_option linter.unusedVariables false
set_option linter.unusedSimpArgs false
namespace Go.Proofs.YtghiboknhjnlkaaDoor
open Go.RowKit

def al1 : List UInt8 := [38, 35, 120, 52, 49, 59]
def al2 : List UInt8 := [92, 42, 97, 38, 97, 109, 112, 59, 38, 99, 111, 112, 121]
def al3 : List UInt8 := [97, 32, 98, 37, 50, 48, 37]
def al4 : List UInt8 := [60, 34]

theorem al1_eq : entAt ⟨al1.toArray⟩ 0 = ([65], 6) := by decide +kernel
theorem al2_eq : plain al2 = [42, 97, 38, 38, 99, 111, 112, 121] := by decide +kernel
theorem al3_eq : url al3 = [97, 37, 50, 48, 98, 37, 50, 48, 37, 50, 53] := by decide +kernel
theorem al4_eq : html al4 = [38, 108, 116, 59, 38, 113, 117, 111, 116, 59] := by decide +kernel

theorem bnx {a b c : World} (h : Below a.heap.size a b) (k : Below b.heap.size b c) : Below a.heap.size a c := h.trans (k.mono h.size)

set_option maxHeartbeats 4000000 in
set_option maxRecDepth 100000 in
theorem alive_any (w : World) (hE : EnvS w) :
    Calls Tryd.prog 15 #[] w fun e w' => e = .returned (.bool true) ∧ Below w.heap.size w w' := by
  have h1 := entity_at ⟨al1.toArray⟩ 0 w (by decide) hE
  rw [al1_eq] at h1
  have h2 := Lib.hid (fun w h => plainText_any ⟨al2.toArray⟩ w (by decide) h)
  have h3 := Lib.hid (fun w => url_any ⟨al3.toArray⟩ w (by decide))
  have h4 := Lib.hid (fun w => html_any ⟨al4.toArray⟩ w (by decide))
  simp only [al2_eq, al3_eq, al4_eq] at h2 h3 h4
  go_enter Tryd.func15, Tryd.ntmps15
  go_wp2_with (first | (go_at_call 16; refine h1.mono ?_; rintro e w1 ⟨rfl, b1⟩) | (go_at_call 18; refine (h2.out _ (hE.below b1)).mono ?_; rintro e w2 ⟨rfl, b2⟩) | (go_at_call 22; refine (h3.out _).mono ?_; rintro e w3 ⟨rfl, b3⟩) | (go_at_call 20; refine (h4.out _).mono ?_; rintro e w4 ⟨rfl, b4⟩))
  go_ret
  exact ⟨rfl, bnx (bnx (bnx b1 b2) b3) b4⟩
end Go.Proofs.YtghiboknhjnlkaaDoor
