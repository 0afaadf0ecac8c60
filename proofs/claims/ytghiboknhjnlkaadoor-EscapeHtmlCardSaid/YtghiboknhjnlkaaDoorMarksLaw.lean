/- Plain law: a text whose marks all have a backslash ahead is itself again. No program. -/
import Derived.Test.YtghiboknhjnlkaaDoorPlainW
set_option linter.unusedVariables false
set_option linter.unusedSimpArgs false
set_option linter.unnecessarySimpa false
namespace Go.Proofs.YtghiboknhjnlkaaDoor

def escB (c : UInt8) : List UInt8 := if isMark c = true then [92, c] else [c]

theorem entL_not38 (c : UInt8) (l : List UInt8) (h : c ≠ 38) : (entL (c :: l)).2 = 0 := by
  unfold entL
  rw [if_neg (by simpa using h)]

theorem plain_escB : ∀ l : List UInt8, plain (l.flatMap escB) = l
  | [] => rfl
  | c :: l => by
    have ih := plain_escB l
    rw [List.flatMap_cons, escB]
    by_cases h : isMark c = true
    · rw [if_pos h]
      show plain (92 :: c :: l.flatMap escB) = _
      rw [plain_esc c _ (by rw [entL_not38 _ _ (by decide)]; omega) h, ih]
    · rw [if_neg h]
      show plain (c :: l.flatMap escB) = _
      have h38 : c ≠ 38 := by rintro rfl; exact h (by decide)
      have h92 : c ≠ 92 := by rintro rfl; exact h (by decide)
      rw [plain_byte c _ (by rw [entL_not38 _ _ h38]; omega) (fun e => h92 e.1), ih]

theorem escB_lens (l : List UInt8) : (l.flatMap escB).length ≤ 2 * l.length := by
  induction l with
  | nil => simp
  | cons c l ih =>
    have : (escB c).length ≤ 2 := by unfold escB; split <;> simp
    rw [List.flatMap_cons, List.length_append, List.length_cons]; omega
end Go.Proofs.YtghiboknhjnlkaaDoor
