/- Plain laws: HTML of a text read back. No program. -/
import Derived.Test.YtghiboknhjnlkaaDoorPlainW
import Derived.Test.YtghiboknhjnlkaaDoorHtml
import Derived.Test.YtghiboknhjnlkaaDoorRunes
import Derived.Test.YtghiboknhjnlkaaDoorMarksLaw
set_option linter.unusedVariables false
set_option linter.unusedSimpArgs false
set_option linter.unnecessarySimpa false
namespace Go.Proofs.YtghiboknhjnlkaaDoor

theorem escH_no (c : UInt8) : ∀ b ∈ escH c, b ≠ 60 ∧ b ≠ 62 ∧ b ≠ 34 := by
  intro b hb
  unfold escH at hb
  by_cases h1 : c = 38
  · rw [if_pos h1] at hb; revert b; decide
  rw [if_neg h1] at hb
  by_cases h2 : c = 60
  · rw [if_pos h2] at hb; revert b; decide
  rw [if_neg h2] at hb
  by_cases h3 : c = 62
  · rw [if_pos h3] at hb; revert b; decide
  rw [if_neg h3] at hb
  by_cases h4 : c = 34
  · rw [if_pos h4] at hb; revert b; decide
  rw [if_neg h4] at hb
  obtain rfl : b = c := by simpa using hb
  exact ⟨h2, h3, h4⟩

theorem html_no (t : List UInt8) : ∀ b ∈ t.flatMap escH, b ≠ 60 ∧ b ≠ 62 ∧ b ≠ 34 := by
  intro b hb
  obtain ⟨c, _, h⟩ := List.mem_flatMap.1 hb
  exact escH_no c b h

theorem entL_amp (l : List UInt8) : entL ([38, 97, 109, 112, 59] ++ l) = ([38], 5) := by
  have : frontL (letS ++ digS) 8 ([97, 109, 112, 59] ++ l) = [97, 109, 112] := by
    simp [frontL, List.takeWhile_cons, letS, digS]
  unfold entL
  simp only [List.cons_append, List.nil_append, List.head?_cons, List.drop_succ_cons, List.drop_zero, if_true]
  rw [if_neg (by decide)]
  rw [List.cons_append, List.cons_append, List.cons_append, List.cons_append, List.nil_append] at this
  rw [this]
  have e : entOf [97, 109, 112] = some 38 := by decide +kernel
  have e2 : charB 38 = [38] := by decide +kernel
  simp only [e, e2, List.length_cons, List.length_nil]
  rfl

theorem entL_lt (l : List UInt8) : entL ([38, 108, 116, 59] ++ l) = ([60], 4) := by
  have : frontL (letS ++ digS) 8 ([108, 116, 59] ++ l) = [108, 116] := by
    simp [frontL, List.takeWhile_cons, letS, digS]
  unfold entL
  simp only [List.cons_append, List.nil_append, List.head?_cons, List.drop_succ_cons, List.drop_zero, if_true]
  rw [if_neg (by decide)]
  rw [List.cons_append, List.cons_append, List.cons_append, List.nil_append] at this
  rw [this]
  have e : entOf [108, 116] = some 60 := by decide +kernel
  have e2 : charB 60 = [60] := by decide +kernel
  simp only [e, e2, List.length_cons, List.length_nil]
  rfl

theorem entL_gt (l : List UInt8) : entL ([38, 103, 116, 59] ++ l) = ([62], 4) := by
  have : frontL (letS ++ digS) 8 ([103, 116, 59] ++ l) = [103, 116] := by
    simp [frontL, List.takeWhile_cons, letS, digS]
  unfold entL
  simp only [List.cons_append, List.nil_append, List.head?_cons, List.drop_succ_cons, List.drop_zero, if_true]
  rw [if_neg (by decide)]
  rw [List.cons_append, List.cons_append, List.cons_append, List.nil_append] at this
  rw [this]
  have e : entOf [103, 116] = some 62 := by decide +kernel
  have e2 : charB 62 = [62] := by decide +kernel
  simp only [e, e2, List.length_cons, List.length_nil]
  rfl

theorem entL_quot (l : List UInt8) : entL ([38, 113, 117, 111, 116, 59] ++ l) = ([34], 6) := by
  have : frontL (letS ++ digS) 8 ([113, 117, 111, 116, 59] ++ l) = [113, 117, 111, 116] := by
    simp [frontL, List.takeWhile_cons, letS, digS]
  unfold entL
  simp only [List.cons_append, List.nil_append, List.head?_cons, List.drop_succ_cons, List.drop_zero, if_true]
  rw [if_neg (by decide)]
  rw [List.cons_append, List.cons_append, List.cons_append, List.cons_append, List.cons_append, List.nil_append] at this
  rw [this]
  have e : entOf [113, 117, 111, 116] = some 34 := by decide +kernel
  have e2 : charB 34 = [34] := by decide +kernel
  simp only [e, e2, List.length_cons, List.length_nil]
  rfl

/-- at the HTML of a byte: either an entity that is this byte, or the byte itself, which is no & -/
theorem escH_read (c : UInt8) (l : List UInt8) : (entL (escH c ++ l) = ([c], (escH c).length) ∧ 0 < (escH c).length) ∨ (escH c = [c] ∧ c ≠ 38 ∧ (entL (escH c ++ l)).2 = 0) := by
  unfold escH
  by_cases h1 : c = 38
  · subst h1; left; rw [if_pos rfl]; exact ⟨entL_amp l, by decide⟩
  rw [if_neg h1]
  by_cases h2 : c = 60
  · subst h2; left; rw [if_pos rfl]; exact ⟨entL_lt l, by decide⟩
  rw [if_neg h2]
  by_cases h3 : c = 62
  · subst h3; left; rw [if_pos rfl]; exact ⟨entL_gt l, by decide⟩
  rw [if_neg h3]
  by_cases h4 : c = 34
  · subst h4; left; rw [if_pos rfl]; exact ⟨entL_quot l, by decide⟩
  rw [if_neg h4]
  right
  exact ⟨rfl, h1, entL_not38 c l h1⟩
end Go.Proofs.YtghiboknhjnlkaaDoor
