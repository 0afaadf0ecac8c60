/- A text from a place on, as a list. No program. -/
import Derived.Test.YtghiboknhjnlkaaDoorTxt
import Derived.Lib.IndexBytes
set_option linter.unusedVariables false
set_option linter.unusedSimpArgs false
namespace Go.Proofs.YtghiboknhjnlkaaDoor

theorem drop_head (s : ByteArray) (n : Nat) (h : n < s.size) : (s.data.toList.drop n).head? = some (s[n]'h) := by
  rw [List.head?_drop, List.getElem?_eq_getElem (by simpa using h)]
  rfl

theorem drop_head_none (s : ByteArray) (n : Nat) (h : ¬ n < s.size) : (s.data.toList.drop n).head? = none := by
  rw [List.head?_drop, List.getElem?_eq_none (by simpa using h)]

theorem drop_cons (s : ByteArray) (n : Nat) (h : n < s.size) : s.data.toList.drop n = s[n]'h :: s.data.toList.drop (n + 1) := by
  rw [List.drop_eq_getElem_cons (by simpa using h)]
  rfl

theorem extract_head (s : ByteArray) (n : Nat) : (s.extract n s.size).data.toList = s.data.toList.drop n := Lib.extract_to_end s n


theorem extract_list (s : ByteArray) (n : Nat) : s.extract n s.size = ⟨(s.data.toList.drop n).toArray⟩ := by
  apply ByteArray.ext
  apply Array.ext'
  have := extract_head s n
  simpa using this

end Go.Proofs.YtghiboknhjnlkaaDoor
