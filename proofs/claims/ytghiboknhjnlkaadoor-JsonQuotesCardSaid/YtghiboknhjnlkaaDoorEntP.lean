/- What an entity's text at a text's begin is, as the program finds it. No program. -/
import Derived.Test.YtghiboknhjnlkaaDoorFront
import Derived.Test.YtghiboknhjnlkaaDoorEnt
import Derived.Test.YtghiboknhjnlkaaDoorNum
set_option linter.unusedVariables false
set_option linter.unusedSimpArgs false
namespace Go.Proofs.YtghiboknhjnlkaaDoor

def digS : List UInt8 := [48, 49, 50, 51, 52, 53, 54, 55, 56, 57]
def hexS : List UInt8 := [48, 49, 50, 51, 52, 53, 54, 55, 56, 57, 97, 98, 99, 100, 101, 102, 65, 66, 67, 68, 69, 70]
def letS : List UInt8 := [97, 98, 99, 100, 101, 102, 103, 104, 105, 106, 107, 108, 109, 110, 111, 112, 113, 114, 115, 116, 117, 118, 119, 120, 121, 122, 65, 66, 67, 68, 69, 70, 71, 72, 73, 74, 75, 76, 77, 78, 79, 80, 81, 82, 83, 84, 85, 86, 87, 88, 89, 90]

/-- so many bytes of a set at the begin -/
def frontL (set : List UInt8) (most : Nat) (l : List UInt8) : List UInt8 := (l.takeWhile set.contains).take most

theorem inSet_contains (set : List UInt8) (c : UInt8) : inSet ⟨set.toArray⟩ (⟨set.toArray⟩ : ByteArray).size c.toNat = set.contains c := by
  unfold inSet
  rw [show (⟨set.toArray⟩ : ByteArray).size = set.length from by simp [ByteArray.size]]
  show (set.take set.length).any _ = _
  rw [List.take_length, Bool.eq_iff_iff, List.any_eq_true, List.contains_iff_exists_mem_beq]
  constructor
  · rintro ⟨x, hx, h⟩
    refine ⟨x, hx, ?_⟩
    rw [beq_iff_eq]
    apply UInt8.toNat_inj.mp
    have := of_decide_eq_true h
    omega
  · rintro ⟨x, hx, h⟩
    rw [beq_iff_eq] at h
    exact ⟨x, hx, by simp [h]⟩

theorem lead_list (set : List UInt8) (s : ByteArray) : lead ⟨set.toArray⟩ s = (s.data.toList.takeWhile set.contains).length := by
  unfold lead
  congr 2
  funext c
  exact inSet_contains set c

theorem takeWhile_eq_take {α : Type} (p : α → Bool) (l : List α) : l.takeWhile p = l.take (l.takeWhile p).length := by
  induction l with
  | nil => rfl
  | cons a l ih =>
    rw [List.takeWhile_cons]
    split
    · simp only [List.length_cons, List.take_succ_cons]; rw [← ih]
    · rfl

theorem frontL_eq (set : List UInt8) (most : Nat) (l : List UInt8) : frontL set most l = l.take (min (l.takeWhile set.contains).length most) := by
  unfold frontL
  rw [takeWhile_eq_take, List.take_take, Nat.min_comm]
  congr 2
  rw [← takeWhile_eq_take]

/-- front's text as a list -/
theorem front_list (set : List UInt8) (most : Nat) (s : ByteArray) : (s.extract 0 (min (lead ⟨set.toArray⟩ s) most)) = ⟨(frontL set most s.data.toList).toArray⟩ := by
  apply ByteArray.ext
  apply Array.ext'
  rw [lead_list, frontL_eq]
  simp

theorem frontL_len (set : List UInt8) (most : Nat) (l : List UInt8) : (frontL set most l).length ≤ most := by
  unfold frontL; exact List.length_take_le _ _

theorem frontL_le (set : List UInt8) (most : Nat) (l : List UInt8) : (frontL set most l).length ≤ l.length := by
  rw [frontL_eq]; exact List.length_take_le' _ _

theorem mem_takeWhile_p {α : Type} (p : α → Bool) : ∀ (l : List α) (c : α), c ∈ l.takeWhile p → p c = true
  | [], c, h => by simp at h
  | a :: l, c, h => by
    rw [List.takeWhile_cons] at h
    split at h
    · rename_i ha
      rcases List.mem_cons.1 h with rfl | h2
      · exact ha
      · exact mem_takeWhile_p p l c h2
    · simp at h

theorem frontL_mem (set : List UInt8) (most : Nat) (l : List UInt8) : ∀ c ∈ frontL set most l, set.contains c = true :=
  fun c hc => mem_takeWhile_p _ l c (List.mem_of_mem_take hc)

theorem dval_dig : ∀ c : UInt8, digS.contains c = true → dval c < 10 := by
  have h : ∀ c ∈ digS, dval c < 10 := by decide +kernel
  intro c hc
  exact h c (by simpa using hc)

theorem dval_hex : ∀ c : UInt8, hexS.contains c = true → dval c < 16 := by
  have h : ∀ c ∈ hexS, dval c < 16 := by decide +kernel
  intro c hc
  exact h c (by simpa using hc)

/-- the number behind "&#": its character, and how many bytes of the text it has -/
def numericL (l : List UInt8) : List UInt8 × Nat :=
  let x := l.head? = some 120 ∨ l.head? = some 88
  let d := if x then frontL hexS 6 (l.drop 1) else frontL digS 7 l
  let n := (if x then 1 else 0) + d.length
  if d = [] ∨ (l.drop n).head? ≠ some 59 then ([], 0) else (charB (numVal (if x then 16 else 10) d), n + 1)

/-- the entity at a text's begin -/
def entL (l : List UInt8) : List UInt8 × Nat :=
  if l.head? = some 38 then
    if (l.drop 1).head? = some 35 then
      if (numericL (l.drop 2)).2 = 0 then ([], 0) else ((numericL (l.drop 2)).1, (numericL (l.drop 2)).2 + 2)
    else
      let name := frontL (letS ++ digS) 8 (l.drop 1)
      match entOf name with
      | none => ([], 0)
      | some n => if (l.drop (1 + name.length)).head? = some 59 then (charB n, name.length + 2) else ([], 0)
  else ([], 0)
end Go.Proofs.YtghiboknhjnlkaaDoor
