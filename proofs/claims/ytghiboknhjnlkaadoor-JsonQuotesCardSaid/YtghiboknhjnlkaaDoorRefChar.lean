/- The document's Bytes, char and table of entities. -/
import Derived.Test.YtghiboknhjnlkaaDoorRefNum
set_option linter.unusedVariables false
set_option linter.unusedSimpArgs false
namespace Go.Proofs.YtghiboknhjnlkaaDoor
open Go.RowKit

/-- a character's number -/
def Scalar (r : Int) : Prop := (0 ≤ r ∧ r < 55296) ∨ (57343 < r ∧ r ≤ 1114111)

set_option maxHeartbeats 2000000 in
set_option maxRecDepth 100000 in
theorem refBytes_any (r : Int) (hr : Scalar r) (w : World) :
    Calls Tryd.prog 69 #[.int .i64 r] w fun e w' => e = .returned (.slice (some ⟨w.heap.size, 0, none⟩) (Lib.encodeRune r).length (Lib.encodeRune r).length) ∧ w' = w.alloc (.cells (Lib.byteCells (Lib.encodeRune r)).toArray 5) := by
  rw [← Lib.runeCells_length, Lib.byteCells_encodeRune]
  unfold Lib.runeCells
  unfold Scalar at hr
  by_cases h1 : r ≤ 127
  · rw [Lib.encodeRuneZ_one (by omega) h1]
    have h0 : 0 ≤ r := by omega
    clear hr
    go_enter Tryd.func69, Tryd.ntmps69
    go_wp2
    go_ret
    exact ⟨rfl, rfl⟩
  · by_cases h2 : r ≤ 2047
    · rw [Lib.encodeRuneZ_two (by omega) h2]
      have h0 : 128 ≤ r := by omega
      clear hr h1
      go_enter Tryd.func69, Tryd.ntmps69
      go_wp2
      go_ret
      exact ⟨rfl, rfl⟩
    · by_cases h3 : r ≤ 65535
      · rw [Lib.encodeRuneZ_three (by omega)]
        have h0 : 2048 ≤ r := by omega
        clear hr h1 h2
        go_enter Tryd.func69, Tryd.ntmps69
        go_wp2
        go_ret
        exact ⟨rfl, rfl⟩
      · rw [Lib.encodeRuneZ_four (by omega) (by omega)]
        have h0 : 65536 ≤ r := by omega
        have h4 : r ≤ 1114111 := by omega
        clear hr h1 h2 h3
        go_enter Tryd.func69, Tryd.ntmps69
        go_wp2
        go_ret
        exact ⟨rfl, rfl⟩

/-- what Bytes hands back is owned -/
theorem owns_new (w : World) (e : TypeId) (base : Nat) (hb : base ≤ w.heap.size) (l : List UInt8) (hl : l.length ≤ maxLen) :
    (w.alloc (.cells (Lib.byteCells l).toArray e)).ownsRowF base e 1 (.slice (some ⟨w.heap.size, 0, none⟩) l.length l.length) l.length (Lib.byteCells l) :=
  ⟨by simp [Lib.byteCells_length], .inr ⟨w.heap.size, l.length, _, (0, 0), rfl, hb, heap_alloc_new w _, by simp, Nat.le_refl _, hl, by simp [Lib.byteCells_length], by rw [List.take_of_length_le (by simp [Lib.byteCells_length])]⟩⟩

set_option maxHeartbeats 2000000 in
set_option maxRecDepth 100000 in
theorem refChar_any (v : Int) (h0 : 0 ≤ v) (w : World) :
    Calls Tryd.prog 45 #[.int .i64 v] w fun e w' => e = .returned (.string ⟨(charB v).toArray⟩) ∧ Below w.heap.size w w' := by
  have key : ∀ (r : Int), Scalar r → ∀ w : World, (convert 28 9 (.slice (some ⟨w.heap.size, 0, none⟩) (Lib.encodeRune r).length (Lib.encodeRune r).length)).run Tryd.prog (w.alloc (.cells (Lib.byteCells (Lib.encodeRune r)).toArray 5)) = .ok (.string ⟨(Lib.encodeRune r).toArray⟩) (w.alloc (.cells (Lib.byteCells (Lib.encodeRune r)).toArray 5)) := fun r hr w =>
    run_own_string _ Tryd.underlying28 Tryd.underlying5 Tryd.underlying9 (owns_new w _ 0 (Nat.zero_le _) _ (by have := (encodeRune_len r).2; unfold maxLen; omega))
  by_cases hbad : v = 0 ∨ 55296 ≤ v ∧ v < 57344 ∨ 1114111 < v
  · have hc : charB v = Lib.encodeRune 65533 := by
      unfold charB
      rcases hbad with h | h
      · rw [if_pos h]
      · rw [if_neg (by omega)]; unfold Lib.encodeRune; rw [Lib.encodeRuneZ_bad (by omega)]; rfl
    rw [hc]
    have hk := key 65533 (.inr (by omega)) w
    have hB := Lib.hid (fun w => refBytes_any 65533 (.inr (by omega)) w)
    clear hc key
    generalize Lib.encodeRune 65533 = l at *
    rcases hbad with h | ⟨h, h2⟩ | h
    · subst h
      go_enter Tryd.func45, Tryd.ntmps45
      go_wp2_with (go_at_call 69; refine (hB.out _).mono ?_; rintro e w' ⟨rfl, rfl⟩)
      go_ret
      exact ⟨rfl, (Below.refl _ w).alloc (Nat.le_refl _) _⟩
    · have hz : (v == 0) = false := beq_eq_false_iff_ne.mpr (by omega)
      go_enter Tryd.func45, Tryd.ntmps45
      go_wp2_with (go_at_call 69; refine (hB.out _).mono ?_; rintro e w' ⟨rfl, rfl⟩)
      go_ret
      exact ⟨rfl, (Below.refl _ w).alloc (Nat.le_refl _) _⟩
    · have hz : (v == 0) = false := beq_eq_false_iff_ne.mpr (by omega)
      go_enter Tryd.func45, Tryd.ntmps45
      go_wp2_with (go_at_call 69; refine (hB.out _).mono ?_; rintro e w' ⟨rfl, rfl⟩)
      go_ret
      exact ⟨rfl, (Below.refl _ w).alloc (Nat.le_refl _) _⟩
  · have hc : charB v = Lib.encodeRune v := by unfold charB; rw [if_neg (by omega)]
    have hsc : Scalar v := by unfold Scalar; omega
    rw [hc]
    have hk := key v hsc w
    have hB := Lib.hid (fun w => refBytes_any v hsc w)
    have hz : (v == 0) = false := beq_eq_false_iff_ne.mpr (by omega)
    have hm : v ≤ 1114111 := by omega
    clear hc key hsc
    generalize Lib.encodeRune v = l at *
    have hs : v < 55296 ∨ 55296 ≤ v ∧ 57344 ≤ v := by omega
    clear hbad
    rcases hs with hs | ⟨hs, hs2⟩
    all_goals
      go_enter Tryd.func45, Tryd.ntmps45
      go_wp2_with (go_at_call 69; refine (hB.out _).mono ?_; rintro e w' ⟨rfl, rfl⟩)
      go_ret
      exact ⟨rfl, (Below.refl _ w).alloc (Nat.le_refl _) _⟩

end Go.Proofs.YtghiboknhjnlkaaDoor
