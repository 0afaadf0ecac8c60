/- That class.within and class.Plain tell whether a number lies in one of some spans; the document's Plain. -/
import Derived.Test.YtghiboknhjnlkaaDoorBk
import Derived.Test.YtghiboknhjnlkaaDoorProg
set_option linter.unusedVariables false
set_option linter.unusedSimpArgs false
namespace Go.Proofs.YtghiboknhjnlkaaDoor
open Go.RowKit

def inSpan (r : Int) (p : Int × Int) : Bool := decide (p.1 ≤ r) && decide (r ≤ p.2)

set_option maxHeartbeats 1000000 in
set_option maxRecDepth 100000 in
theorem within_any (r : Int) (g c : Nat) (l : List (Int × Int)) (w : World) (hl : l.length ≤ 1000000)
    (hc : ∀ i (h : i < l.length), w.cell? ⟨g, i * 2, none⟩ = some (.int .i64 l[i].1) ∧ w.cell? ⟨g, i * 2 + 1, none⟩ = some (.int .i64 l[i].2)) :
    Calls Tryd.prog 55 #[.int .i64 r, .slice (some ⟨g, 0, none⟩) l.length c] w fun e w' => e = .returned (.bool (l.any (inSpan r))) ∧ Below w.heap.size w w' := by
  have HC := Lib.hid hc
  clear hc
  go_enter Tryd.func55, Tryd.ntmps55
  go_wp2
  go_loopw [9] (fun i wr => ∃ k : Nat, i = .int .i64 k ∧ k ≤ l.length ∧ Hid ((l.take k).any (inSpan r) = false) ∧ Below w.heap.size w wr) (fun i _ => l.length - (intOf i).toNat)
  case atStart => exact ⟨0, rfl, Nat.zero_le _, rfl, Below.refl _ _⟩
  case round =>
    obtain ⟨k, rfl, hk, hA, hb⟩ := hrel
    by_cases hlt : k < l.length
    · obtain ⟨h1, h2⟩ := HC.out k hlt
      have hgw : g < w.heap.size := by
        rcases Nat.lt_or_ge g w.heap.size with h | h
        · exact h
        · simp [World.cell?, Array.getElem?_eq_none h] at h1
      have hn : (l.take (k + 1)).any (inSpan r) = ((l.take k).any (inSpan r) || inSpan r l[k]) := by
        rw [List.take_succ_eq_append_getElem hlt, List.any_append]; simp
      rw [hA.out, Bool.false_or] at hn
      have hful : inSpan r l[k] = true → l.any (inSpan r) = true := fun h => List.any_eq_true.mpr ⟨l[k], List.getElem_mem _, h⟩
      have h1' : wr.cell? ⟨g, k * 2, none⟩ = some (.int .i64 l[k].1) := by rw [hb.cell (p := ⟨g, k * 2, none⟩) hgw]; exact h1
      have h2' : wr.cell? ⟨g, k * 2 + 1, none⟩ = some (.int .i64 l[k].2) := by rw [hb.cell (p := ⟨g, k * 2 + 1, none⟩) hgw]; exact h2
      clear h1 h2
      generalize l[k] = p at *
      have HN := Lib.hid hn
      have HF := Lib.hid hful
      clear hn hful
      by_cases ha : p.1 ≤ r
      · by_cases hb2 : r ≤ p.2
        · have hin : inSpan r p = true := by simp [inSpan, ha, hb2]
          have HI := Lib.hid hin
          clear hin
          go_wp2
          go_ret
          refine ⟨?_, hb.alloc (by have := hb.size; omega) _⟩
          rw [HF.out HI.out]; rfl
        · have hin : inSpan r p = false := by simp [inSpan, hb2]
          have HI := Lib.hid hin
          clear hin
          go_wp2
          go_roundw
          case rel => exact ⟨k + 1, by go_num, by omega, by rw [HN.out]; exact HI, hb.alloc (by have := hb.size; omega) _⟩
          case measure => simp [intOf]; omega
      · have hin : inSpan r p = false := by simp [inSpan, ha]
        have HI := Lib.hid hin
        clear hin
        have hd : decide (p.1 ≤ r) = false := decide_eq_false ha
        go_wp2
        go_roundw
        case rel => exact ⟨k + 1, by go_num, by omega, by rw [HN.out]; exact HI, hb.alloc (by have := hb.size; omega) _⟩
        case measure => simp [intOf]; omega
    · have hke : k = l.length := by omega
      subst hke
      rw [List.take_length] at hA
      go_wp2
      go_ret
      refine ⟨?_, hb⟩
      rw [hA.out]; rfl

/-- is a byte a plain mark -/
def isMark (c : UInt8) : Bool := [(33, 47), (58, 64), (91, 96), (123, 126)].any (inSpan c.toNat)

set_option maxHeartbeats 1000000 in
set_option maxRecDepth 100000 in
theorem plain_any (c : UInt8) (w : World) :
    Calls Tryd.prog 24 #[.int .u8 c.toNat] w fun e w' => e = .returned (.bool (isMark c)) ∧ Below w.heap.size w w' := by
  have h256 : (c.toNat : Int) < 256 := by have := c.toNat_lt; omega
  have hw : wrap64 (c.toNat : Int) = c.toNat := by unfold wrap64; omega
  unfold isMark
  generalize hcn : (c.toNat : Int) = n at *
  have h0 : 0 ≤ n := by omega
  clear hcn
  go_enter Tryd.func24, Tryd.ntmps24
  go_wp2_with (go_at_call 55; refine (within_any n _ 4 [(33, 47), (58, 64), (91, 96), (123, 126)] _ (by decide) ?hc).mono ?_)
  case hc =>
    intro i hi
    match i, hi with
    | 0, _ => exact ⟨by simp, by simp⟩
    | 1, _ => exact ⟨by simp, by simp⟩
    | 2, _ => exact ⟨by simp, by simp⟩
    | 3, _ => exact ⟨by simp, by simp⟩
  rintro e w' ⟨rfl, hb⟩
  go_wp2
  go_ret
  refine ⟨?_, ((Below.refl _ w).alloc (Nat.le_refl _) _).trans (hb.mono (by simp))⟩
  show Ending.returned (.bool _) = _
  simp [List.any]

theorem isMark_eq (c : UInt8) : isMark c = (decide (33 ≤ c.toNat) && decide (c.toNat ≤ 47) || decide (58 ≤ c.toNat) && decide (c.toNat ≤ 64) || decide (91 ≤ c.toNat) && decide (c.toNat ≤ 96) || decide (123 ≤ c.toNat) && decide (c.toNat ≤ 126)) := by
  unfold isMark
  rw [Bool.eq_iff_iff]
  simp [inSpan]
  omega

set_option maxHeartbeats 1000000 in
set_option maxRecDepth 100000 in
theorem refPlain_any (c : UInt8) (w : World) :
    Calls Tryd.prog 52 #[.int .u8 c.toNat] w fun e w' => e = .returned (.bool (isMark c)) ∧ w = w' := by
  have h256 := c.toNat_lt
  rw [isMark_eq]
  have hcs : c.toNat < 33 ∨ 33 ≤ c.toNat ∧ c.toNat ≤ 47 ∨ 48 ≤ c.toNat ∧ c.toNat < 58 ∨ 58 ≤ c.toNat ∧ c.toNat ≤ 64 ∨ 65 ≤ c.toNat ∧ c.toNat < 91 ∨ 91 ≤ c.toNat ∧ c.toNat ≤ 96 ∨ 97 ≤ c.toNat ∧ c.toNat < 123 ∨ 123 ≤ c.toNat ∧ c.toNat ≤ 126 ∨ 127 ≤ c.toNat := by omega
  generalize c.toNat = n at *
  rcases hcs with h | ⟨h1, h2⟩ | ⟨h1, h2⟩ | ⟨h1, h2⟩ | ⟨h1, h2⟩ | ⟨h1, h2⟩ | ⟨h1, h2⟩ | ⟨h1, h2⟩ | h
  all_goals
    go_enter Tryd.func52, Tryd.ntmps52
    go_wp2
    go_ret
    refine ⟨congrArg (fun b => Ending.returned (Value.bool b)) ?_, rfl⟩
    first
    | rfl
    | (rw [Bool.eq_iff_iff]; simp only [Bool.or_eq_true, Bool.and_eq_true, decide_eq_true_iff]; omega)
    | (rw [Bool.eq_iff_iff]; simp only [Bool.or_eq_true, Bool.and_eq_true, decide_eq_true_iff, Bool.false_eq_true, false_iff]; omega)
end Go.Proofs.YtghiboknhjnlkaaDoor
