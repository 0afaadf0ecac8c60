/- That strconv.ParseInt reads up to seven digits, and tells an error of the empty text. -/
import Derived.Test.YtghiboknhjnlkaaDoorNum
set_option linter.unusedVariables false
set_option linter.unusedSimpArgs false
namespace Go.Proofs.YtghiboknhjnlkaaDoor
open Go.RowKit

/-- the error that the variable ErrSyntax holds lies in memory -/
def EnvS (w : World) : Prop := ∃ ev, w.cell? ⟨3, 0, none⟩ = some ev ∧ (ev = .nilIface ∨ ∃ te pe, ev = .iface te pe)

theorem EnvS.below {w w' : World} (h : EnvS w) (hb : Below w.heap.size w w') : EnvS w' := by
  obtain ⟨ev, hc, he⟩ := h
  have hlt : 3 < w.heap.size := by
    rcases Nat.lt_or_ge 3 w.heap.size with h' | h'
    · exact h'
    · simp [World.cell?, Array.getElem?_eq_none h'] at hc
  exact ⟨ev, (hb.cell (p := ⟨3, 0, none⟩) hlt).trans hc, he⟩

set_option maxHeartbeats 2000000 in
set_option maxRecDepth 100000 in
theorem parseIntI_any (s : ByteArray) (base : Nat) (B : Int) (hb : base = 10 ∧ B = 10 ∨ base = 16 ∧ B = 16) (w : World) (hne : s.size ≠ 0) (hs : s.size ≤ 7) (hd : ∀ c ∈ s.data.toList, dval c < base) :
    Calls Tryd.prog 98 #[.string s, .int .i64 B, .int .i64 64] w fun e w' => e = .returned (.tuple #[.int .i64 (numVal base s.data.toList), .nilIface]) ∧ Below w.heap.size w w' := by
  have hP := Lib.hid (fun w => parseUint_any s base B hb 64 (.inr rfl) w hne hs hd)
  have hemp : s.toList.isEmpty = false := by
    rw [Lib.toList_data]
    cases h : s.data.toList with
    | nil => exact absurd (by rw [Lib.size_eq, h]; rfl) hne
    | cons c r => rfl
  have hpos : 0 < s.size := by omega
  have hn0 : numVal base s.data.toList < 268435456 := by
    have h1 := numVal_lt base s.data.toList hd
    have h2 : base ^ s.data.toList.length ≤ 16 ^ 7 := Nat.le_trans (Nat.pow_le_pow_left (by omega) _) (Nat.pow_le_pow_right (by omega) (by simpa using hs))
    exact Nat.lt_of_lt_of_le h1 h2
  have hc := hd (s[0]'hpos) (List.getElem_mem (l := s.data.toList) (n := 0) (by simpa using hpos))
  have h43 : ((s[0]'hpos).toNat : Int) ≠ 43 ∧ ((s[0]'hpos).toNat : Int) ≠ 45 := by
    unfold dval at hc
    constructor
    all_goals
      intro e
      repeat' split at hc
      all_goals omega
  obtain ⟨h43, h45⟩ := h43
  have e43 : (((s[0]'hpos).toNat : Int) == 43) = false := beq_eq_false_iff_ne.mpr h43
  have e45 : (((s[0]'hpos).toNat : Int) == 45) = false := beq_eq_false_iff_ne.mpr h45
  clear hc hd hb h43 h45
  generalize (numVal base s.data.toList) = n at *
  obtain ⟨m, hm⟩ : ∃ m : Int, m = n := ⟨_, rfl⟩
  rw [← hm] at hP ⊢
  have hm0 : 0 ≤ m := by omega
  have hm1 : m < 268435456 := by omega
  clear hm hn0
  go_enter Tryd.func98, Tryd.ntmps98
  go_wp2_with (go_at_call 109; refine (hP.out _).mono ?_; rintro e w' ⟨rfl, hb⟩)
  go_ret2
  exact ⟨rfl, hb⟩

set_option maxHeartbeats 2000000 in
set_option maxRecDepth 100000 in
theorem parseInt_any (s : ByteArray) (base : Nat) (B : Int) (hb : base = 10 ∧ B = 10 ∨ base = 16 ∧ B = 16) (w : World) (hne : s.size ≠ 0) (hs : s.size ≤ 7) (hd : ∀ c ∈ s.data.toList, dval c < base) :
    Calls Tryd.prog 72 #[.string s, .int .i64 B, .int .i64 64] w fun e w' => e = .returned (.tuple #[.int .i64 (numVal base s.data.toList), .nilIface]) ∧ Below w.heap.size w w' := by
  have hP := Lib.hid (fun w => parseIntI_any s base B hb w hne hs hd)
  clear hb hne hs hd
  go_enter Tryd.func72, Tryd.ntmps72
  go_wp2_with (go_at_call 98; refine (hP.out _).mono ?_; rintro e w' ⟨rfl, hb⟩)
  go_ret2
  exact ⟨rfl, hb⟩

set_option maxHeartbeats 2000000 in
set_option maxRecDepth 100000 in
theorem parseInt_empty (B : Int) (w : World) (hE : EnvS w) :
    Calls Tryd.prog 72 #[.string ⟨#[]⟩, .int .i64 B, .int .i64 64] w fun e w' => ∃ T p, e = .returned (.tuple #[.int .i64 0, .iface T p]) ∧ Below w.heap.size w w' := by
  obtain ⟨ev, hc, he⟩ := hE
  have hP := Lib.hid (fun w => Tryd.internal_strconv_ParseInt_empty B 64 w)
  have hT := Lib.hid (Tryd.strconv_toError_syntax ⟨#[80, 97, 114, 115, 101, 73, 110, 116]⟩ ⟨#[]⟩ B 64 ev w (by decide) hc he)
  clear hc he
  go_enter Tryd.func72, Tryd.ntmps72
  go_wp2_with (first | (go_at_call 98; refine (hP.out _).mono ?_; rintro e w' ⟨rfl, rfl⟩) | (go_at_call 99; refine hT.out.mono ?_; rintro e w' ⟨N, rfl, h1, h2, h3⟩))
  go_ret2
  exact ⟨_, _, rfl, h3⟩
end Go.Proofs.YtghiboknhjnlkaaDoor
