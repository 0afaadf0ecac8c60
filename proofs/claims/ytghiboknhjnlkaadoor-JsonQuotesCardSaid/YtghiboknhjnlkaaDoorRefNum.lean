/- The document's digit, letter, hex, number, Bytes, char and table of entities. -/
import Derived.Test.YtghiboknhjnlkaaDoorEntP
import Derived.Test.YtghiboknhjnlkaaDoorBuild
set_option linter.unusedVariables false
set_option linter.unusedSimpArgs false
namespace Go.Proofs.YtghiboknhjnlkaaDoor
open Go.RowKit

def isDig (c : UInt8) : Bool := decide (48 ≤ (c.toNat : Int)) && decide ((c.toNat : Int) ≤ 57)
def isLet (c : UInt8) : Bool := decide (65 ≤ (c.toNat : Int)) && decide ((c.toNat : Int) ≤ 90) || decide (97 ≤ (c.toNat : Int)) && decide ((c.toNat : Int) ≤ 122)
def hexZ (c : UInt8) : Int := if dval c < 16 then dval c else -1

theorem ret_b {a b : Bool} (h : a = b) : Ending.returned (.bool a) = Ending.returned (.bool b) := by rw [h]

set_option maxHeartbeats 1000000 in
theorem refDigit_any (c : UInt8) (w : World) :
    Calls Tryd.prog 47 #[.int .u8 c.toNat] w fun e w' => e = .returned (.bool (isDig c)) ∧ w = w' := by
  unfold isDig
  generalize (c.toNat : Int) = n
  by_cases h1 : 48 ≤ n
  · by_cases h2 : n ≤ 57
    all_goals
      go_enter Tryd.func47, Tryd.ntmps47
      go_wp2
      go_ret
      exact ⟨ret_b (by simp [h1, h2]), rfl⟩
  · have hd : decide (48 ≤ n) = false := decide_eq_false h1
    go_enter Tryd.func47, Tryd.ntmps47
    go_wp2
    go_ret
    exact ⟨ret_b (by simp [h1]), rfl⟩

set_option maxHeartbeats 1000000 in
theorem refLetter_any (c : UInt8) (w : World) :
    Calls Tryd.prog 46 #[.int .u8 c.toNat] w fun e w' => e = .returned (.bool (isLet c)) ∧ w = w' := by
  unfold isLet
  generalize (c.toNat : Int) = n
  have hc : n < 65 ∨ 65 ≤ n ∧ n ≤ 90 ∨ 90 < n ∧ n < 97 ∨ 97 ≤ n ∧ n ≤ 122 ∨ 122 < n := by omega
  rcases hc with h | ⟨h, h2⟩ | ⟨h, h2⟩ | ⟨h, h2⟩ | h
  all_goals
    go_enter Tryd.func46, Tryd.ntmps46
    go_wp2
    go_ret
    refine ⟨ret_b ?_, rfl⟩
    first
    | rfl
    | (rw [Bool.eq_iff_iff]; simp only [Bool.or_eq_true, Bool.and_eq_true, decide_eq_true_iff]; omega)
    | (rw [Bool.eq_iff_iff]; simp only [Bool.or_eq_true, Bool.and_eq_true, decide_eq_true_iff, Bool.false_eq_true, false_iff]; omega)
    | (rw [Bool.eq_iff_iff]; simp only [Bool.or_eq_true, Bool.and_eq_true, decide_eq_true_iff, true_iff]; omega)

set_option maxHeartbeats 1000000 in
theorem refHex_any (c : UInt8) (w : World) :
    Calls Tryd.prog 77 #[.int .u8 c.toNat] w fun e w' => e = .returned (.int .i64 (hexZ c)) ∧ w = w' := by
  have hD := Lib.hid (fun w => refDigit_any c w)
  have h256 : (c.toNat : Int) < 256 := by have := c.toNat_lt; omega
  have h0 : (0 : Int) ≤ c.toNat := by omega
  have hx : hexZ c = if isDig c then (c.toNat : Int) - 48 else if 65 ≤ (c.toNat : Int) ∧ (c.toNat : Int) ≤ 70 then (c.toNat : Int) - 55 else if 97 ≤ (c.toNat : Int) ∧ (c.toNat : Int) ≤ 102 then (c.toNat : Int) - 87 else -1 := by
    unfold hexZ dval isDig
    rw [← Bool.decide_and, ]
    simp only [decide_eq_true_eq]
    repeat' split
    all_goals omega
  rw [hx]
  clear hx
  have hdig : isDig c = true ∨ isDig c = false := by cases isDig c <;> simp
  unfold isDig at *
  generalize (c.toNat : Int) = n at *
  rcases hdig with hd | hd
  · rw [hd] at hD ⊢
    simp at hd
    obtain ⟨h1, h2⟩ := hd
    go_enter Tryd.func77, Tryd.ntmps77
    go_wp2_with (go_at_call 47; refine (hD.out _).mono ?_; rintro e w' ⟨rfl, rfl⟩)
    go_ret
    exact ⟨rfl, rfl⟩
  · rw [hd] at hD ⊢
    clear hd
    have hc : n < 65 ∨ 65 ≤ n ∧ n ≤ 70 ∨ 70 < n ∧ n < 97 ∨ 97 ≤ n ∧ n ≤ 102 ∨ 102 < n := by omega
    rcases hc with h | ⟨h, h2⟩ | ⟨h, h2⟩ | ⟨h, h2⟩ | h
    all_goals
      first
      | rw [if_neg (by decide), if_pos (by omega)]
      | rw [if_neg (by decide), if_neg (by omega), if_pos (by omega)]
      | rw [if_neg (by decide), if_neg (by omega), if_neg (by omega)]
      go_enter Tryd.func77, Tryd.ntmps77
      go_wp2_with (go_at_call 47; refine (hD.out _).mono ?_; rintro e w' ⟨rfl, rfl⟩)
      go_ret
      exact ⟨rfl, rfl⟩

/-- the digits of a base at a list's begin, so many at most -/
def digsL (base most : Nat) (l : List UInt8) : List UInt8 := (l.takeWhile fun c => decide (dval c < base)).take most

theorem digsL_eq (base most : Nat) (l : List UInt8) : digsL base most l = l.take (min (l.takeWhile fun c => decide (dval c < base)).length most) := by
  unfold digsL
  rw [takeWhile_eq_take, List.take_take, Nat.min_comm]
  congr 2
  rw [← takeWhile_eq_take]

theorem digsL_mem (base most : Nat) (l : List UInt8) : ∀ c ∈ digsL base most l, dval c < base := fun c hc => by
  have := mem_takeWhile_p _ l c (List.mem_of_mem_take hc)
  simpa using this

theorem digsL_len (base most : Nat) (l : List UInt8) : (digsL base most l).length ≤ most := List.length_take_le _ _

theorem takeWhile_take {α : Type} (p : α → Bool) : ∀ (l : List α) (n : Nat), (∀ j (h : j < l.length), j < n → p l[j] = true) → (l.length ≤ n ∨ ∃ h : n < l.length, p l[n] = false) → l.takeWhile p = l.take n
  | [], n, _, _ => by simp
  | a :: l, 0, _, h2 => by
    rcases h2 with h2 | ⟨h, h2⟩
    · simp at h2
    · simp at h2; simp [List.takeWhile_cons, h2]
  | a :: l, n + 1, h1, h2 => by
    have ha := h1 0 (by simp) (by omega)
    simp at ha
    rw [List.takeWhile_cons, ha, List.take_succ_cons]
    simp
    refine takeWhile_take p l n (fun j h hj => h1 (j + 1) (by simpa using h) (by omega)) ?_
    rcases h2 with h2 | ⟨h, h2⟩
    · exact .inl (by simpa using h2)
    · exact .inr ⟨by simpa using h, h2⟩

/-- where the loop ends: n digits, and then none, or enough -/
theorem digsL_take (base most : Nat) (l : List UInt8) (n : Nat) (hn : n ≤ most) (h1 : ∀ j (h : j < l.length), j < n → dval l[j] < base) (h2 : n = most ∨ l.length ≤ n ∨ ∃ h : n < l.length, ¬ dval l[n] < base) : digsL base most l = l.take n := by
  unfold digsL
  rcases h2 with rfl | h2
  · have : ∀ l : List UInt8, (∀ j (h : j < l.length), j < n → dval l[j] < base) → (l.takeWhile fun c => decide (dval c < base)).take n = l.take n := by
      clear h1 hn l
      induction n with
      | zero => intro l _; simp
      | succ n ih =>
        intro l h
        cases l with
        | nil => rfl
        | cons a l =>
          have ha := h 0 (by simp) (by omega)
          simp at ha
          rw [List.takeWhile_cons]
          simp only [ha, decide_true, if_true, List.take_succ_cons]
          rw [ih l fun j hj hjn => h (j + 1) (by simpa using hj) (by omega)]
    exact this l h1
  · rw [takeWhile_take _ l n (fun j h hj => decide_eq_true (h1 j h hj)) ?_, List.take_take, Nat.min_eq_right hn]
    rcases h2 with h2 | ⟨h, h2⟩
    · exact .inl h2
    · exact .inr ⟨h, decide_eq_false h2⟩

theorem endNum {base most n : Nat} {l : List UInt8} {a : Int} (h : digsL base most l = l.take n) (ha : a = (numVal base (l.take n) : Nat)) (hn : n ≤ l.length) :
    Ending.returned (.tuple #[.int .i64 a, .int .i64 n]) = Ending.returned (.tuple #[.int .i64 (numVal base (digsL base most l)), .int .i64 (digsL base most l).length]) := by
  rw [h, List.length_take, Nat.min_eq_left hn, ha]

set_option maxHeartbeats 2000000 in
set_option maxRecDepth 100000 in
theorem refNumber_any (s : ByteArray) (at' : Nat) (base : Nat) (B : Int) (hb : base = 10 ∧ B = 10 ∨ base = 16 ∧ B = 16) (most : Nat) (M : Int) (hM : M = most) (hm : most ≤ 7) (w : World) (hs : s.size ≤ 140737488351232) (hat : at' ≤ s.size) :
    Calls Tryd.prog 44 #[.string s, .int .i64 at', .int .i64 B, .int .i64 M] w fun e w' => e = .returned (.tuple #[.int .i64 (numVal base (digsL base most (s.data.toList.drop at'))), .int .i64 (digsL base most (s.data.toList.drop at')).length]) ∧ w = w' := by
  have hB : (10 : Int) ≤ B ∧ B ≤ 16 ∧ B = base := by omega
  obtain ⟨hB1, hB2, hB3⟩ := hB
  have HB := Lib.hid hB3
  have HM := Lib.hid hM
  have hM7 : M ≤ 7 := by omega
  clear hB3 hM hb
  have hX := Lib.hid (fun c w => refHex_any c w)
  generalize hl : s.data.toList.drop at' = l
  have hll : l.length = s.size - at' := by rw [← hl]; simp
  have hlg : ∀ j (h : j < l.length) (h2 : at' + j < s.size), l[j] = s[at' + j]'h2 := by
    intro j h h2
    subst hl
    rw [List.getElem_drop]
    rfl
  have HLG := Lib.hid hlg
  have HLL := Lib.hid hll
  clear hlg hl hll
  go_enter Tryd.func44, Tryd.ntmps44
  go_wp2
  go_loopw [10, 11] (fun vv vn wr => ∃ (n : Nat) (a : Int), vv = .int .i64 a ∧ vn = .int .i64 n ∧ n ≤ most ∧ n ≤ l.length ∧ 0 ≤ a ∧ a < 268435456 ∧ Hid (a = (numVal base (l.take n) : Nat)) ∧ Hid (∀ j (h : j < l.length), j < n → dval l[j] < base) ∧ wr = w) (fun _ vn _ => most - (intOf vn).toNat)
  case atStart => exact ⟨0, 0, rfl, rfl, by omega, by omega, by omega, by omega, rfl, fun j h hj => by omega, rfl⟩
  case round =>
    obtain ⟨n, a, rfl, rfl, hn, hnl, h0, h1, HA, HD, rfl⟩ := hrel
    by_cases hnm : n < most
    · by_cases hlt : n < l.length
      · have hi : at' + n < s.size := by have := HLL.out; omega
        have hg := HLG.out n hlt hi
        have hnv : numVal base (l.take (n + 1)) = numVal base (l.take n) * base + dval (s[at' + n]'hi) := by
          rw [List.take_succ_eq_append_getElem hlt, numVal_snoc, hg]
        have HG := Lib.hid hg
        have HNV := Lib.hid hnv
        have hM1 : (n : Int) < M := by have := HM.out; omega
        have hh := Lib.hid (fun w => hX.out (s[at' + n]'hi) w)
        have hz : hexZ (s[at' + n]'hi) = if dval (s[at' + n]'hi) < 16 then (dval (s[at' + n]'hi) : Int) else -1 := rfl
        have h99 : dval (s[at' + n]'hi) ≤ 99 := by unfold dval; repeat' split
                                                   all_goals omega
        clear hg hnv
        by_cases hdb : dval (s[at' + n]'hi) < base
        · have hb16 : dval (s[at' + n]'hi) < 16 := by have := HB.out; omega
          rw [if_pos hb16] at hz
          have hzB : hexZ (s[at' + n]'hi) < B := by rw [hz]; have := HB.out; omega
          have hz0 : 0 ≤ hexZ (s[at' + n]'hi) := by rw [hz]; omega
          have hlim : a * B + hexZ (s[at' + n]'hi) = (numVal base (l.take (n + 1)) : Nat) := by
            rw [HNV.out, hz, HA.out, HB.out]; simp
          have hlt2 : numVal base (l.take (n + 1)) < 268435456 := by
            refine numVal_le base _ (by have := HB.out; omega) (by rw [List.length_take]; omega) ?_
            intro c hc
            obtain ⟨j, hj, rfl⟩ := List.getElem_of_mem hc
            rw [List.length_take] at hj
            rw [List.getElem_take]
            by_cases hjn : j < n
            · exact HD.out j (by omega) hjn
            · have : j = n := by omega
              subst this
              rw [HG.out]; exact hdb
          have hmul : 0 ≤ a * B := Int.mul_nonneg h0 (by omega)
          have hmul2 : a * B ≤ 268435456 := by omega
          have hup : a * B + hexZ (s[at' + n]'hi) < 268435456 := by omega
          have HLIM := Lib.hid hlim
          have HDB := Lib.hid hdb
          clear hz hb16 h99 hlim hlt2 hdb
          generalize hexZ (s[at' + n]'hi) = z at *
          go_wp2_with (go_at_call 77; refine (hh.out _).mono ?_; rintro e w' ⟨rfl, rfl⟩)
          refine ⟨⟨n + 1, _, rfl, by go_num, by omega, by omega, by omega, hup, HLIM, ?_, by first | rfl | trivial⟩, by simp [intOf]; omega⟩
          intro j hj hjn
          by_cases hjn2 : j < n
          · exact HD.out j hj hjn2
          · have : j = n := by omega
            subst this
            rw [HG.out]; exact HDB.out
        · have hdone : digsL base most l = l.take n := digsL_take base most l n hn HD.out (.inr (.inr ⟨hlt, by rw [HG.out]; exact hdb⟩))
          have HE := Lib.hid (endNum hdone HA.out hnl)
          clear hdone
          have hzc : hexZ (s[at' + n]'hi) < 0 ∨ B ≤ hexZ (s[at' + n]'hi) ∧ 0 ≤ hexZ (s[at' + n]'hi) := by
            rw [hz]; have := HB.out; split <;> omega
          clear hz
          generalize hexZ (s[at' + n]'hi) = z at *
          rcases hzc with hzc | ⟨hzc, hzc2⟩
          all_goals
            go_wp2_with (go_at_call 77; refine (hh.out _).mono ?_; rintro e w' ⟨rfl, rfl⟩)
            go_ret2
            exact ⟨HE.out, rfl⟩
      · have hdone : digsL base most l = l.take n := digsL_take base most l n hn HD.out (.inr (.inl (by omega)))
        have hM1 : (n : Int) < M := by have := HM.out; omega
        have hge : (s.size : Int) ≤ at' + n := by have := HLL.out; omega
        have HE := Lib.hid (endNum hdone HA.out hnl)
        clear hdone
        go_wp2
        go_ret2
        exact ⟨HE.out, rfl⟩
    · have hdone : digsL base most l = l.take n := digsL_take base most l n hn HD.out (.inl (by omega))
      have hM1 : M ≤ (n : Int) := by have := HM.out; omega
      have hd : decide ((n : Int) < M) = false := decide_eq_false (by omega)
      have HE := Lib.hid (endNum hdone HA.out hnl)
      clear hdone
      go_wp2
      go_ret2
      exact ⟨HE.out, rfl⟩
end Go.Proofs.YtghiboknhjnlkaaDoor
