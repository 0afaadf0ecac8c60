/- What stands ahead of a wrong byte of a JSON text: cut there, the text ends too early, or is whole. No program. -/
import Derived.Test.YtghiboknhjnlkaaDoorJsonP
set_option linter.unusedVariables false
set_option linter.unusedSimpArgs false
set_option linter.unnecessarySimpa false
namespace Go.Proofs.YtghiboknhjnlkaaDoor
open Go.Lib (decodeL encodeRune)

theorem tw_take {α : Type} (f : α → Bool) : ∀ (l : List α) (k : Nat), ((l.take k).takeWhile f).length = min k (l.takeWhile f).length
  | [], k => by simp
  | a :: l, 0 => by simp
  | a :: l, k + 1 => by
    rw [List.take_succ_cons, List.takeWhile_cons, List.takeWhile_cons]
    split
    · rw [List.length_cons, List.length_cons, tw_take f l k]; omega
    · simp

theorem tw_len {α : Type} (f : α → Bool) (l : List α) : (l.takeWhile f).length ≤ l.length := (List.takeWhile_sublist f).length_le

variable {s : List UInt8} {e p q : Nat}

theorem at_lt (h : p < e) : (s.take e)[p]? = s[p]? := by rw [List.getElem?_take, if_pos h]
theorem at_ge (h : e ≤ p) : (s.take e)[p]? = none := by rw [List.getElem?_take, if_neg (by omega)]
theorem at_len {c : UInt8} (h : s[p]? = some c) : p < s.length := (List.getElem?_eq_some_iff.1 h).1

theorem blank_ge (s : List UInt8) (p : Nat) : p ≤ jBlank s p := by unfold jBlank; omega
theorem blank_len (h : p ≤ s.length) : jBlank s p ≤ s.length := by
  unfold jBlank
  have := tw_len isBl (s.drop p)
  rw [List.length_drop] at this
  omega
theorem blank_cut (h : p ≤ e) : jBlank (s.take e) p = min e (jBlank s p) := by
  unfold jBlank
  rw [List.drop_take, tw_take]
  omega

theorem digs_ok (h : jDigs s p = .ok q) : p < q ∧ (p ≤ s.length → q ≤ s.length) := by
  unfold jDigs at h
  have := tw_len isDg (s.drop p)
  rw [List.length_drop] at this
  split at h
  · cases h
  · injection h with h; omega
theorem digs_er (h : jDigs s p = .error q) : q = p := by
  unfold jDigs at h
  split at h
  · injection h with h; omega
  · cases h
theorem digs_cut_ok (hp : p ≤ e) (h : jDigs s p = .ok q) (hq : q ≤ e) : jDigs (s.take e) p = .ok q := by
  unfold jDigs at h ⊢
  rw [List.drop_take, tw_take]
  split at h
  · cases h
  · injection h with h
    rw [if_neg (by omega), show min (e - p) ((s.drop p).takeWhile isDg).length = ((s.drop p).takeWhile isDg).length by omega, h]
theorem digs_cut_er (h : jDigs s p = .error q) : jDigs (s.take e) p = .error q := by
  unfold jDigs at h ⊢
  rw [List.drop_take, tw_take]
  split at h
  · rw [if_pos (by omega), h]
  · cases h

theorem hasl_lt {set : List UInt8} (h : jHas s p set = true) : p < s.length := by
  unfold jHas at h
  cases e : s[p]? with
  | none => rw [e] at h; cases h
  | some c => exact at_len e
theorem has_cut {set : List UInt8} (h : p < e) : jHas (s.take e) p set = jHas s p set := by unfold jHas; rw [at_lt h]
theorem has_end {set : List UInt8} (h : e ≤ p) : jHas (s.take e) p set = false := by unfold jHas; rw [at_ge h]; rfl

theorem num0_ok (h : jNum0 s p = .ok q) : p < q ∧ (p ≤ s.length → q ≤ s.length) := by
  unfold jNum0 at h
  split at h
  · rename_i h1; have := hasl_lt h1; injection h with h; omega
  · exact digs_ok h
theorem num0_er (h : jNum0 s p = .error q) : q = p := by
  unfold jNum0 at h
  split at h
  · cases h
  · exact digs_er h
theorem num0_cut_ok (hp : p ≤ e) (h : jNum0 s p = .ok q) (hq : q ≤ e) : jNum0 (s.take e) p = .ok q := by
  have hl := (num0_ok h).1
  unfold jNum0 at h ⊢
  rw [has_cut (by omega)]
  split at h
  · rename_i h1; rw [if_pos h1]; exact h
  · rename_i h1; rw [if_neg h1]; exact digs_cut_ok hp h hq
theorem num0_cut_er (h : jNum0 s p = .error e) : jNum0 (s.take e) p = .error e := by
  obtain rfl := num0_er h
  unfold jNum0 at h ⊢
  rw [has_end (Nat.le_refl _), if_neg (by simp)]
  split at h
  · cases h
  · exact digs_cut_er h

theorem num1_ok (h : jNum1 s p = .ok q) : p ≤ q ∧ (p ≤ s.length → q ≤ s.length) := by
  unfold jNum1 at h
  split at h
  · rename_i h1; have := hasl_lt h1; have := digs_ok h; omega
  · injection h with h; omega
theorem num1_er (h : jNum1 s p = .error q) : q = p + 1 ∧ p < s.length := by
  unfold jNum1 at h
  split at h
  · rename_i h1; exact ⟨digs_er h, hasl_lt h1⟩
  · cases h
theorem num1_cut_ok (hp : p ≤ e) (h : jNum1 s p = .ok q) (hq : q ≤ e) : jNum1 (s.take e) p = .ok q := by
  unfold jNum1 at h ⊢
  split at h
  · rename_i h1
    have := digs_ok h
    rw [has_cut (by omega), if_pos h1]
    exact digs_cut_ok (by omega) h hq
  · rename_i h1
    rw [if_neg (by
      rcases Nat.lt_or_ge p e with h2 | h2
      · rw [has_cut h2]; exact h1
      · rw [has_end h2]; simp)]
    exact h
theorem num1_cut_er (h : jNum1 s p = .error e) : jNum1 (s.take e) p = .error e := by
  have h2 := num1_er h
  unfold jNum1 at h ⊢
  rw [has_cut (by omega)]
  split at h
  · rename_i h1; rw [if_pos h1]; exact digs_cut_er h
  · cases h

theorem num2_ok (h : jNum2 s p = .ok q) : p ≤ q ∧ (p ≤ s.length → q ≤ s.length) := by
  unfold jNum2 at h
  split at h
  · rename_i h1
    have h2 := hasl_lt h1
    have h3 := digs_ok h
    split at h3
    · rename_i h4; have := hasl_lt h4; omega
    · omega
  · injection h with h; omega
theorem num2_er (h : jNum2 s p = .error q) : p < q ∧ q ≤ s.length := by
  unfold jNum2 at h
  split at h
  · rename_i h1
    have h2 := hasl_lt h1
    have h3 := digs_er h
    split at h3
    · rename_i h4; have := hasl_lt h4; omega
    · omega
  · cases h
theorem num2_cut_ok (hp : p ≤ e) (h : jNum2 s p = .ok q) (hq : q ≤ e) : jNum2 (s.take e) p = .ok q := by
  unfold jNum2 at h ⊢
  split at h
  · rename_i h1
    have h3 := digs_ok h
    have h4 : p + 1 < e := by split at h3 <;> omega
    rw [has_cut (by omega), has_cut h4, if_pos h1]
    exact digs_cut_ok (by omega) h hq
  · rename_i h1
    rw [if_neg (by
      rcases Nat.lt_or_ge p e with h2 | h2
      · rw [has_cut h2]; exact h1
      · rw [has_end h2]; simp)]
    exact h
theorem num2_cut_er (h : jNum2 s p = .error e) : jNum2 (s.take e) p = .error e := by
  unfold jNum2 at h ⊢
  split at h
  · rename_i h1
    have h3 := digs_er h
    rw [has_cut (by split at h3 <;> omega), if_pos h1]
    split at h3
    · rename_i h4
      rw [has_cut (by omega), if_pos h4, ← h3]
      rw [if_pos h4, ← h3] at h
      exact digs_cut_er h
    · rename_i h4
      rw [has_end (by omega), if_neg (by simp), ← h3]
      rw [if_neg h4, ← h3] at h
      exact digs_cut_er h
  · cases h

theorem sgn_le (s : List UInt8) (p : Nat) : p ≤ (if jHas s p [45] = true then p + 1 else p) ∧ (p ≤ s.length → (if jHas s p [45] = true then p + 1 else p) ≤ s.length) := by
  split
  · rename_i h; have := hasl_lt h; omega
  · omega

theorem num_ok (h : jNum s p = .ok q) : p < q ∧ (p ≤ s.length → q ≤ s.length) := by
  unfold jNum at h
  have h0 := sgn_le s p
  generalize (if jHas s p [45] = true then p + 1 else p) = p1 at *
  cases e0 : jNum0 s p1 with
  | error x => rw [e0] at h; cases h
  | ok p2 =>
    rw [e0] at h
    have h1 := num0_ok e0
    simp only at h
    cases e1 : jNum1 s p2 with
    | error x => rw [e1] at h; cases h
    | ok p3 =>
      rw [e1] at h
      have h2 := num1_ok e1
      have h3 := num2_ok h
      omega
theorem num_er (h : jNum s p = .error q) : p ≤ q ∧ (p ≤ s.length → q ≤ s.length) := by
  unfold jNum at h
  have h0 := sgn_le s p
  generalize (if jHas s p [45] = true then p + 1 else p) = p1 at *
  cases e0 : jNum0 s p1 with
  | error x => rw [e0] at h; injection h with h; have := num0_er e0; omega
  | ok p2 =>
    rw [e0] at h
    have h1 := num0_ok e0
    simp only at h
    cases e1 : jNum1 s p2 with
    | error x => rw [e1] at h; injection h with h; have := num1_er e1; omega
    | ok p3 =>
      rw [e1] at h
      have h2 := num1_ok e1
      have h3 := num2_er h
      omega

theorem sgn_cut (h : (if jHas s p [45] = true then p + 1 else p) ≤ e) : (if jHas (s.take e) p [45] = true then p + 1 else p) = (if jHas s p [45] = true then p + 1 else p) := by
  rcases Nat.lt_or_ge p e with h2 | h2
  · rw [has_cut h2]
  · rw [has_end h2, if_neg (by simp)]
    split at h
    · omega
    · rename_i h3; rw [if_neg h3]

theorem num_cut_ok (hp : p ≤ e) (h : jNum s p = .ok q) (hq : q ≤ e) : jNum (s.take e) p = .ok q := by
  unfold jNum at h ⊢
  have h0 := sgn_le s p
  have hs := sgn_cut (s := s) (e := e) (p := p)
  generalize (if jHas s p [45] = true then p + 1 else p) = p1 at *
  cases e0 : jNum0 s p1 with
  | error x => rw [e0] at h; cases h
  | ok p2 =>
    rw [e0] at h
    have h1 := num0_ok e0
    simp only at h
    cases e1 : jNum1 s p2 with
    | error x => rw [e1] at h; cases h
    | ok p3 =>
      rw [e1] at h
      have h2 := num1_ok e1
      have h3 := num2_ok h
      rw [hs (by omega), num0_cut_ok (by omega) e0 (by omega)]
      simp only
      rw [num1_cut_ok (by omega) e1 (by omega)]
      exact num2_cut_ok (by omega) h hq
theorem num_cut_er (hp : p ≤ e) (h : jNum s p = .error e) : jNum (s.take e) p = .error e := by
  unfold jNum at h ⊢
  have h0 := sgn_le s p
  have hs := sgn_cut (s := s) (e := e) (p := p)
  generalize (if jHas s p [45] = true then p + 1 else p) = p1 at *
  cases e0 : jNum0 s p1 with
  | error x =>
    rw [e0] at h
    injection h with h
    subst h
    have := num0_er e0
    rw [hs (by omega), num0_cut_er e0]
  | ok p2 =>
    rw [e0] at h
    have h1 := num0_ok e0
    simp only at h
    cases e1 : jNum1 s p2 with
    | error x =>
      rw [e1] at h
      injection h with h
      subst h
      have := num1_er e1
      rw [hs (by omega), num0_cut_ok (by omega) e0 (by omega)]
      simp only
      rw [num1_cut_er e1]
    | ok p3 =>
      rw [e1] at h
      have h2 := num1_ok e1
      have h3 := num2_er h
      rw [hs (by omega), num0_cut_ok (by omega) e0 (by omega)]
      simp only
      rw [num1_cut_ok (by omega) e1 (by omega)]
      exact num2_cut_er h
theorem num_end (h : s[p]? = none) : jNum s p = .error p := by
  have h1 : ∀ set, jHas s p set = false := fun set => by unfold jHas; rw [h]; rfl
  have h2 : s.drop p = [] := List.drop_eq_nil_of_le (by simpa using List.getElem?_eq_none_iff.1 h)
  have h3 : jDigs s p = .error p := by unfold jDigs; rw [h2]; rfl
  unfold jNum jNum0
  simp only [h1, h3, Bool.false_eq_true, if_false]

theorem word_ok : ∀ (w : List UInt8) {p : Nat}, jWord s p w = .ok q → q = p + w.length ∧ (p ≤ s.length → q ≤ s.length)
  | [], p, h => by injection h with h; simp; omega
  | c :: w, p, h => by
    unfold jWord at h
    split at h
    · rename_i h1
      have := at_len h1
      have := word_ok w h
      simp
      omega
    · cases h
theorem word_er : ∀ (w : List UInt8) {p : Nat}, jWord s p w = .error q → p ≤ q ∧ (p ≤ s.length → q ≤ s.length)
  | [], p, h => by cases h
  | c :: w, p, h => by
    unfold jWord at h
    split at h
    · rename_i h1
      have := at_len h1
      have := word_er w h
      omega
    · injection h with h; omega
theorem word_cut_ok : ∀ (w : List UInt8) {p : Nat}, jWord s p w = .ok q → q ≤ e → jWord (s.take e) p w = .ok q
  | [], p, h, _ => h
  | c :: w, p, h, hq => by
    have hl := (word_ok _ h).1
    simp only [List.length_cons] at hl
    unfold jWord at h ⊢
    rw [at_lt (by omega)]
    split at h
    · rename_i h1; rw [if_pos h1]; exact word_cut_ok w h hq
    · cases h
theorem word_cut_er : ∀ (w : List UInt8) {p : Nat}, jWord s p w = .error e → jWord (s.take e) p w = .error e
  | [], p, h => by cases h
  | c :: w, p, h => by
    unfold jWord at h ⊢
    split at h
    · rename_i h1
      have := word_er w h
      rw [at_lt (by omega), if_pos h1]
      exact word_cut_er w h
    · injection h with h
      rw [at_ge (by omega), if_neg (by simp), h]

theorem hex_ok : ∀ (n : Nat) {p v r : Nat}, jHex s n p v = .ok r → (p ≤ s.length → p + n ≤ s.length)
  | 0, p, v, r, h => by omega
  | n + 1, p, v, r, h => by
    unfold jHex at h
    split at h
    · cases h
    · rename_i c hc
      have := at_len hc
      split at h
      · have := hex_ok n h; omega
      · cases h
theorem hex_er : ∀ (n : Nat) {p v : Nat}, jHex s n p v = .error q → p ≤ q ∧ (p ≤ s.length → q ≤ s.length)
  | 0, p, v, h => by cases h
  | n + 1, p, v, h => by
    unfold jHex at h
    split at h
    · injection h with h; omega
    · rename_i c hc
      have := at_len hc
      split at h
      · have := hex_er n h; omega
      · injection h with h; omega
theorem hex_cut_ok : ∀ (n : Nat) {p v r : Nat}, jHex s n p v = .ok r → p + n ≤ e → jHex (s.take e) n p v = .ok r
  | 0, p, v, r, h, _ => h
  | n + 1, p, v, r, h, hq => by
    unfold jHex at h ⊢
    rw [at_lt (by omega)]
    cases e0 : s[p]? with
    | none => rw [e0] at h; cases h
    | some c =>
      rw [e0] at h
      simp only at h ⊢
      split at h
      · rename_i h1; rw [if_pos h1]; exact hex_cut_ok n h (by omega)
      · cases h
theorem hex_cut_er : ∀ (n : Nat) {p v : Nat}, jHex s n p v = .error e → jHex (s.take e) n p v = .error e
  | 0, p, v, h => by cases h
  | n + 1, p, v, h => by
    have h0 := (hex_er _ h).1
    unfold jHex at h ⊢
    rcases Nat.lt_or_ge p e with h2 | h2
    · rw [at_lt h2]
      cases e0 : s[p]? with
      | none => rw [e0] at h; exact h
      | some c =>
        rw [e0] at h
        simp only at h ⊢
        split at h
        · rename_i h1; rw [if_pos h1]; exact hex_cut_er n h
        · rename_i h1; rw [if_neg h1]; exact h
    · rw [at_ge h2, show p = e by omega]

theorem esc2_ok {v r : Nat} (h : jEsc2 s p v = .ok (r, q)) : q = p + 6 ∧ (p ≤ s.length → q ≤ s.length) := by
  unfold jEsc2 at h
  cases e0 : jWord s p [92, 117] with
  | error x => rw [e0] at h; cases h
  | ok y =>
    rw [e0] at h
    have h0 := word_ok _ e0
    simp only [List.length_cons, List.length_nil] at h h0
    cases e1 : jFour s (p + 2) with
    | error x => rw [e1] at h; cases h
    | ok d =>
      rw [e1] at h
      have h1 := hex_ok 4 e1
      simp only at h
      split at h
      · cases h
      · injection h with h; injection h with h h'; omega
theorem esc2_er {v : Nat} (h : jEsc2 s p v = .error q) : p ≤ q ∧ (p ≤ s.length → q ≤ s.length) := by
  unfold jEsc2 at h
  cases e0 : jWord s p [92, 117] with
  | error x => rw [e0] at h; injection h with h; have := word_er _ e0; omega
  | ok y =>
    rw [e0] at h
    have h0 := word_ok _ e0
    simp only [List.length_cons, List.length_nil] at h h0
    cases e1 : jFour s (p + 2) with
    | error x => rw [e1] at h; injection h with h; have := hex_er 4 e1; omega
    | ok d =>
      rw [e1] at h
      simp only at h
      split at h
      · injection h with h; omega
      · cases h
theorem esc2_cut_ok {v r : Nat} (h : jEsc2 s p v = .ok (r, q)) (hq : q ≤ e) : jEsc2 (s.take e) p v = .ok (r, q) := by
  have hl := (esc2_ok h).1
  unfold jEsc2 at h ⊢
  cases e0 : jWord s p [92, 117] with
  | error x => rw [e0] at h; cases h
  | ok y =>
    rw [e0] at h
    have h0 := word_ok _ e0
    simp only [List.length_cons, List.length_nil] at h h0
    cases e1 : jFour s (p + 2) with
    | error x => rw [e1] at h; cases h
    | ok d =>
      rw [e1] at h
      rw [word_cut_ok _ e0 (by omega)]
      have e2 : jFour (s.take e) (p + 2) = .ok d := hex_cut_ok 4 e1 (by omega)
      simp only [e2]
      exact h
theorem esc2_cut_er {v : Nat} (h : jEsc2 s p v = .error e) : jEsc2 (s.take e) p v = .error e := by
  unfold jEsc2 at h ⊢
  cases e0 : jWord s p [92, 117] with
  | error x =>
    rw [e0] at h
    injection h with h
    subst h
    rw [word_cut_er _ e0]
  | ok y =>
    rw [e0] at h
    have h0 := word_ok _ e0
    simp only [List.length_cons, List.length_nil] at h h0
    cases e1 : jFour s (p + 2) with
    | error x =>
      rw [e1] at h
      injection h with h
      subst h
      have := hex_er 4 e1
      rw [word_cut_ok _ e0 (by omega)]
      have e2 : jFour (s.take x) (p + 2) = .error x := hex_cut_er 4 e1
      simp only [e2]
    | ok d =>
      rw [e1] at h
      simp only at h
      split at h
      · injection h with h
        subst h
        have e2 : jWord (s.take p) p [92, 117] = .error p := by unfold jWord; rw [at_ge (Nat.le_refl _), if_neg (by simp)]
        rw [e2]
      · cases h

theorem esc_ok {r : Nat} (h : jEsc s p = .ok (r, q)) : p + 1 < q ∧ q ≤ s.length := by
  unfold jEsc at h
  cases e0 : s[p + 1]? with
  | none => rw [e0] at h; cases h
  | some c =>
    rw [e0] at h
    have h0 := at_len e0
    simp only at h
    split at h
    · injection h with h; injection h with h h'; omega
    · split at h
      · cases h
      · cases e1 : jFour s (p + 2) with
        | error x => rw [e1] at h; cases h
        | ok v =>
          rw [e1] at h
          have h1 := hex_ok 4 e1
          simp only at h
          split at h
          · injection h with h; injection h with h h'; omega
          · split at h
            · cases h
            · have := esc2_ok h; omega
theorem esc_er (h : jEsc s p = .error q) : p ≤ q ∧ (p < s.length → q ≤ s.length) := by
  unfold jEsc at h
  cases e0 : s[p + 1]? with
  | none => rw [e0] at h; injection h with h; omega
  | some c =>
    rw [e0] at h
    have h0 := at_len e0
    simp only at h
    split at h
    · cases h
    · split at h
      · injection h with h; omega
      · cases e1 : jFour s (p + 2) with
        | error x => rw [e1] at h; injection h with h; have := hex_er 4 e1; omega
        | ok v =>
          rw [e1] at h
          have h1 := hex_ok 4 e1
          simp only at h
          split at h
          · cases h
          · split at h
            · injection h with h; omega
            · have := esc2_er h; omega
theorem esc_cut_ok {r : Nat} (h : jEsc s p = .ok (r, q)) (hq : q ≤ e) : jEsc (s.take e) p = .ok (r, q) := by
  have hl := (esc_ok h).1
  unfold jEsc at h ⊢
  rw [at_lt (by omega)]
  cases e0 : s[p + 1]? with
  | none => rw [e0] at h; cases h
  | some c =>
    rw [e0] at h
    simp only at h ⊢
    split at h
    · rename_i h1; rw [if_pos h1]; exact h
    · rename_i h1
      rw [if_neg h1]
      split at h
      · cases h
      · rename_i h2
        rw [if_neg h2]
        cases e1 : jFour s (p + 2) with
        | error x => rw [e1] at h; cases h
        | ok v =>
          rw [e1] at h
          simp only at h
          have hx : p + 6 ≤ e := by
            split at h
            · injection h with h; injection h with h h'; omega
            · split at h
              · cases h
              · have := esc2_ok h; omega
          have e2 : jFour (s.take e) (p + 2) = .ok v := hex_cut_ok 4 e1 (by omega)
          simp only [e2]
          split at h
          · rename_i h3; rw [if_pos h3]; exact h
          · rename_i h3
            rw [if_neg h3]
            split at h
            · cases h
            · rename_i h4; rw [if_neg h4]; exact esc2_cut_ok h hq
theorem esc_cut_er (hp : p < e) (h : jEsc s p = .error e) : jEsc (s.take e) p = .error e := by
  unfold jEsc at h ⊢
  rcases Nat.lt_or_ge (p + 1) e with h2 | h2
  · rw [at_lt h2]
    cases e0 : s[p + 1]? with
    | none => rw [e0] at h; exact h
    | some c =>
      rw [e0] at h
      simp only at h ⊢
      split at h
      · cases h
      · rename_i h1
        rw [if_neg h1]
        split at h
        · injection h with h; omega
        · rename_i h2
          rw [if_neg h2]
          cases e1 : jFour s (p + 2) with
          | error x =>
            rw [e1] at h
            injection h with h
            subst h
            have e2 : jFour (s.take x) (p + 2) = .error x := hex_cut_er 4 e1
            simp only [e2]
          | ok v =>
            rw [e1] at h
            simp only at h
            split at h
            · cases h
            · rename_i h3
              split at h
              · injection h with h; omega
              · rename_i h4
                have := esc2_er h
                have e2 : jFour (s.take e) (p + 2) = .ok v := hex_cut_ok 4 e1 (by omega)
                simp only [e2]
                rw [if_neg h3, if_neg h4]
                exact esc2_cut_er h
  · rw [at_ge h2, show p + 1 = e by omega]

theorem dec_take (l : List UInt8) (h0 : l ≠ []) (hv : ¬ ((decodeL l).1 = 65533 ∧ (decodeL l).2 = 1)) (k : Nat) (hk : (decodeL l).2 ≤ k) : decodeL (l.take k) = decodeL l := by
  have h1 := Lib.encode_decode l h0 hv
  have h2 : l.take k = l.take (decodeL l).2 ++ (l.take k).drop (decodeL l).2 := by
    conv => lhs; rw [← List.take_append_drop (decodeL l).2 (l.take k)]
    rw [List.take_take, Nat.min_eq_left hk]
  have h3 := congrArg List.length h1
  rw [List.length_take, Nat.min_eq_left (Lib.decodeL_le l h0)] at h3
  rw [h2, ← h1, decode_encode _ (decode_sc l), h3]

theorem str_mo : ∀ (n p : Nat) (acc : List UInt8), p ≤ s.length →
    (∀ l q, jStr s n p acc = .ok (l, q) → p < q ∧ q ≤ s.length) ∧ (∀ q, jStr s n p acc = .error q → p ≤ q ∧ q ≤ s.length)
  | 0, p, acc, hp => ⟨fun l q h => (by cases h), fun q h => (by injection h with h; omega)⟩
  | n + 1, p, acc, hp => by
    unfold jStr
    cases e0 : s[p]? with
    | none => exact ⟨fun l q h => (by cases h), fun q h => (by injection h with h; omega)⟩
    | some c =>
      have h0 := at_len e0
      simp only
      split
      · exact ⟨fun l q h => (by injection h with h; injection h with h h'; omega), fun q h => (by cases h)⟩
      · split
        · exact ⟨fun l q h => (by cases h), fun q h => (by injection h with h; omega)⟩
        · split
          · cases e1 : jEsc s p with
            | error x => exact ⟨fun l q h => (by cases h), fun q h => (by injection h with h; have := esc_er e1; omega)⟩
            | ok rq =>
              obtain ⟨r, q1⟩ := rq
              have h1 := esc_ok e1
              have h2 := str_mo n q1 (acc ++ encodeRune r) h1.2
              exact ⟨fun l q h => (by have := h2.1 l q h; omega), fun q h => (by have := h2.2 q h; omega)⟩
          · split
            · exact ⟨fun l q h => (by cases h), fun q h => (by injection h with h; omega)⟩
            · have h1 := Lib.decodeL_width (s.drop p)
              have h2 := Lib.decodeL_le (s.drop p) (by intro e; have := congrArg List.length e; simp at this; omega)
              rw [List.length_drop] at h2
              have h3 := str_mo n (p + (decodeL (s.drop p)).2) (acc ++ (s.drop p).take (decodeL (s.drop p)).2) (by omega)
              exact ⟨fun l q h => (by have := h3.1 l q h; omega), fun q h => (by have := h3.2 q h; omega)⟩

theorem str_cut (he : e ≤ s.length) : ∀ (n m p : Nat) (acc : List UInt8), s.length ≤ n + p → e ≤ m + p → p ≤ e →
    (∀ l q, jStr s n p acc = .ok (l, q) → q ≤ e → jStr (s.take e) m p acc = .ok (l, q)) ∧ (jStr s n p acc = .error e → jStr (s.take e) m p acc = .error e)
  | 0, m, p, acc, hn, hm, hp => by
    refine ⟨fun l q h => (by cases h), fun h => ?_⟩
    injection h with h
    subst h
    cases m with
    | zero => rfl
    | succ m => unfold jStr; rw [at_ge (Nat.le_refl _)]
  | n + 1, m, p, acc, hn, hm, hp => by
    have hmo := str_mo (s := s) (n + 1) p acc (by omega)
    rcases Nat.lt_or_ge p e with h2 | h2
    · obtain ⟨m, rfl⟩ : ∃ k, m = k + 1 := ⟨m - 1, by omega⟩
      unfold jStr
      rw [at_lt h2]
      cases e0 : s[p]? with
      | none => exact ⟨fun l q h => (by cases h), fun h => h⟩
      | some c =>
        simp only
        split
        · exact ⟨fun l q h _ => h, fun h => (by cases h)⟩
        · split
          · exact ⟨fun l q h _ => h, fun h => h⟩
          · split
            · cases e1 : jEsc s p with
              | error x =>
                refine ⟨fun l q h => (by cases h), fun h => ?_⟩
                injection h with h
                subst h
                rw [esc_cut_er h2 e1]
              | ok rq =>
                obtain ⟨r, q1⟩ := rq
                have h1 := esc_ok e1
                have h3 := str_mo (s := s) n q1 (acc ++ encodeRune r) h1.2
                simp only
                refine ⟨fun l q h hq => ?_, fun h => ?_⟩
                · have := h3.1 l q h
                  rw [esc_cut_ok e1 (by omega)]
                  exact (str_cut he n m q1 _ (by omega) (by omega) (by omega)).1 l q h hq
                · have := h3.2 e h
                  rw [esc_cut_ok e1 (by omega)]
                  exact (str_cut he n m q1 _ (by omega) (by omega) (by omega)).2 h
            · have hne : s.drop p ≠ [] := by intro e; have := congrArg List.length e; simp at this; omega
              split
              · refine ⟨fun l q h => (by cases h), fun h => ?_⟩
                injection h with h
                omega
              · rename_i hv
                have h1 := Lib.decodeL_width (s.drop p)
                have h3 := Lib.decodeL_le (s.drop p) hne
                rw [List.length_drop] at h3
                have h4 := str_mo (s := s) n (p + (decodeL (s.drop p)).2) (acc ++ (s.drop p).take (decodeL (s.drop p)).2) (by omega)
                have go : (decodeL (s.drop p)).2 ≤ e - p → decodeL ((s.take e).drop p) = decodeL (s.drop p) ∧ ((s.take e).drop p).take (decodeL (s.drop p)).2 = (s.drop p).take (decodeL (s.drop p)).2 := by
                  intro h
                  rw [List.drop_take, dec_take _ hne hv _ h, List.take_take, Nat.min_eq_left h]
                  exact ⟨rfl, rfl⟩
                refine ⟨fun l q h hq => ?_, fun h => ?_⟩
                · have := h4.1 l q h
                  obtain ⟨g1, g2⟩ := go (by omega)
                  rw [g1, if_neg hv, g2]
                  exact (str_cut he n m _ _ (by omega) (by omega) (by omega)).1 l q h hq
                · have := h4.2 e h
                  obtain ⟨g1, g2⟩ := go (by omega)
                  rw [g1, if_neg hv, g2]
                  exact (str_cut he n m _ _ (by omega) (by omega) (by omega)).2 h
    · obtain rfl : p = e := by omega
      refine ⟨fun l q h hq => (by have := hmo.1 l q h; omega), fun h => ?_⟩
      cases m with
      | zero => rfl
      | succ m => unfold jStr; rw [at_ge (Nat.le_refl _)]

theorem txt_ok {l : List UInt8} (h : jText s p = .ok (l, q)) : p + 1 < q ∧ q ≤ s.length := by
  unfold jText at h
  split at h
  · rename_i h1
    exact (str_mo s.length (p + 1) [] (at_len h1)).1 l q h
  · cases h
theorem txt_er (h : jText s p = .error q) : p ≤ q ∧ (p ≤ s.length → q ≤ s.length) := by
  unfold jText at h
  split at h
  · rename_i h1
    have := (str_mo s.length (p + 1) [] (at_len h1)).2 q h
    omega
  · injection h with h; omega
theorem txt_cut_ok (he : e ≤ s.length) {l : List UInt8} (h : jText s p = .ok (l, q)) (hq : q ≤ e) : jText (s.take e) p = .ok (l, q) := by
  have h0 := txt_ok h
  unfold jText at h ⊢
  rw [at_lt (by omega)]
  split at h
  · rename_i h1
    rw [if_pos h1]
    exact (str_cut he s.length _ (p + 1) [] (by omega) (by simp; omega) (by omega)).1 l q h hq
  · cases h
theorem txt_cut_er (he : e ≤ s.length) (hp : p ≤ e) (h : jText s p = .error e) : jText (s.take e) p = .error e := by
  unfold jText at h ⊢
  split at h
  · rename_i h1
    have := (str_mo s.length (p + 1) [] (at_len h1)).2 e h
    rw [at_lt (by omega), if_pos h1]
    exact (str_cut he s.length _ (p + 1) [] (by omega) (by simp; omega) (by omega)).2 h
  · injection h with h
    rw [at_ge (by omega), if_neg (by simp), h]

theorem scal_ok {v : JV} (h : jScal s p = .ok (v, q)) : p < q ∧ (p ≤ s.length → q ≤ s.length) := by
  unfold jScal at h
  split at h
  · split at h
    · cases h
    · rename_i e0; injection h with h; injection h with h h'; have := word_ok _ e0; simp at this; omega
  split at h
  · split at h
    · cases h
    · rename_i e0; injection h with h; injection h with h h'; have := word_ok _ e0; simp at this; omega
  split at h
  · split at h
    · cases h
    · rename_i e0; injection h with h; injection h with h h'; have := word_ok _ e0; simp at this; omega
  split at h
  · split at h
    · cases h
    · rename_i e0; injection h with h; injection h with h h'; have := txt_ok e0; omega
  · split at h
    · cases h
    · rename_i e0; injection h with h; injection h with h h'; have := num_ok e0; omega
theorem scal_er (h : jScal s p = .error q) : p ≤ q ∧ (p ≤ s.length → q ≤ s.length) := by
  unfold jScal at h
  split at h
  · split at h
    · rename_i e0; injection h with h; have := word_er _ e0; omega
    · cases h
  split at h
  · split at h
    · rename_i e0; injection h with h; have := word_er _ e0; omega
    · cases h
  split at h
  · split at h
    · rename_i e0; injection h with h; have := word_er _ e0; omega
    · cases h
  split at h
  · split at h
    · rename_i e0; injection h with h; have := txt_er e0; omega
    · cases h
  · split at h
    · rename_i e0; injection h with h; have := num_er e0; omega
    · cases h
theorem scal_cut_ok (he : e ≤ s.length) (hp : p ≤ e) {v : JV} (h : jScal s p = .ok (v, q)) (hq : q ≤ e) : jScal (s.take e) p = .ok (v, q) := by
  have h0 := scal_ok h
  unfold jScal at h ⊢
  rw [at_lt (by omega)]
  split at h
  · rename_i h1
    rw [if_pos h1]
    split at h
    · cases h
    · rename_i e0
      have hh := (Prod.mk.inj (Except.ok.inj h)).2
      rw [word_cut_ok _ e0 (by omega)]
      exact h
  rename_i h1
  rw [if_neg h1]
  split at h
  · rename_i h1
    rw [if_pos h1]
    split at h
    · cases h
    · rename_i e0
      have hh := (Prod.mk.inj (Except.ok.inj h)).2
      rw [word_cut_ok _ e0 (by omega)]
      exact h
  rename_i h1
  rw [if_neg h1]
  split at h
  · rename_i h1
    rw [if_pos h1]
    split at h
    · cases h
    · rename_i e0
      have hh := (Prod.mk.inj (Except.ok.inj h)).2
      rw [word_cut_ok _ e0 (by omega)]
      exact h
  rename_i h1
  rw [if_neg h1]
  split at h
  · rename_i h1
    rw [if_pos h1]
    split at h
    · cases h
    · rename_i e0
      have hh := (Prod.mk.inj (Except.ok.inj h)).2
      rw [txt_cut_ok he e0 (by omega)]
      exact h
  · rename_i h1
    rw [if_neg h1]
    split at h
    · cases h
    · rename_i e0
      have hh := (Prod.mk.inj (Except.ok.inj h)).2
      rw [num_cut_ok hp e0 (by omega)]
      simp only
      rw [← h, List.drop_take, List.take_take, Nat.min_eq_left (by omega)]
theorem scal_cut_er (he : e ≤ s.length) (hp : p ≤ e) (h : jScal s p = .error e) : jScal (s.take e) p = .error e := by
  unfold jScal at h ⊢
  rcases Nat.lt_or_ge p e with h2 | h2
  · rw [at_lt h2]
    split at h
    · rename_i h1
      rw [if_pos h1]
      split at h
      · rename_i e0; injection h with h; subst h; rw [word_cut_er _ e0]
      · cases h
    rename_i h1
    rw [if_neg h1]
    split at h
    · rename_i h1
      rw [if_pos h1]
      split at h
      · rename_i e0; injection h with h; subst h; rw [word_cut_er _ e0]
      · cases h
    rename_i h1
    rw [if_neg h1]
    split at h
    · rename_i h1
      rw [if_pos h1]
      split at h
      · rename_i e0; injection h with h; subst h; rw [word_cut_er _ e0]
      · cases h
    rename_i h1
    rw [if_neg h1]
    split at h
    · rename_i h1
      rw [if_pos h1]
      split at h
      · rename_i e0; injection h with h; subst h; rw [txt_cut_er he hp e0]
      · cases h
    · rename_i h1
      rw [if_neg h1]
      split at h
      · rename_i e0; injection h with h; subst h; rw [num_cut_er hp e0]
      · cases h
  · have hn : (s.take e)[p]? = none := at_ge h2
    rw [hn, if_neg (by simp), if_neg (by simp), if_neg (by simp), if_neg (by simp), num_end hn, show p = e by omega]
end Go.Proofs.YtghiboknhjnlkaaDoor
