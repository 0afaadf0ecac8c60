/- What stands ahead of a wrong byte of a JSON text: cut there, the text ends too early, or is whole. No program. What stands ahead of a wrong byte of a JSON text: arrays, objects, values, the whole text. No program. Which errors a reader tells. No program. -/
import Derived.Test.YtghiboknhjnlkaaDoorJsonP
set_option linter.unusedVariables false
set_option linter.unusedSimpArgs false
set_option linter.unnecessarySimpa false
namespace Go.Proofs.YtghiboknhjnlkaaDoor
open Go.Lib (decodeL encodeRune)

theorem tw_take {α : Type} (f : α → Bool) : ∀ (l : List α) (k : Nat), ((l.take k).takeWhile f).length = min k (l.takeWhile f).length
  | [], k => by simp
  | a :: l, 0 => by simp
  | a :: l, k + 1 => by
    rw [List.take_succ_cons, List.takeWhile_cons, List.takeWhile_cons]
    split
    · rw [List.length_cons, List.length_cons, tw_take f l k]; omega
    · simp

theorem tw_len {α : Type} (f : α → Bool) (l : List α) : (l.takeWhile f).length ≤ l.length := (List.takeWhile_sublist f).length_le

variable {s : List UInt8} {e p q : Nat}

theorem at_lt (h : p < e) : (s.take e)[p]? = s[p]? := by rw [List.getElem?_take, if_pos h]
theorem at_ge (h : e ≤ p) : (s.take e)[p]? = none := by rw [List.getElem?_take, if_neg (by omega)]
theorem at_len {c : UInt8} (h : s[p]? = some c) : p < s.length := (List.getElem?_eq_some_iff.1 h).1

theorem blank_ge (s : List UInt8) (p : Nat) : p ≤ jBlank s p := by unfold jBlank; omega
theorem blank_len (h : p ≤ s.length) : jBlank s p ≤ s.length := by
  unfold jBlank
  have := tw_len isBl (s.drop p)
  rw [List.length_drop] at this
  omega
theorem blank_cut (h : p ≤ e) : jBlank (s.take e) p = min e (jBlank s p) := by
  unfold jBlank
  rw [List.drop_take, tw_take]
  omega

theorem digs_ok (h : jDigs s p = .ok q) : p < q ∧ (p ≤ s.length → q ≤ s.length) := by
  unfold jDigs at h
  have := tw_len isDg (s.drop p)
  rw [List.length_drop] at this
  split at h
  · cases h
  · injection h with h; omega
theorem digs_er (h : jDigs s p = .error q) : q = p := by
  unfold jDigs at h
  split at h
  · injection h with h; omega
  · cases h
theorem digs_cut_ok (hp : p ≤ e) (h : jDigs s p = .ok q) (hq : q ≤ e) : jDigs (s.take e) p = .ok q := by
  unfold jDigs at h ⊢
  rw [List.drop_take, tw_take]
  split at h
  · cases h
  · injection h with h
    rw [if_neg (by omega), show min (e - p) ((s.drop p).takeWhile isDg).length = ((s.drop p).takeWhile isDg).length by omega, h]
theorem digs_cut_er (h : jDigs s p = .error q) : jDigs (s.take e) p = .error q := by
  unfold jDigs at h ⊢
  rw [List.drop_take, tw_take]
  split at h
  · rw [if_pos (by omega), h]
  · cases h

theorem hasl_lt {set : List UInt8} (h : jHas s p set = true) : p < s.length := by
  unfold jHas at h
  cases e : s[p]? with
  | none => rw [e] at h; cases h
  | some c => exact at_len e
theorem has_cut {set : List UInt8} (h : p < e) : jHas (s.take e) p set = jHas s p set := by unfold jHas; rw [at_lt h]
theorem has_end {set : List UInt8} (h : e ≤ p) : jHas (s.take e) p set = false := by unfold jHas; rw [at_ge h]; rfl

theorem num0_ok (h : jNum0 s p = .ok q) : p < q ∧ (p ≤ s.length → q ≤ s.length) := by
  unfold jNum0 at h
  split at h
  · rename_i h1; have := hasl_lt h1; injection h with h; omega
  · exact digs_ok h
theorem num0_er (h : jNum0 s p = .error q) : q = p := by
  unfold jNum0 at h
  split at h
  · cases h
  · exact digs_er h
theorem num0_cut_ok (hp : p ≤ e) (h : jNum0 s p = .ok q) (hq : q ≤ e) : jNum0 (s.take e) p = .ok q := by
  have hl := (num0_ok h).1
  unfold jNum0 at h ⊢
  rw [has_cut (by omega)]
  split at h
  · rename_i h1; rw [if_pos h1]; exact h
  · rename_i h1; rw [if_neg h1]; exact digs_cut_ok hp h hq
theorem num0_cut_er (h : jNum0 s p = .error e) : jNum0 (s.take e) p = .error e := by
  obtain rfl := num0_er h
  unfold jNum0 at h ⊢
  rw [has_end (Nat.le_refl _), if_neg (by simp)]
  split at h
  · cases h
  · exact digs_cut_er h

theorem num1_ok (h : jNum1 s p = .ok q) : p ≤ q ∧ (p ≤ s.length → q ≤ s.length) := by
  unfold jNum1 at h
  split at h
  · rename_i h1; have := hasl_lt h1; have := digs_ok h; omega
  · injection h with h; omega
theorem num1_er (h : jNum1 s p = .error q) : q = p + 1 ∧ p < s.length := by
  unfold jNum1 at h
  split at h
  · rename_i h1; exact ⟨digs_er h, hasl_lt h1⟩
  · cases h
theorem num1_cut_ok (hp : p ≤ e) (h : jNum1 s p = .ok q) (hq : q ≤ e) : jNum1 (s.take e) p = .ok q := by
  unfold jNum1 at h ⊢
  split at h
  · rename_i h1
    have := digs_ok h
    rw [has_cut (by omega), if_pos h1]
    exact digs_cut_ok (by omega) h hq
  · rename_i h1
    rw [if_neg (by
      rcases Nat.lt_or_ge p e with h2 | h2
      · rw [has_cut h2]; exact h1
      · rw [has_end h2]; simp)]
    exact h
theorem num1_cut_er (h : jNum1 s p = .error e) : jNum1 (s.take e) p = .error e := by
  have h2 := num1_er h
  unfold jNum1 at h ⊢
  rw [has_cut (by omega)]
  split at h
  · rename_i h1; rw [if_pos h1]; exact digs_cut_er h
  · cases h

theorem num2_ok (h : jNum2 s p = .ok q) : p ≤ q ∧ (p ≤ s.length → q ≤ s.length) := by
  unfold jNum2 at h
  split at h
  · rename_i h1
    have h2 := hasl_lt h1
    have h3 := digs_ok h
    split at h3
    · rename_i h4; have := hasl_lt h4; omega
    · omega
  · injection h with h; omega
theorem num2_er (h : jNum2 s p = .error q) : p < q ∧ q ≤ s.length := by
  unfold jNum2 at h
  split at h
  · rename_i h1
    have h2 := hasl_lt h1
    have h3 := digs_er h
    split at h3
    · rename_i h4; have := hasl_lt h4; omega
    · omega
  · cases h
theorem num2_cut_ok (hp : p ≤ e) (h : jNum2 s p = .ok q) (hq : q ≤ e) : jNum2 (s.take e) p = .ok q := by
  unfold jNum2 at h ⊢
  split at h
  · rename_i h1
    have h3 := digs_ok h
    have h4 : p + 1 < e := by split at h3 <;> omega
    rw [has_cut (by omega), has_cut h4, if_pos h1]
    exact digs_cut_ok (by omega) h hq
  · rename_i h1
    rw [if_neg (by
      rcases Nat.lt_or_ge p e with h2 | h2
      · rw [has_cut h2]; exact h1
      · rw [has_end h2]; simp)]
    exact h
theorem num2_cut_er (h : jNum2 s p = .error e) : jNum2 (s.take e) p = .error e := by
  unfold jNum2 at h ⊢
  split at h
  · rename_i h1
    have h3 := digs_er h
    rw [has_cut (by split at h3 <;> omega), if_pos h1]
    split at h3
    · rename_i h4
      rw [has_cut (by omega), if_pos h4, ← h3]
      rw [if_pos h4, ← h3] at h
      exact digs_cut_er h
    · rename_i h4
      rw [has_end (by omega), if_neg (by simp), ← h3]
      rw [if_neg h4, ← h3] at h
      exact digs_cut_er h
  · cases h

theorem sgn_le (s : List UInt8) (p : Nat) : p ≤ (if jHas s p [45] = true then p + 1 else p) ∧ (p ≤ s.length → (if jHas s p [45] = true then p + 1 else p) ≤ s.length) := by
  split
  · rename_i h; have := hasl_lt h; omega
  · omega

theorem num_ok (h : jNum s p = .ok q) : p < q ∧ (p ≤ s.length → q ≤ s.length) := by
  unfold jNum at h
  have h0 := sgn_le s p
  generalize (if jHas s p [45] = true then p + 1 else p) = p1 at *
  cases e0 : jNum0 s p1 with
  | error x => rw [e0] at h; cases h
  | ok p2 =>
    rw [e0] at h
    have h1 := num0_ok e0
    simp only at h
    cases e1 : jNum1 s p2 with
    | error x => rw [e1] at h; cases h
    | ok p3 =>
      rw [e1] at h
      have h2 := num1_ok e1
      have h3 := num2_ok h
      omega
theorem num_er (h : jNum s p = .error q) : p ≤ q ∧ (p ≤ s.length → q ≤ s.length) := by
  unfold jNum at h
  have h0 := sgn_le s p
  generalize (if jHas s p [45] = true then p + 1 else p) = p1 at *
  cases e0 : jNum0 s p1 with
  | error x => rw [e0] at h; injection h with h; have := num0_er e0; omega
  | ok p2 =>
    rw [e0] at h
    have h1 := num0_ok e0
    simp only at h
    cases e1 : jNum1 s p2 with
    | error x => rw [e1] at h; injection h with h; have := num1_er e1; omega
    | ok p3 =>
      rw [e1] at h
      have h2 := num1_ok e1
      have h3 := num2_er h
      omega

theorem sgn_cut (h : (if jHas s p [45] = true then p + 1 else p) ≤ e) : (if jHas (s.take e) p [45] = true then p + 1 else p) = (if jHas s p [45] = true then p + 1 else p) := by
  rcases Nat.lt_or_ge p e with h2 | h2
  · rw [has_cut h2]
  · rw [has_end h2, if_neg (by simp)]
    split at h
    · omega
    · rename_i h3; rw [if_neg h3]

theorem num_cut_ok (hp : p ≤ e) (h : jNum s p = .ok q) (hq : q ≤ e) : jNum (s.take e) p = .ok q := by
  unfold jNum at h ⊢
  have h0 := sgn_le s p
  have hs := sgn_cut (s := s) (e := e) (p := p)
  generalize (if jHas s p [45] = true then p + 1 else p) = p1 at *
  cases e0 : jNum0 s p1 with
  | error x => rw [e0] at h; cases h
  | ok p2 =>
    rw [e0] at h
    have h1 := num0_ok e0
    simp only at h
    cases e1 : jNum1 s p2 with
    | error x => rw [e1] at h; cases h
    | ok p3 =>
      rw [e1] at h
      have h2 := num1_ok e1
      have h3 := num2_ok h
      rw [hs (by omega), num0_cut_ok (by omega) e0 (by omega)]
      simp only
      rw [num1_cut_ok (by omega) e1 (by omega)]
      exact num2_cut_ok (by omega) h hq
theorem num_cut_er (hp : p ≤ e) (h : jNum s p = .error e) : jNum (s.take e) p = .error e := by
  unfold jNum at h ⊢
  have h0 := sgn_le s p
  have hs := sgn_cut (s := s) (e := e) (p := p)
  generalize (if jHas s p [45] = true then p + 1 else p) = p1 at *
  cases e0 : jNum0 s p1 with
  | error x =>
    rw [e0] at h
    injection h with h
    subst h
    have := num0_er e0
    rw [hs (by omega), num0_cut_er e0]
  | ok p2 =>
    rw [e0] at h
    have h1 := num0_ok e0
    simp only at h
    cases e1 : jNum1 s p2 with
    | error x =>
      rw [e1] at h
      injection h with h
      subst h
      have := num1_er e1
      rw [hs (by omega), num0_cut_ok (by omega) e0 (by omega)]
      simp only
      rw [num1_cut_er e1]
    | ok p3 =>
      rw [e1] at h
      have h2 := num1_ok e1
      have h3 := num2_er h
      rw [hs (by omega), num0_cut_ok (by omega) e0 (by omega)]
      simp only
      rw [num1_cut_ok (by omega) e1 (by omega)]
      exact num2_cut_er h
theorem num_end (h : s[p]? = none) : jNum s p = .error p := by
  have h1 : ∀ set, jHas s p set = false := fun set => by unfold jHas; rw [h]; rfl
  have h2 : s.drop p = [] := List.drop_eq_nil_of_le (by simpa using List.getElem?_eq_none_iff.1 h)
  have h3 : jDigs s p = .error p := by unfold jDigs; rw [h2]; rfl
  unfold jNum jNum0
  simp only [h1, h3, Bool.false_eq_true, if_false]

theorem word_ok : ∀ (w : List UInt8) {p : Nat}, jWord s p w = .ok q → q = p + w.length ∧ (p ≤ s.length → q ≤ s.length)
  | [], p, h => by injection h with h; simp; omega
  | c :: w, p, h => by
    unfold jWord at h
    split at h
    · rename_i h1
      have := at_len h1
      have := word_ok w h
      simp
      omega
    · cases h
theorem word_er : ∀ (w : List UInt8) {p : Nat}, jWord s p w = .error q → p ≤ q ∧ (p ≤ s.length → q ≤ s.length)
  | [], p, h => by cases h
  | c :: w, p, h => by
    unfold jWord at h
    split at h
    · rename_i h1
      have := at_len h1
      have := word_er w h
      omega
    · injection h with h; omega
theorem word_cut_ok : ∀ (w : List UInt8) {p : Nat}, jWord s p w = .ok q → q ≤ e → jWord (s.take e) p w = .ok q
  | [], p, h, _ => h
  | c :: w, p, h, hq => by
    have hl := (word_ok _ h).1
    simp only [List.length_cons] at hl
    unfold jWord at h ⊢
    rw [at_lt (by omega)]
    split at h
    · rename_i h1; rw [if_pos h1]; exact word_cut_ok w h hq
    · cases h
theorem word_cut_er : ∀ (w : List UInt8) {p : Nat}, jWord s p w = .error e → jWord (s.take e) p w = .error e
  | [], p, h => by cases h
  | c :: w, p, h => by
    unfold jWord at h ⊢
    split at h
    · rename_i h1
      have := word_er w h
      rw [at_lt (by omega), if_pos h1]
      exact word_cut_er w h
    · injection h with h
      rw [at_ge (by omega), if_neg (by simp), h]

theorem hex_ok : ∀ (n : Nat) {p v r : Nat}, jHex s n p v = .ok r → (p ≤ s.length → p + n ≤ s.length)
  | 0, p, v, r, h => by omega
  | n + 1, p, v, r, h => by
    unfold jHex at h
    split at h
    · cases h
    · rename_i c hc
      have := at_len hc
      split at h
      · have := hex_ok n h; omega
      · cases h
theorem hex_er : ∀ (n : Nat) {p v : Nat}, jHex s n p v = .error q → p ≤ q ∧ (p ≤ s.length → q ≤ s.length)
  | 0, p, v, h => by cases h
  | n + 1, p, v, h => by
    unfold jHex at h
    split at h
    · injection h with h; omega
    · rename_i c hc
      have := at_len hc
      split at h
      · have := hex_er n h; omega
      · injection h with h; omega
theorem hex_cut_ok : ∀ (n : Nat) {p v r : Nat}, jHex s n p v = .ok r → p + n ≤ e → jHex (s.take e) n p v = .ok r
  | 0, p, v, r, h, _ => h
  | n + 1, p, v, r, h, hq => by
    unfold jHex at h ⊢
    rw [at_lt (by omega)]
    cases e0 : s[p]? with
    | none => rw [e0] at h; cases h
    | some c =>
      rw [e0] at h
      simp only at h ⊢
      split at h
      · rename_i h1; rw [if_pos h1]; exact hex_cut_ok n h (by omega)
      · cases h
theorem hex_cut_er : ∀ (n : Nat) {p v : Nat}, jHex s n p v = .error e → jHex (s.take e) n p v = .error e
  | 0, p, v, h => by cases h
  | n + 1, p, v, h => by
    have h0 := (hex_er _ h).1
    unfold jHex at h ⊢
    rcases Nat.lt_or_ge p e with h2 | h2
    · rw [at_lt h2]
      cases e0 : s[p]? with
      | none => rw [e0] at h; exact h
      | some c =>
        rw [e0] at h
        simp only at h ⊢
        split at h
        · rename_i h1; rw [if_pos h1]; exact hex_cut_er n h
        · rename_i h1; rw [if_neg h1]; exact h
    · rw [at_ge h2, show p = e by omega]

theorem esc2_ok {v r : Nat} (h : jEsc2 s p v = .ok (r, q)) : q = p + 6 ∧ (p ≤ s.length → q ≤ s.length) := by
  unfold jEsc2 at h
  cases e0 : jWord s p [92, 117] with
  | error x => rw [e0] at h; cases h
  | ok y =>
    rw [e0] at h
    have h0 := word_ok _ e0
    simp only [List.length_cons, List.length_nil] at h h0
    cases e1 : jFour s (p + 2) with
    | error x => rw [e1] at h; cases h
    | ok d =>
      rw [e1] at h
      have h1 := hex_ok 4 e1
      simp only at h
      split at h
      · cases h
      · injection h with h; injection h with h h'; omega
theorem esc2_er {v : Nat} (h : jEsc2 s p v = .error q) : p ≤ q ∧ (p ≤ s.length → q ≤ s.length) := by
  unfold jEsc2 at h
  cases e0 : jWord s p [92, 117] with
  | error x => rw [e0] at h; injection h with h; have := word_er _ e0; omega
  | ok y =>
    rw [e0] at h
    have h0 := word_ok _ e0
    simp only [List.length_cons, List.length_nil] at h h0
    cases e1 : jFour s (p + 2) with
    | error x => rw [e1] at h; injection h with h; have := hex_er 4 e1; omega
    | ok d =>
      rw [e1] at h
      simp only at h
      split at h
      · injection h with h; omega
      · cases h
theorem esc2_cut_ok {v r : Nat} (h : jEsc2 s p v = .ok (r, q)) (hq : q ≤ e) : jEsc2 (s.take e) p v = .ok (r, q) := by
  have hl := (esc2_ok h).1
  unfold jEsc2 at h ⊢
  cases e0 : jWord s p [92, 117] with
  | error x => rw [e0] at h; cases h
  | ok y =>
    rw [e0] at h
    have h0 := word_ok _ e0
    simp only [List.length_cons, List.length_nil] at h h0
    cases e1 : jFour s (p + 2) with
    | error x => rw [e1] at h; cases h
    | ok d =>
      rw [e1] at h
      rw [word_cut_ok _ e0 (by omega)]
      have e2 : jFour (s.take e) (p + 2) = .ok d := hex_cut_ok 4 e1 (by omega)
      simp only [e2]
      exact h
theorem esc2_cut_er {v : Nat} (h : jEsc2 s p v = .error e) : jEsc2 (s.take e) p v = .error e := by
  unfold jEsc2 at h ⊢
  cases e0 : jWord s p [92, 117] with
  | error x =>
    rw [e0] at h
    injection h with h
    subst h
    rw [word_cut_er _ e0]
  | ok y =>
    rw [e0] at h
    have h0 := word_ok _ e0
    simp only [List.length_cons, List.length_nil] at h h0
    cases e1 : jFour s (p + 2) with
    | error x =>
      rw [e1] at h
      injection h with h
      subst h
      have := hex_er 4 e1
      rw [word_cut_ok _ e0 (by omega)]
      have e2 : jFour (s.take x) (p + 2) = .error x := hex_cut_er 4 e1
      simp only [e2]
    | ok d =>
      rw [e1] at h
      simp only at h
      split at h
      · injection h with h
        subst h
        have e2 : jWord (s.take p) p [92, 117] = .error p := by unfold jWord; rw [at_ge (Nat.le_refl _), if_neg (by simp)]
        rw [e2]
      · cases h

theorem esc_ok {r : Nat} (h : jEsc s p = .ok (r, q)) : p + 1 < q ∧ q ≤ s.length := by
  unfold jEsc at h
  cases e0 : s[p + 1]? with
  | none => rw [e0] at h; cases h
  | some c =>
    rw [e0] at h
    have h0 := at_len e0
    simp only at h
    split at h
    · injection h with h; injection h with h h'; omega
    · split at h
      · cases h
      · cases e1 : jFour s (p + 2) with
        | error x => rw [e1] at h; cases h
        | ok v =>
          rw [e1] at h
          have h1 := hex_ok 4 e1
          simp only at h
          split at h
          · injection h with h; injection h with h h'; omega
          · split at h
            · cases h
            · have := esc2_ok h; omega
theorem esc_er (h : jEsc s p = .error q) : p ≤ q ∧ (p < s.length → q ≤ s.length) := by
  unfold jEsc at h
  cases e0 : s[p + 1]? with
  | none => rw [e0] at h; injection h with h; omega
  | some c =>
    rw [e0] at h
    have h0 := at_len e0
    simp only at h
    split at h
    · cases h
    · split at h
      · injection h with h; omega
      · cases e1 : jFour s (p + 2) with
        | error x => rw [e1] at h; injection h with h; have := hex_er 4 e1; omega
        | ok v =>
          rw [e1] at h
          have h1 := hex_ok 4 e1
          simp only at h
          split at h
          · cases h
          · split at h
            · injection h with h; omega
            · have := esc2_er h; omega
theorem esc_cut_ok {r : Nat} (h : jEsc s p = .ok (r, q)) (hq : q ≤ e) : jEsc (s.take e) p = .ok (r, q) := by
  have hl := (esc_ok h).1
  unfold jEsc at h ⊢
  rw [at_lt (by omega)]
  cases e0 : s[p + 1]? with
  | none => rw [e0] at h; cases h
  | some c =>
    rw [e0] at h
    simp only at h ⊢
    split at h
    · rename_i h1; rw [if_pos h1]; exact h
    · rename_i h1
      rw [if_neg h1]
      split at h
      · cases h
      · rename_i h2
        rw [if_neg h2]
        cases e1 : jFour s (p + 2) with
        | error x => rw [e1] at h; cases h
        | ok v =>
          rw [e1] at h
          simp only at h
          have hx : p + 6 ≤ e := by
            split at h
            · injection h with h; injection h with h h'; omega
            · split at h
              · cases h
              · have := esc2_ok h; omega
          have e2 : jFour (s.take e) (p + 2) = .ok v := hex_cut_ok 4 e1 (by omega)
          simp only [e2]
          split at h
          · rename_i h3; rw [if_pos h3]; exact h
          · rename_i h3
            rw [if_neg h3]
            split at h
            · cases h
            · rename_i h4; rw [if_neg h4]; exact esc2_cut_ok h hq
theorem esc_cut_er (hp : p < e) (h : jEsc s p = .error e) : jEsc (s.take e) p = .error e := by
  unfold jEsc at h ⊢
  rcases Nat.lt_or_ge (p + 1) e with h2 | h2
  · rw [at_lt h2]
    cases e0 : s[p + 1]? with
    | none => rw [e0] at h; exact h
    | some c =>
      rw [e0] at h
      simp only at h ⊢
      split at h
      · cases h
      · rename_i h1
        rw [if_neg h1]
        split at h
        · injection h with h; omega
        · rename_i h2
          rw [if_neg h2]
          cases e1 : jFour s (p + 2) with
          | error x =>
            rw [e1] at h
            injection h with h
            subst h
            have e2 : jFour (s.take x) (p + 2) = .error x := hex_cut_er 4 e1
            simp only [e2]
          | ok v =>
            rw [e1] at h
            simp only at h
            split at h
            · cases h
            · rename_i h3
              split at h
              · injection h with h; omega
              · rename_i h4
                have := esc2_er h
                have e2 : jFour (s.take e) (p + 2) = .ok v := hex_cut_ok 4 e1 (by omega)
                simp only [e2]
                rw [if_neg h3, if_neg h4]
                exact esc2_cut_er h
  · rw [at_ge h2, show p + 1 = e by omega]

theorem dec_take (l : List UInt8) (h0 : l ≠ []) (hv : ¬ ((decodeL l).1 = 65533 ∧ (decodeL l).2 = 1)) (k : Nat) (hk : (decodeL l).2 ≤ k) : decodeL (l.take k) = decodeL l := by
  have h1 := Lib.encode_decode l h0 hv
  have h2 : l.take k = l.take (decodeL l).2 ++ (l.take k).drop (decodeL l).2 := by
    conv => lhs; rw [← List.take_append_drop (decodeL l).2 (l.take k)]
    rw [List.take_take, Nat.min_eq_left hk]
  have h3 := congrArg List.length h1
  rw [List.length_take, Nat.min_eq_left (Lib.decodeL_le l h0)] at h3
  rw [h2, ← h1, decode_encode _ (decode_sc l), h3]

theorem str_mo : ∀ (n p : Nat) (acc : List UInt8), p ≤ s.length →
    (∀ l q, jStr s n p acc = .ok (l, q) → p < q ∧ q ≤ s.length) ∧ (∀ q, jStr s n p acc = .error q → p ≤ q ∧ q ≤ s.length)
  | 0, p, acc, hp => ⟨fun l q h => (by cases h), fun q h => (by injection h with h; omega)⟩
  | n + 1, p, acc, hp => by
    unfold jStr
    cases e0 : s[p]? with
    | none => exact ⟨fun l q h => (by cases h), fun q h => (by injection h with h; omega)⟩
    | some c =>
      have h0 := at_len e0
      simp only
      split
      · exact ⟨fun l q h => (by injection h with h; injection h with h h'; omega), fun q h => (by cases h)⟩
      · split
        · exact ⟨fun l q h => (by cases h), fun q h => (by injection h with h; omega)⟩
        · split
          · cases e1 : jEsc s p with
            | error x => exact ⟨fun l q h => (by cases h), fun q h => (by injection h with h; have := esc_er e1; omega)⟩
            | ok rq =>
              obtain ⟨r, q1⟩ := rq
              have h1 := esc_ok e1
              have h2 := str_mo n q1 (acc ++ encodeRune r) h1.2
              exact ⟨fun l q h => (by have := h2.1 l q h; omega), fun q h => (by have := h2.2 q h; omega)⟩
          · split
            · exact ⟨fun l q h => (by cases h), fun q h => (by injection h with h; omega)⟩
            · have h1 := Lib.decodeL_width (s.drop p)
              have h2 := Lib.decodeL_le (s.drop p) (by intro e; have := congrArg List.length e; simp at this; omega)
              rw [List.length_drop] at h2
              have h3 := str_mo n (p + (decodeL (s.drop p)).2) (acc ++ (s.drop p).take (decodeL (s.drop p)).2) (by omega)
              exact ⟨fun l q h => (by have := h3.1 l q h; omega), fun q h => (by have := h3.2 q h; omega)⟩

theorem str_cut (he : e ≤ s.length) : ∀ (n m p : Nat) (acc : List UInt8), s.length ≤ n + p → e ≤ m + p → p ≤ e →
    (∀ l q, jStr s n p acc = .ok (l, q) → q ≤ e → jStr (s.take e) m p acc = .ok (l, q)) ∧ (jStr s n p acc = .error e → jStr (s.take e) m p acc = .error e)
  | 0, m, p, acc, hn, hm, hp => by
    refine ⟨fun l q h => (by cases h), fun h => ?_⟩
    injection h with h
    subst h
    cases m with
    | zero => rfl
    | succ m => unfold jStr; rw [at_ge (Nat.le_refl _)]
  | n + 1, m, p, acc, hn, hm, hp => by
    have hmo := str_mo (s := s) (n + 1) p acc (by omega)
    rcases Nat.lt_or_ge p e with h2 | h2
    · obtain ⟨m, rfl⟩ : ∃ k, m = k + 1 := ⟨m - 1, by omega⟩
      unfold jStr
      rw [at_lt h2]
      cases e0 : s[p]? with
      | none => exact ⟨fun l q h => (by cases h), fun h => h⟩
      | some c =>
        simp only
        split
        · exact ⟨fun l q h _ => h, fun h => (by cases h)⟩
        · split
          · exact ⟨fun l q h _ => h, fun h => h⟩
          · split
            · cases e1 : jEsc s p with
              | error x =>
                refine ⟨fun l q h => (by cases h), fun h => ?_⟩
                injection h with h
                subst h
                rw [esc_cut_er h2 e1]
              | ok rq =>
                obtain ⟨r, q1⟩ := rq
                have h1 := esc_ok e1
                have h3 := str_mo (s := s) n q1 (acc ++ encodeRune r) h1.2
                simp only
                refine ⟨fun l q h hq => ?_, fun h => ?_⟩
                · have := h3.1 l q h
                  rw [esc_cut_ok e1 (by omega)]
                  exact (str_cut he n m q1 _ (by omega) (by omega) (by omega)).1 l q h hq
                · have := h3.2 e h
                  rw [esc_cut_ok e1 (by omega)]
                  exact (str_cut he n m q1 _ (by omega) (by omega) (by omega)).2 h
            · have hne : s.drop p ≠ [] := by intro e; have := congrArg List.length e; simp at this; omega
              split
              · refine ⟨fun l q h => (by cases h), fun h => ?_⟩
                injection h with h
                omega
              · rename_i hv
                have h1 := Lib.decodeL_width (s.drop p)
                have h3 := Lib.decodeL_le (s.drop p) hne
                rw [List.length_drop] at h3
                have h4 := str_mo (s := s) n (p + (decodeL (s.drop p)).2) (acc ++ (s.drop p).take (decodeL (s.drop p)).2) (by omega)
                have go : (decodeL (s.drop p)).2 ≤ e - p → decodeL ((s.take e).drop p) = decodeL (s.drop p) ∧ ((s.take e).drop p).take (decodeL (s.drop p)).2 = (s.drop p).take (decodeL (s.drop p)).2 := by
                  intro h
                  rw [List.drop_take, dec_take _ hne hv _ h, List.take_take, Nat.min_eq_left h]
                  exact ⟨rfl, rfl⟩
                refine ⟨fun l q h hq => ?_, fun h => ?_⟩
                · have := h4.1 l q h
                  obtain ⟨g1, g2⟩ := go (by omega)
                  rw [g1, if_neg hv, g2]
                  exact (str_cut he n m _ _ (by omega) (by omega) (by omega)).1 l q h hq
                · have := h4.2 e h
                  obtain ⟨g1, g2⟩ := go (by omega)
                  rw [g1, if_neg hv, g2]
                  exact (str_cut he n m _ _ (by omega) (by omega) (by omega)).2 h
    · obtain rfl : p = e := by omega
      refine ⟨fun l q h hq => (by have := hmo.1 l q h; omega), fun h => ?_⟩
      cases m with
      | zero => rfl
      | succ m => unfold jStr; rw [at_ge (Nat.le_refl _)]

theorem txt_ok {l : List UInt8} (h : jText s p = .ok (l, q)) : p + 1 < q ∧ q ≤ s.length := by
  unfold jText at h
  split at h
  · rename_i h1
    exact (str_mo s.length (p + 1) [] (at_len h1)).1 l q h
  · cases h
theorem txt_er (h : jText s p = .error q) : p ≤ q ∧ (p ≤ s.length → q ≤ s.length) := by
  unfold jText at h
  split at h
  · rename_i h1
    have := (str_mo s.length (p + 1) [] (at_len h1)).2 q h
    omega
  · injection h with h; omega
theorem txt_cut_ok (he : e ≤ s.length) {l : List UInt8} (h : jText s p = .ok (l, q)) (hq : q ≤ e) : jText (s.take e) p = .ok (l, q) := by
  have h0 := txt_ok h
  unfold jText at h ⊢
  rw [at_lt (by omega)]
  split at h
  · rename_i h1
    rw [if_pos h1]
    exact (str_cut he s.length _ (p + 1) [] (by omega) (by simp; omega) (by omega)).1 l q h hq
  · cases h
theorem txt_cut_er (he : e ≤ s.length) (hp : p ≤ e) (h : jText s p = .error e) : jText (s.take e) p = .error e := by
  unfold jText at h ⊢
  split at h
  · rename_i h1
    have := (str_mo s.length (p + 1) [] (at_len h1)).2 e h
    rw [at_lt (by omega), if_pos h1]
    exact (str_cut he s.length _ (p + 1) [] (by omega) (by simp; omega) (by omega)).2 h
  · injection h with h
    rw [at_ge (by omega), if_neg (by simp), h]

theorem scal_ok {v : JV} (h : jScal s p = .ok (v, q)) : p < q ∧ (p ≤ s.length → q ≤ s.length) := by
  unfold jScal at h
  split at h
  · split at h
    · cases h
    · rename_i e0; injection h with h; injection h with h h'; have := word_ok _ e0; simp at this; omega
  split at h
  · split at h
    · cases h
    · rename_i e0; injection h with h; injection h with h h'; have := word_ok _ e0; simp at this; omega
  split at h
  · split at h
    · cases h
    · rename_i e0; injection h with h; injection h with h h'; have := word_ok _ e0; simp at this; omega
  split at h
  · split at h
    · cases h
    · rename_i e0; injection h with h; injection h with h h'; have := txt_ok e0; omega
  · split at h
    · cases h
    · rename_i e0; injection h with h; injection h with h h'; have := num_ok e0; omega
theorem scal_er (h : jScal s p = .error q) : p ≤ q ∧ (p ≤ s.length → q ≤ s.length) := by
  unfold jScal at h
  split at h
  · split at h
    · rename_i e0; injection h with h; have := word_er _ e0; omega
    · cases h
  split at h
  · split at h
    · rename_i e0; injection h with h; have := word_er _ e0; omega
    · cases h
  split at h
  · split at h
    · rename_i e0; injection h with h; have := word_er _ e0; omega
    · cases h
  split at h
  · split at h
    · rename_i e0; injection h with h; have := txt_er e0; omega
    · cases h
  · split at h
    · rename_i e0; injection h with h; have := num_er e0; omega
    · cases h
theorem scal_cut_ok (he : e ≤ s.length) (hp : p ≤ e) {v : JV} (h : jScal s p = .ok (v, q)) (hq : q ≤ e) : jScal (s.take e) p = .ok (v, q) := by
  have h0 := scal_ok h
  unfold jScal at h ⊢
  rw [at_lt (by omega)]
  split at h
  · rename_i h1
    rw [if_pos h1]
    split at h
    · cases h
    · rename_i e0
      have hh := (Prod.mk.inj (Except.ok.inj h)).2
      rw [word_cut_ok _ e0 (by omega)]
      exact h
  rename_i h1
  rw [if_neg h1]
  split at h
  · rename_i h1
    rw [if_pos h1]
    split at h
    · cases h
    · rename_i e0
      have hh := (Prod.mk.inj (Except.ok.inj h)).2
      rw [word_cut_ok _ e0 (by omega)]
      exact h
  rename_i h1
  rw [if_neg h1]
  split at h
  · rename_i h1
    rw [if_pos h1]
    split at h
    · cases h
    · rename_i e0
      have hh := (Prod.mk.inj (Except.ok.inj h)).2
      rw [word_cut_ok _ e0 (by omega)]
      exact h
  rename_i h1
  rw [if_neg h1]
  split at h
  · rename_i h1
    rw [if_pos h1]
    split at h
    · cases h
    · rename_i e0
      have hh := (Prod.mk.inj (Except.ok.inj h)).2
      rw [txt_cut_ok he e0 (by omega)]
      exact h
  · rename_i h1
    rw [if_neg h1]
    split at h
    · cases h
    · rename_i e0
      have hh := (Prod.mk.inj (Except.ok.inj h)).2
      rw [num_cut_ok hp e0 (by omega)]
      simp only
      rw [← h, List.drop_take, List.take_take, Nat.min_eq_left (by omega)]
theorem scal_cut_er (he : e ≤ s.length) (hp : p ≤ e) (h : jScal s p = .error e) : jScal (s.take e) p = .error e := by
  unfold jScal at h ⊢
  rcases Nat.lt_or_ge p e with h2 | h2
  · rw [at_lt h2]
    split at h
    · rename_i h1
      rw [if_pos h1]
      split at h
      · rename_i e0; injection h with h; subst h; rw [word_cut_er _ e0]
      · cases h
    rename_i h1
    rw [if_neg h1]
    split at h
    · rename_i h1
      rw [if_pos h1]
      split at h
      · rename_i e0; injection h with h; subst h; rw [word_cut_er _ e0]
      · cases h
    rename_i h1
    rw [if_neg h1]
    split at h
    · rename_i h1
      rw [if_pos h1]
      split at h
      · rename_i e0; injection h with h; subst h; rw [word_cut_er _ e0]
      · cases h
    rename_i h1
    rw [if_neg h1]
    split at h
    · rename_i h1
      rw [if_pos h1]
      split at h
      · rename_i e0; injection h with h; subst h; rw [txt_cut_er he hp e0]
      · cases h
    · rename_i h1
      rw [if_neg h1]
      split at h
      · rename_i e0; injection h with h; subst h; rw [num_cut_er hp e0]
      · cases h
  · have hn : (s.take e)[p]? = none := at_ge h2
    rw [hn, if_neg (by simp), if_neg (by simp), if_neg (by simp), if_neg (by simp), num_end hn, show p = e by omega]
end Go.Proofs.YtghiboknhjnlkaaDoor

namespace Go.Proofs.YtghiboknhjnlkaaDoor

variable {s : List UInt8} {e p q : Nat}

/-- places go on, and stay within the text -/
def Mo {α : Type} (L : Nat) (f : Nat → Except JErr (α × Nat)) : Prop :=
  ∀ p, p ≤ L → (∀ a q, f p = .ok (a, q) → p < q ∧ q ≤ L) ∧ (∀ q c, f p = .error (q, c) → p ≤ q ∧ q ≤ L)
/-- what f finds up to e, g finds -/
def Cu {α : Type} (e : Nat) (f g : Nat → Except JErr (α × Nat)) : Prop :=
  ∀ p, p ≤ e → (∀ a q, f p = .ok (a, q) → q ≤ e → g p = .ok (a, q)) ∧ (f p = .error (e, 40) → g p = .error (e, 40))

theorem loop_mo {en : UInt8} {step : JSt → Nat → Except JErr (JSt × Nat)} (hM : ∀ st, Mo s.length (step st)) : ∀ (n : Nat) (st : JSt), Mo s.length (jLoop s en step n st)
  | 0, st => fun p hp => ⟨fun a q h => (by cases h), fun q c h => (by injection h with h; injection h with h h'; omega)⟩
  | n + 1, st => fun p hp => by
    unfold jLoop
    cases e0 : step st p with
    | error x =>
      refine ⟨fun a q h => (by cases h), fun q c h => ?_⟩
      injection h with h
      subst h
      exact (hM st p hp).2 q c e0
    | ok y =>
      obtain ⟨st', q1⟩ := y
      have h1 := (hM st p hp).1 st' q1 e0
      have h2 := blank_ge s q1
      have h3 := blank_len (s := s) h1.2
      simp only
      split
      · rename_i h4
        have := at_len h4
        exact ⟨fun a q h => (by injection h with h; injection h with h h'; omega), fun q c h => (by cases h)⟩
      · split
        · rename_i h4
          have := at_len h4
          have h5 := blank_ge s (jBlank s q1 + 1)
          have h6 := blank_len (s := s) (p := jBlank s q1 + 1) (by omega)
          have h7 := loop_mo (en := en) hM n st' (jBlank s (jBlank s q1 + 1)) h6
          exact ⟨fun a q h => (by have := h7.1 a q h; omega), fun q c h => (by have := h7.2 q c h; omega)⟩
        · exact ⟨fun a q h => (by cases h), fun q c h => (by injection h with h; injection h with h h'; omega)⟩

theorem loop_cut (he : e ≤ s.length) {en : UInt8} {step step' : JSt → Nat → Except JErr (JSt × Nat)} (hM : ∀ st, Mo s.length (step st)) (hC : ∀ st, Cu e (step st) (step' st)) :
    ∀ (n m : Nat) (st : JSt) (p : Nat), s.length + 1 ≤ n + p → e + 1 ≤ m + p → p ≤ e →
      (∀ a q, jLoop s en step n st p = .ok (a, q) → q ≤ e → jLoop (s.take e) en step' m st p = .ok (a, q)) ∧ (jLoop s en step n st p = .error (e, 40) → jLoop (s.take e) en step' m st p = .error (e, 40))
  | 0, m, st, p, hn, hm, hp => by omega
  | n + 1, m, st, p, hn, hm, hp => by
    obtain ⟨m, rfl⟩ : ∃ k, m = k + 1 := ⟨m - 1, by omega⟩
    unfold jLoop
    cases e0 : step st p with
    | error x =>
      refine ⟨fun a q h => (by cases h), fun h => ?_⟩
      injection h with h
      subst h
      rw [(hC st p hp).2 e0]
    | ok y =>
      obtain ⟨st', q1⟩ := y
      have h1 := (hM st p (by omega)).1 st' q1 e0
      have h2 := blank_ge s q1
      have h3 := blank_len (s := s) h1.2
      have hstep : q1 ≤ e → step' st p = .ok (st', q1) := fun h => (hC st p hp).1 st' q1 e0 h
      have hbl : q1 ≤ e → jBlank (s.take e) q1 = min e (jBlank s q1) := fun h => blank_cut h
      simp only
      split
      · rename_i h4
        have := at_len h4
        refine ⟨fun a q h hq => ?_, fun h => (by cases h)⟩
        have hh : q = jBlank s q1 + 1 := by injection h with h; injection h with h h'; exact h'.symm
        rw [hstep (by omega)]
        simp only
        rw [hbl (by omega), Nat.min_eq_right (by omega), at_lt (by omega), if_pos h4]
        exact h
      · rename_i h4
        split
        · rename_i h5
          have := at_len h5
          have h6 := blank_ge s (jBlank s q1 + 1)
          have h7 := blank_len (s := s) (p := jBlank s q1 + 1) (by omega)
          have h8 := loop_mo (en := en) hM n st' (jBlank s (jBlank s q1 + 1)) h7
          refine ⟨fun a q h hq => ?_, fun h => ?_⟩
          · have := h8.1 a q h
            rw [hstep (by omega)]
            simp only
            rw [hbl (by omega), Nat.min_eq_right (by omega), at_lt (by omega), if_neg h4, if_pos h5, blank_cut (by omega), Nat.min_eq_right (by omega)]
            exact (loop_cut he hM hC n m st' _ (by omega) (by omega) (by omega)).1 a q h hq
          · have := h8.2 e 40 h
            rw [hstep (by omega)]
            simp only
            rw [hbl (by omega), Nat.min_eq_right (by omega), at_lt (by omega), if_neg h4, if_pos h5, blank_cut (by omega), Nat.min_eq_right (by omega)]
            exact (loop_cut he hM hC n m st' _ (by omega) (by omega) (by omega)).2 h
        · refine ⟨fun a q h hq => (by cases h), fun h => ?_⟩
          have hh : jBlank s q1 = e := by injection h with h; injection h with h h'
          rw [hstep (by omega)]
          simp only
          rw [hbl (by omega), Nat.min_eq_right (by omega), at_ge (by omega), if_neg (by simp), if_neg (by simp), hh]

theorem list_mo {en : UInt8} {step : JSt → Nat → Except JErr (JSt × Nat)} (hM : ∀ st, Mo s.length (step st)) (hp : p < s.length) :
    (∀ a q, jList s en step p = .ok (a, q) → p < q ∧ q ≤ s.length) ∧ (∀ q c, jList s en step p = .error (q, c) → p < q ∧ q ≤ s.length) := by
  have h0 := blank_ge s (p + 1)
  have h1 := blank_len (s := s) (p := p + 1) (by omega)
  have h2 := loop_mo (en := en) hM (s.length + 1) ([], []) (jBlank s (p + 1)) h1
  unfold jList
  split
  · rename_i h4
    have := at_len h4
    exact ⟨fun a q h => (by injection h with h; injection h with h h'; omega), fun q c h => (by cases h)⟩
  · exact ⟨fun a q h => (by have := h2.1 a q h; omega), fun q c h => (by have := h2.2 q c h; omega)⟩

theorem list_cut (he : e ≤ s.length) {en : UInt8} {step step' : JSt → Nat → Except JErr (JSt × Nat)} (hM : ∀ st, Mo s.length (step st)) (hC : ∀ st, Cu e (step st) (step' st)) (hp : p < e) :
    (∀ a q, jList s en step p = .ok (a, q) → q ≤ e → jList (s.take e) en step' p = .ok (a, q)) ∧ (jList s en step p = .error (e, 40) → jList (s.take e) en step' p = .error (e, 40)) := by
  have h0 := blank_ge s (p + 1)
  have h1 := blank_len (s := s) (p := p + 1) (by omega)
  have h2 := loop_mo (en := en) hM (s.length + 1) ([], []) (jBlank s (p + 1)) h1
  have h3 := fun h => loop_cut he (en := en) hM hC (s.length + 1) ((s.take e).length + 1) ([], []) (jBlank s (p + 1)) (by omega) (by simp; omega) h
  have h4 := blank_cut (s := s) (e := e) (p := p + 1) (by omega)
  unfold jList
  split
  · rename_i h5
    refine ⟨fun a q h hq => ?_, fun h => (by cases h)⟩
    have hh : q = jBlank s (p + 1) + 1 := by injection h with h; injection h with h h'; exact h'.symm
    rw [h4, Nat.min_eq_right (by omega), at_lt (by omega), if_pos h5]
    exact h
  · rename_i h5
    have h6 : jBlank s (p + 1) ≤ e → ¬ (s.take e)[jBlank s (p + 1)]? = some en := by
      intro h
      rcases Nat.lt_or_ge (jBlank s (p + 1)) e with h7 | h7
      · rw [at_lt h7]; exact h5
      · rw [at_ge h7]; simp
    refine ⟨fun a q h hq => ?_, fun h => ?_⟩
    · have h7 := h2.1 a q h
      rw [h4, Nat.min_eq_right (by omega), if_neg (h6 (by omega))]
      exact (h3 (by omega)).1 a q h hq
    · have h7 := h2.2 e 40 h
      rw [h4, Nat.min_eq_right (by omega), if_neg (h6 (by omega))]
      exact (h3 (by omega)).2 h

theorem stepA_mo {kid : Nat → Except JErr (JV × Nat)} (hM : Mo s.length kid) (st : JSt) : Mo s.length (stepA kid st) := fun p hp => by
  unfold stepA
  cases e0 : kid p with
  | error x =>
    refine ⟨fun a q h => (by cases h), fun q c h => ?_⟩
    injection h with h
    subst h
    exact (hM p hp).2 q c e0
  | ok y =>
    obtain ⟨v, q1⟩ := y
    have h1 := (hM p hp).1 v q1 e0
    exact ⟨fun a q h => (by injection h with h; injection h with h h'; omega), fun q c h => (by cases h)⟩

theorem stepA_cut {kid kid' : Nat → Except JErr (JV × Nat)} (hC : Cu e kid kid') (st : JSt) : Cu e (stepA kid st) (stepA kid' st) := fun p hp => by
  unfold stepA
  cases e0 : kid p with
  | error x =>
    refine ⟨fun a q h => (by cases h), fun h => ?_⟩
    injection h with h
    subst h
    rw [(hC p hp).2 e0]
  | ok y =>
    obtain ⟨v, q1⟩ := y
    refine ⟨fun a q h hq => ?_, fun h => (by cases h)⟩
    have hh : q = q1 := by injection h with h; injection h with h h'; exact h'.symm
    rw [(hC p hp).1 v q1 e0 (by omega)]
    exact h

theorem stepO_mo {kid : Nat → Except JErr (JV × Nat)} (hM : Mo s.length kid) (st : JSt) : Mo s.length (stepO s kid st) := fun p hp => by
  unfold stepO
  cases e0 : jText s p with
  | error x => exact ⟨fun a q h => (by cases h), fun q c h => (by injection h with h; injection h with h h'; have := txt_er e0; omega)⟩
  | ok y =>
    obtain ⟨nm, q1⟩ := y
    have h1 := txt_ok e0
    have h2 := blank_ge s q1
    have h3 := blank_len (s := s) h1.2
    simp only
    split
    · exact ⟨fun a q h => (by cases h), fun q c h => (by injection h with h; injection h with h h'; omega)⟩
    · split
      · rename_i h4
        have h5 := at_len h4
        have h6 := blank_ge s (jBlank s q1 + 1)
        have h7 := blank_len (s := s) (p := jBlank s q1 + 1) (by omega)
        cases e1 : kid (jBlank s (jBlank s q1 + 1)) with
        | error x =>
          refine ⟨fun a q h => (by cases h), fun q c h => ?_⟩
          injection h with h
          subst h
          have := (hM _ h7).2 q c e1
          omega
        | ok y =>
          obtain ⟨v, q2⟩ := y
          have := (hM _ h7).1 v q2 e1
          exact ⟨fun a q h => (by injection h with h; injection h with h h'; omega), fun q c h => (by cases h)⟩
      · exact ⟨fun a q h => (by cases h), fun q c h => (by injection h with h; injection h with h h'; omega)⟩

theorem stepO_cut (he : e ≤ s.length) {kid kid' : Nat → Except JErr (JV × Nat)} (hM : Mo s.length kid) (hC : Cu e kid kid') (st : JSt) : Cu e (stepO s kid st) (stepO (s.take e) kid' st) := fun p hp => by
  unfold stepO
  cases e0 : jText s p with
  | error x =>
    refine ⟨fun a q h => (by cases h), fun h => ?_⟩
    have hh : x = e := by injection h with h; injection h with h h'
    subst hh
    rw [txt_cut_er he hp e0]
  | ok y =>
    obtain ⟨nm, q1⟩ := y
    have h1 := txt_ok e0
    have h2 := blank_ge s q1
    have h3 := blank_len (s := s) h1.2
    have ht : q1 ≤ e → jText (s.take e) p = .ok (nm, q1) := fun h => txt_cut_ok he e0 h
    have hbl : q1 ≤ e → jBlank (s.take e) q1 = min e (jBlank s q1) := fun h => blank_cut h
    simp only
    split
    · refine ⟨fun a q h => (by cases h), fun h => ?_⟩
      injection h with h
      injection h with h h'
      exact absurd h' (by decide)
    · rename_i hc
      split
      · rename_i h4
        have h5 := at_len h4
        have h6 := blank_ge s (jBlank s q1 + 1)
        have h7 := blank_len (s := s) (p := jBlank s q1 + 1) (by omega)
        cases e1 : kid (jBlank s (jBlank s q1 + 1)) with
        | error x =>
          refine ⟨fun a q h => (by cases h), fun h => ?_⟩
          injection h with h
          subst h
          have := (hM _ h7).2 e 40 e1
          rw [ht (by omega)]
          simp only
          rw [if_neg hc, hbl (by omega), Nat.min_eq_right (by omega), at_lt (by omega), if_pos h4, blank_cut (by omega), Nat.min_eq_right (by omega), (hC _ (by omega)).2 e1]
        | ok y =>
          obtain ⟨v, q2⟩ := y
          have := (hM _ h7).1 v q2 e1
          refine ⟨fun a q h hq => ?_, fun h => (by cases h)⟩
          have hh : q = q2 := by injection h with h; injection h with h h'; exact h'.symm
          rw [ht (by omega)]
          simp only
          rw [if_neg hc, hbl (by omega), Nat.min_eq_right (by omega), at_lt (by omega), if_pos h4, blank_cut (by omega), Nat.min_eq_right (by omega), (hC _ (by omega)).1 v q2 e1 (by omega)]
          exact h
      · refine ⟨fun a q h => (by cases h), fun h => ?_⟩
        have hh : jBlank s q1 = e := by injection h with h; injection h with h h'
        rw [ht (by omega)]
        simp only
        rw [if_neg hc, hbl (by omega), Nat.min_eq_right (by omega), at_ge (by omega), if_neg (by simp), hh]

theorem scal_mo : Mo s.length (fun p => synE (jScal s p)) := fun p hp => by
  dsimp only
  cases e0 : jScal s p with
  | error x =>
    have := scal_er e0
    exact ⟨fun a q h => (by cases h), fun q c h => (by injection h with h; injection h with h h'; omega)⟩
  | ok y =>
    obtain ⟨v, q1⟩ := y
    have := scal_ok e0
    exact ⟨fun a q h => (by injection h with h; injection h with h h'; omega), fun q c h => (by cases h)⟩

theorem scal_cut (he : e ≤ s.length) : Cu e (fun p => synE (jScal s p)) (fun p => synE (jScal (s.take e) p)) := fun p hp => by
  dsimp only
  cases e0 : jScal s p with
  | error x =>
    refine ⟨fun a q h => (by cases h), fun h => ?_⟩
    have hh : x = e := by injection h with h; injection h with h h'
    subst hh
    rw [scal_cut_er he hp e0]
    rfl
  | ok y =>
    obtain ⟨v, q1⟩ := y
    refine ⟨fun a q h hq => ?_, fun h => (by cases h)⟩
    have hh : v = a ∧ q1 = q := by injection h with h; injection h with h h'; exact ⟨h, h'⟩
    obtain ⟨rfl, rfl⟩ := hh
    rw [scal_cut_ok he hp e0 hq]
    rfl

theorem val_mo : ∀ n, Mo s.length (jVal s n)
  | 0 => fun p hp => by
    unfold jVal
    split
    · exact ⟨fun a q h => (by cases h), fun q c h => (by injection h with h; injection h with h h'; omega)⟩
    · exact scal_mo p hp
  | n + 1 => fun p hp => by
    have ih := val_mo n
    unfold jVal
    split
    · rename_i h1
      have h2 := list_mo (en := 93) (fun st => stepA_mo ih st) (at_len h1)
      cases e0 : jList s 93 (stepA (jVal s n)) p with
      | error x =>
        refine ⟨fun a q h => (by cases h), fun q c h => ?_⟩
        injection h with h
        subst h
        have := h2.2 q c e0
        omega
      | ok y =>
        obtain ⟨st, q1⟩ := y
        have := h2.1 st q1 e0
        exact ⟨fun a q h => (by injection h with h; injection h with h h'; omega), fun q c h => (by cases h)⟩
    · split
      · rename_i h1
        have h2 := list_mo (en := 125) (fun st => stepO_mo ih st) (at_len h1)
        cases e0 : jList s 125 (stepO s (jVal s n)) p with
        | error x =>
          refine ⟨fun a q h => (by cases h), fun q c h => ?_⟩
          injection h with h
          subst h
          have := h2.2 q c e0
          omega
        | ok y =>
          obtain ⟨st, q1⟩ := y
          have := h2.1 st q1 e0
          exact ⟨fun a q h => (by injection h with h; injection h with h h'; omega), fun q c h => (by cases h)⟩
      · exact scal_mo p hp

theorem val_cut (he : e ≤ s.length) : ∀ n, Cu e (jVal s n) (jVal (s.take e) n)
  | 0 => fun p hp => by
    have h0 := scal_cut he p hp
    have h1 := scal_mo (s := s) p (by omega)
    dsimp only at h0 h1
    unfold jVal
    rcases Nat.lt_or_ge p e with h2 | h2
    · rw [at_lt h2]
      split
      · rename_i h3
        refine ⟨fun a q h => (by cases h), fun h => ?_⟩
        injection h with h
        injection h with h h'
        omega
      · exact h0
    · have hn : (s.take e)[p]? = none := at_ge h2
      rw [hn]
      rw [if_neg (c := (none : Option UInt8) = some 91 ∨ none = some 123) (by simp)]
      split
      · refine ⟨fun a q h => (by cases h), fun h => ?_⟩
        injection h with h
        injection h with h h'
        exact absurd h' (by decide)
      · exact h0
  | n + 1 => fun p hp => by
    have ih := val_cut he n
    have hm := val_mo (s := s) n
    have h0 := scal_cut he p hp
    have hmo := val_mo (s := s) (n + 1) p (by omega)
    rcases Nat.lt_or_ge p e with h2 | h2
    · unfold jVal
      rw [at_lt h2]
      split
      · rename_i h1
        have h3 := list_cut he (en := 93) (fun st => stepA_mo hm st) (fun st => stepA_cut ih st) h2
        cases e0 : jList s 93 (stepA (jVal s n)) p with
        | error x =>
          refine ⟨fun a q h => (by cases h), fun h => ?_⟩
          injection h with h
          subst h
          rw [h3.2 e0]
        | ok y =>
          obtain ⟨st, q1⟩ := y
          refine ⟨fun a q h hq => ?_, fun h => (by cases h)⟩
          have hh : q = q1 := by injection h with h; injection h with h h'; exact h'.symm
          rw [h3.1 st q1 e0 (by omega)]
          exact h
      · split
        · rename_i h1
          have h3 := list_cut he (en := 125) (fun st => stepO_mo hm st) (fun st => stepO_cut he hm ih st) h2
          cases e0 : jList s 125 (stepO s (jVal s n)) p with
          | error x =>
            refine ⟨fun a q h => (by cases h), fun h => ?_⟩
            injection h with h
            subst h
            rw [h3.2 e0]
          | ok y =>
            obtain ⟨st, q1⟩ := y
            refine ⟨fun a q h hq => ?_, fun h => (by cases h)⟩
            have hh : q = q1 := by injection h with h; injection h with h h'; exact h'.symm
            rw [h3.1 st q1 e0 (by omega)]
            exact h
        · exact h0
    · have hpe : p = e := by omega
      have hn : (s.take e)[p]? = none := at_ge h2
      refine ⟨fun a q h hq => (by have := hmo.1 a q h; omega), fun h => ?_⟩
      have hx : jScal (s.take e) p = .error e := by
        unfold jScal
        rw [hn, if_neg (by simp), if_neg (by simp), if_neg (by simp), if_neg (by simp), num_end hn, hpe]
      unfold jVal
      rw [hn, if_neg (by simp), if_neg (by simp), hx]
      rfl

/-- a wrong byte's place is within the text; what stands ahead of it is whole, or ends too early -/
theorem read_prefix (s : List UInt8) (p : Nat) (h : jRead s = .error (p, 40)) : p ≤ s.length ∧ ((∃ v, jRead (s.take p) = .ok v) ∨ jRead (s.take p) = .error (p, 40)) := by
  have h0 := blank_len (s := s) (Nat.zero_le _)
  have hm := val_mo (s := s) 64 (jBlank s 0) h0
  unfold jRead at h
  split at h
  · injection h with h
    injection h with h h'
    exact absurd h' (by decide)
  · rename_i hl
    cases e0 : jVal s 64 (jBlank s 0) with
    | error x =>
      rw [e0] at h
      injection h with h
      subst h
      have h1 := hm.2 p 40 e0
      refine ⟨h1.2, .inr ?_⟩
      unfold jRead
      rw [if_neg (by simp; omega), blank_cut (Nat.zero_le _), Nat.min_eq_right (by omega), (val_cut h1.2 64 _ (by omega)).2 e0]
    | ok y =>
      obtain ⟨v, q1⟩ := y
      rw [e0] at h
      have h1 := hm.1 v q1 e0
      have h2 := blank_ge s q1
      have h3 := blank_len (s := s) h1.2
      simp only at h
      split at h
      · injection h with h
        injection h with h h'
        subst h
        refine ⟨h3, .inl ⟨v, ?_⟩⟩
        unfold jRead
        rw [if_neg (by simp; omega), blank_cut (Nat.zero_le _), Nat.min_eq_right (by omega), (val_cut h3 64 _ (by omega)).1 v q1 e0 (by omega)]
        simp only
        rw [blank_cut (by omega), Nat.min_eq_right (by omega), if_neg (by simp; omega)]
      · cases h
end Go.Proofs.YtghiboknhjnlkaaDoor

namespace Go.Proofs.YtghiboknhjnlkaaDoor

variable {s : List UInt8}

def Cd {α : Type} (f : Nat → Except JErr (α × Nat)) : Prop := ∀ p q c, f p = .error (q, c) → c = 40 ∨ c = 41 ∨ c = 42

theorem loop_cd {en : UInt8} {step : JSt → Nat → Except JErr (JSt × Nat)} (hM : ∀ st, Cd (step st)) : ∀ (n : Nat) (st : JSt), Cd (jLoop s en step n st)
  | 0, st => fun p q c h => by injection h with h; injection h with h h'; omega
  | n + 1, st => fun p q c h => by
    unfold jLoop at h
    cases e0 : step st p with
    | error x => rw [e0] at h; injection h with h; subst h; exact hM st p q c e0
    | ok y =>
      obtain ⟨st', q1⟩ := y
      rw [e0] at h
      simp only at h
      split at h
      · cases h
      · split at h
        · exact loop_cd hM n _ _ q c h
        · injection h with h; injection h with h h'; omega

theorem list_cd {en : UInt8} {step : JSt → Nat → Except JErr (JSt × Nat)} (hM : ∀ st, Cd (step st)) : Cd (jList s en step) := fun p q c h => by
  unfold jList at h
  split at h
  · cases h
  · exact loop_cd hM _ _ _ q c h

theorem scal_cd : Cd (fun p => synE (jScal s p)) := fun p q c h => by
  dsimp only at h
  cases e0 : jScal s p with
  | error x => rw [e0] at h; injection h with h; injection h with h h'; omega
  | ok y => rw [e0] at h; cases h

theorem val_cd : ∀ n, Cd (jVal s n)
  | 0 => fun p q c h => by
    unfold jVal at h
    split at h
    · injection h with h; injection h with h h'; omega
    · exact scal_cd p q c h
  | n + 1 => fun p q c h => by
    have ih := val_cd n
    unfold jVal at h
    split at h
    · cases e0 : jList s 93 (stepA (jVal s n)) p with
      | error x =>
        rw [e0] at h
        injection h with h
        subst h
        refine list_cd (fun st p q c h => ?_) p q c e0
        unfold stepA at h
        cases e1 : jVal s n p with
        | error x => rw [e1] at h; injection h with h; subst h; exact ih p q c e1
        | ok y => rw [e1] at h; cases h
      | ok y => rw [e0] at h; cases h
    · split at h
      · cases e0 : jList s 125 (stepO s (jVal s n)) p with
        | error x =>
          rw [e0] at h
          injection h with h
          subst h
          refine list_cd (fun st p q c h => ?_) p q c e0
          unfold stepO at h
          cases e2 : jText s p with
          | error x => rw [e2] at h; injection h with h; injection h with h h'; omega
          | ok y =>
            rw [e2] at h
            simp only at h
            split at h
            · injection h with h; injection h with h h'; omega
            · split at h
              · split at h
                · rename_i e1; injection h with h; subst h; exact ih _ q c e1
                · cases h
              · injection h with h; injection h with h h'; omega
        | ok y => rw [e0] at h; cases h
      · exact scal_cd p q c h

theorem read_cd {q : Nat} {c : Int} (h : jRead s = .error (q, c)) : c = 10 ∨ c = 40 ∨ c = 41 ∨ c = 42 := by
  unfold jRead at h
  split at h
  · injection h with h; injection h with h h'; omega
  · cases e0 : jVal s 64 (jBlank s 0) with
    | error x =>
      rw [e0] at h
      injection h with h
      subst h
      have := val_cd 64 _ q c e0
      omega
    | ok y =>
      obtain ⟨v, q1⟩ := y
      rw [e0] at h
      simp only at h
      split at h
      · injection h with h; injection h with h h'; omega
      · cases h
end Go.Proofs.YtghiboknhjnlkaaDoor
