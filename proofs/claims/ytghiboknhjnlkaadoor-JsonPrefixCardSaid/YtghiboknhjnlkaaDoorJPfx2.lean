/- What stands ahead of a wrong byte of a JSON text: arrays, objects, values, the whole text. No program. -/
import Derived.Test.YtghiboknhjnlkaaDoorJPfx
set_option linter.unusedVariables false
set_option linter.unusedSimpArgs false
set_option linter.unnecessarySimpa false
namespace Go.Proofs.YtghiboknhjnlkaaDoor

variable {s : List UInt8} {e p q : Nat}

/-- places go on, and stay within the text -/
def Mo {α : Type} (L : Nat) (f : Nat → Except JErr (α × Nat)) : Prop :=
  ∀ p, p ≤ L → (∀ a q, f p = .ok (a, q) → p < q ∧ q ≤ L) ∧ (∀ q c, f p = .error (q, c) → p ≤ q ∧ q ≤ L)
/-- what f finds up to e, g finds -/
def Cu {α : Type} (e : Nat) (f g : Nat → Except JErr (α × Nat)) : Prop :=
  ∀ p, p ≤ e → (∀ a q, f p = .ok (a, q) → q ≤ e → g p = .ok (a, q)) ∧ (f p = .error (e, 40) → g p = .error (e, 40))

theorem loop_mo {en : UInt8} {step : JSt → Nat → Except JErr (JSt × Nat)} (hM : ∀ st, Mo s.length (step st)) : ∀ (n : Nat) (st : JSt), Mo s.length (jLoop s en step n st)
  | 0, st => fun p hp => ⟨fun a q h => (by cases h), fun q c h => (by injection h with h; injection h with h h'; omega)⟩
  | n + 1, st => fun p hp => by
    unfold jLoop
    cases e0 : step st p with
    | error x =>
      refine ⟨fun a q h => (by cases h), fun q c h => ?_⟩
      injection h with h
      subst h
      exact (hM st p hp).2 q c e0
    | ok y =>
      obtain ⟨st', q1⟩ := y
      have h1 := (hM st p hp).1 st' q1 e0
      have h2 := blank_ge s q1
      have h3 := blank_len (s := s) h1.2
      simp only
      split
      · rename_i h4
        have := at_len h4
        exact ⟨fun a q h => (by injection h with h; injection h with h h'; omega), fun q c h => (by cases h)⟩
      · split
        · rename_i h4
          have := at_len h4
          have h5 := blank_ge s (jBlank s q1 + 1)
          have h6 := blank_len (s := s) (p := jBlank s q1 + 1) (by omega)
          have h7 := loop_mo (en := en) hM n st' (jBlank s (jBlank s q1 + 1)) h6
          exact ⟨fun a q h => (by have := h7.1 a q h; omega), fun q c h => (by have := h7.2 q c h; omega)⟩
        · exact ⟨fun a q h => (by cases h), fun q c h => (by injection h with h; injection h with h h'; omega)⟩

theorem loop_cut (he : e ≤ s.length) {en : UInt8} {step step' : JSt → Nat → Except JErr (JSt × Nat)} (hM : ∀ st, Mo s.length (step st)) (hC : ∀ st, Cu e (step st) (step' st)) :
    ∀ (n m : Nat) (st : JSt) (p : Nat), s.length + 1 ≤ n + p → e + 1 ≤ m + p → p ≤ e →
      (∀ a q, jLoop s en step n st p = .ok (a, q) → q ≤ e → jLoop (s.take e) en step' m st p = .ok (a, q)) ∧ (jLoop s en step n st p = .error (e, 40) → jLoop (s.take e) en step' m st p = .error (e, 40))
  | 0, m, st, p, hn, hm, hp => by omega
  | n + 1, m, st, p, hn, hm, hp => by
    obtain ⟨m, rfl⟩ : ∃ k, m = k + 1 := ⟨m - 1, by omega⟩
    unfold jLoop
    cases e0 : step st p with
    | error x =>
      refine ⟨fun a q h => (by cases h), fun h => ?_⟩
      injection h with h
      subst h
      rw [(hC st p hp).2 e0]
    | ok y =>
      obtain ⟨st', q1⟩ := y
      have h1 := (hM st p (by omega)).1 st' q1 e0
      have h2 := blank_ge s q1
      have h3 := blank_len (s := s) h1.2
      have hstep : q1 ≤ e → step' st p = .ok (st', q1) := fun h => (hC st p hp).1 st' q1 e0 h
      have hbl : q1 ≤ e → jBlank (s.take e) q1 = min e (jBlank s q1) := fun h => blank_cut h
      simp only
      split
      · rename_i h4
        have := at_len h4
        refine ⟨fun a q h hq => ?_, fun h => (by cases h)⟩
        have hh : q = jBlank s q1 + 1 := by injection h with h; injection h with h h'; exact h'.symm
        rw [hstep (by omega)]
        simp only
        rw [hbl (by omega), Nat.min_eq_right (by omega), at_lt (by omega), if_pos h4]
        exact h
      · rename_i h4
        split
        · rename_i h5
          have := at_len h5
          have h6 := blank_ge s (jBlank s q1 + 1)
          have h7 := blank_len (s := s) (p := jBlank s q1 + 1) (by omega)
          have h8 := loop_mo (en := en) hM n st' (jBlank s (jBlank s q1 + 1)) h7
          refine ⟨fun a q h hq => ?_, fun h => ?_⟩
          · have := h8.1 a q h
            rw [hstep (by omega)]
            simp only
            rw [hbl (by omega), Nat.min_eq_right (by omega), at_lt (by omega), if_neg h4, if_pos h5, blank_cut (by omega), Nat.min_eq_right (by omega)]
            exact (loop_cut he hM hC n m st' _ (by omega) (by omega) (by omega)).1 a q h hq
          · have := h8.2 e 40 h
            rw [hstep (by omega)]
            simp only
            rw [hbl (by omega), Nat.min_eq_right (by omega), at_lt (by omega), if_neg h4, if_pos h5, blank_cut (by omega), Nat.min_eq_right (by omega)]
            exact (loop_cut he hM hC n m st' _ (by omega) (by omega) (by omega)).2 h
        · refine ⟨fun a q h hq => (by cases h), fun h => ?_⟩
          have hh : jBlank s q1 = e := by injection h with h; injection h with h h'
          rw [hstep (by omega)]
          simp only
          rw [hbl (by omega), Nat.min_eq_right (by omega), at_ge (by omega), if_neg (by simp), if_neg (by simp), hh]

theorem list_mo {en : UInt8} {step : JSt → Nat → Except JErr (JSt × Nat)} (hM : ∀ st, Mo s.length (step st)) (hp : p < s.length) :
    (∀ a q, jList s en step p = .ok (a, q) → p < q ∧ q ≤ s.length) ∧ (∀ q c, jList s en step p = .error (q, c) → p < q ∧ q ≤ s.length) := by
  have h0 := blank_ge s (p + 1)
  have h1 := blank_len (s := s) (p := p + 1) (by omega)
  have h2 := loop_mo (en := en) hM (s.length + 1) ([], []) (jBlank s (p + 1)) h1
  unfold jList
  split
  · rename_i h4
    have := at_len h4
    exact ⟨fun a q h => (by injection h with h; injection h with h h'; omega), fun q c h => (by cases h)⟩
  · exact ⟨fun a q h => (by have := h2.1 a q h; omega), fun q c h => (by have := h2.2 q c h; omega)⟩

theorem list_cut (he : e ≤ s.length) {en : UInt8} {step step' : JSt → Nat → Except JErr (JSt × Nat)} (hM : ∀ st, Mo s.length (step st)) (hC : ∀ st, Cu e (step st) (step' st)) (hp : p < e) :
    (∀ a q, jList s en step p = .ok (a, q) → q ≤ e → jList (s.take e) en step' p = .ok (a, q)) ∧ (jList s en step p = .error (e, 40) → jList (s.take e) en step' p = .error (e, 40)) := by
  have h0 := blank_ge s (p + 1)
  have h1 := blank_len (s := s) (p := p + 1) (by omega)
  have h2 := loop_mo (en := en) hM (s.length + 1) ([], []) (jBlank s (p + 1)) h1
  have h3 := fun h => loop_cut he (en := en) hM hC (s.length + 1) ((s.take e).length + 1) ([], []) (jBlank s (p + 1)) (by omega) (by simp; omega) h
  have h4 := blank_cut (s := s) (e := e) (p := p + 1) (by omega)
  unfold jList
  split
  · rename_i h5
    refine ⟨fun a q h hq => ?_, fun h => (by cases h)⟩
    have hh : q = jBlank s (p + 1) + 1 := by injection h with h; injection h with h h'; exact h'.symm
    rw [h4, Nat.min_eq_right (by omega), at_lt (by omega), if_pos h5]
    exact h
  · rename_i h5
    have h6 : jBlank s (p + 1) ≤ e → ¬ (s.take e)[jBlank s (p + 1)]? = some en := by
      intro h
      rcases Nat.lt_or_ge (jBlank s (p + 1)) e with h7 | h7
      · rw [at_lt h7]; exact h5
      · rw [at_ge h7]; simp
    refine ⟨fun a q h hq => ?_, fun h => ?_⟩
    · have h7 := h2.1 a q h
      rw [h4, Nat.min_eq_right (by omega), if_neg (h6 (by omega))]
      exact (h3 (by omega)).1 a q h hq
    · have h7 := h2.2 e 40 h
      rw [h4, Nat.min_eq_right (by omega), if_neg (h6 (by omega))]
      exact (h3 (by omega)).2 h

theorem stepA_mo {kid : Nat → Except JErr (JV × Nat)} (hM : Mo s.length kid) (st : JSt) : Mo s.length (stepA kid st) := fun p hp => by
  unfold stepA
  cases e0 : kid p with
  | error x =>
    refine ⟨fun a q h => (by cases h), fun q c h => ?_⟩
    injection h with h
    subst h
    exact (hM p hp).2 q c e0
  | ok y =>
    obtain ⟨v, q1⟩ := y
    have h1 := (hM p hp).1 v q1 e0
    exact ⟨fun a q h => (by injection h with h; injection h with h h'; omega), fun q c h => (by cases h)⟩

theorem stepA_cut {kid kid' : Nat → Except JErr (JV × Nat)} (hC : Cu e kid kid') (st : JSt) : Cu e (stepA kid st) (stepA kid' st) := fun p hp => by
  unfold stepA
  cases e0 : kid p with
  | error x =>
    refine ⟨fun a q h => (by cases h), fun h => ?_⟩
    injection h with h
    subst h
    rw [(hC p hp).2 e0]
  | ok y =>
    obtain ⟨v, q1⟩ := y
    refine ⟨fun a q h hq => ?_, fun h => (by cases h)⟩
    have hh : q = q1 := by injection h with h; injection h with h h'; exact h'.symm
    rw [(hC p hp).1 v q1 e0 (by omega)]
    exact h

theorem stepO_mo {kid : Nat → Except JErr (JV × Nat)} (hM : Mo s.length kid) (st : JSt) : Mo s.length (stepO s kid st) := fun p hp => by
  unfold stepO
  cases e0 : jText s p with
  | error x => exact ⟨fun a q h => (by cases h), fun q c h => (by injection h with h; injection h with h h'; have := txt_er e0; omega)⟩
  | ok y =>
    obtain ⟨nm, q1⟩ := y
    have h1 := txt_ok e0
    have h2 := blank_ge s q1
    have h3 := blank_len (s := s) h1.2
    simp only
    split
    · exact ⟨fun a q h => (by cases h), fun q c h => (by injection h with h; injection h with h h'; omega)⟩
    · split
      · rename_i h4
        have h5 := at_len h4
        have h6 := blank_ge s (jBlank s q1 + 1)
        have h7 := blank_len (s := s) (p := jBlank s q1 + 1) (by omega)
        cases e1 : kid (jBlank s (jBlank s q1 + 1)) with
        | error x =>
          refine ⟨fun a q h => (by cases h), fun q c h => ?_⟩
          injection h with h
          subst h
          have := (hM _ h7).2 q c e1
          omega
        | ok y =>
          obtain ⟨v, q2⟩ := y
          have := (hM _ h7).1 v q2 e1
          exact ⟨fun a q h => (by injection h with h; injection h with h h'; omega), fun q c h => (by cases h)⟩
      · exact ⟨fun a q h => (by cases h), fun q c h => (by injection h with h; injection h with h h'; omega)⟩

theorem stepO_cut (he : e ≤ s.length) {kid kid' : Nat → Except JErr (JV × Nat)} (hM : Mo s.length kid) (hC : Cu e kid kid') (st : JSt) : Cu e (stepO s kid st) (stepO (s.take e) kid' st) := fun p hp => by
  unfold stepO
  cases e0 : jText s p with
  | error x =>
    refine ⟨fun a q h => (by cases h), fun h => ?_⟩
    have hh : x = e := by injection h with h; injection h with h h'
    subst hh
    rw [txt_cut_er he hp e0]
  | ok y =>
    obtain ⟨nm, q1⟩ := y
    have h1 := txt_ok e0
    have h2 := blank_ge s q1
    have h3 := blank_len (s := s) h1.2
    have ht : q1 ≤ e → jText (s.take e) p = .ok (nm, q1) := fun h => txt_cut_ok he e0 h
    have hbl : q1 ≤ e → jBlank (s.take e) q1 = min e (jBlank s q1) := fun h => blank_cut h
    simp only
    split
    · refine ⟨fun a q h => (by cases h), fun h => ?_⟩
      injection h with h
      injection h with h h'
      exact absurd h' (by decide)
    · rename_i hc
      split
      · rename_i h4
        have h5 := at_len h4
        have h6 := blank_ge s (jBlank s q1 + 1)
        have h7 := blank_len (s := s) (p := jBlank s q1 + 1) (by omega)
        cases e1 : kid (jBlank s (jBlank s q1 + 1)) with
        | error x =>
          refine ⟨fun a q h => (by cases h), fun h => ?_⟩
          injection h with h
          subst h
          have := (hM _ h7).2 e 40 e1
          rw [ht (by omega)]
          simp only
          rw [if_neg hc, hbl (by omega), Nat.min_eq_right (by omega), at_lt (by omega), if_pos h4, blank_cut (by omega), Nat.min_eq_right (by omega), (hC _ (by omega)).2 e1]
        | ok y =>
          obtain ⟨v, q2⟩ := y
          have := (hM _ h7).1 v q2 e1
          refine ⟨fun a q h hq => ?_, fun h => (by cases h)⟩
          have hh : q = q2 := by injection h with h; injection h with h h'; exact h'.symm
          rw [ht (by omega)]
          simp only
          rw [if_neg hc, hbl (by omega), Nat.min_eq_right (by omega), at_lt (by omega), if_pos h4, blank_cut (by omega), Nat.min_eq_right (by omega), (hC _ (by omega)).1 v q2 e1 (by omega)]
          exact h
      · refine ⟨fun a q h => (by cases h), fun h => ?_⟩
        have hh : jBlank s q1 = e := by injection h with h; injection h with h h'
        rw [ht (by omega)]
        simp only
        rw [if_neg hc, hbl (by omega), Nat.min_eq_right (by omega), at_ge (by omega), if_neg (by simp), hh]

theorem scal_mo : Mo s.length (fun p => synE (jScal s p)) := fun p hp => by
  dsimp only
  cases e0 : jScal s p with
  | error x =>
    have := scal_er e0
    exact ⟨fun a q h => (by cases h), fun q c h => (by injection h with h; injection h with h h'; omega)⟩
  | ok y =>
    obtain ⟨v, q1⟩ := y
    have := scal_ok e0
    exact ⟨fun a q h => (by injection h with h; injection h with h h'; omega), fun q c h => (by cases h)⟩

theorem scal_cut (he : e ≤ s.length) : Cu e (fun p => synE (jScal s p)) (fun p => synE (jScal (s.take e) p)) := fun p hp => by
  dsimp only
  cases e0 : jScal s p with
  | error x =>
    refine ⟨fun a q h => (by cases h), fun h => ?_⟩
    have hh : x = e := by injection h with h; injection h with h h'
    subst hh
    rw [scal_cut_er he hp e0]
    rfl
  | ok y =>
    obtain ⟨v, q1⟩ := y
    refine ⟨fun a q h hq => ?_, fun h => (by cases h)⟩
    have hh : v = a ∧ q1 = q := by injection h with h; injection h with h h'; exact ⟨h, h'⟩
    obtain ⟨rfl, rfl⟩ := hh
    rw [scal_cut_ok he hp e0 hq]
    rfl

theorem val_mo : ∀ n, Mo s.length (jVal s n)
  | 0 => fun p hp => by
    unfold jVal
    split
    · exact ⟨fun a q h => (by cases h), fun q c h => (by injection h with h; injection h with h h'; omega)⟩
    · exact scal_mo p hp
  | n + 1 => fun p hp => by
    have ih := val_mo n
    unfold jVal
    split
    · rename_i h1
      have h2 := list_mo (en := 93) (fun st => stepA_mo ih st) (at_len h1)
      cases e0 : jList s 93 (stepA (jVal s n)) p with
      | error x =>
        refine ⟨fun a q h => (by cases h), fun q c h => ?_⟩
        injection h with h
        subst h
        have := h2.2 q c e0
        omega
      | ok y =>
        obtain ⟨st, q1⟩ := y
        have := h2.1 st q1 e0
        exact ⟨fun a q h => (by injection h with h; injection h with h h'; omega), fun q c h => (by cases h)⟩
    · split
      · rename_i h1
        have h2 := list_mo (en := 125) (fun st => stepO_mo ih st) (at_len h1)
        cases e0 : jList s 125 (stepO s (jVal s n)) p with
        | error x =>
          refine ⟨fun a q h => (by cases h), fun q c h => ?_⟩
          injection h with h
          subst h
          have := h2.2 q c e0
          omega
        | ok y =>
          obtain ⟨st, q1⟩ := y
          have := h2.1 st q1 e0
          exact ⟨fun a q h => (by injection h with h; injection h with h h'; omega), fun q c h => (by cases h)⟩
      · exact scal_mo p hp

theorem val_cut (he : e ≤ s.length) : ∀ n, Cu e (jVal s n) (jVal (s.take e) n)
  | 0 => fun p hp => by
    have h0 := scal_cut he p hp
    have h1 := scal_mo (s := s) p (by omega)
    dsimp only at h0 h1
    unfold jVal
    rcases Nat.lt_or_ge p e with h2 | h2
    · rw [at_lt h2]
      split
      · rename_i h3
        refine ⟨fun a q h => (by cases h), fun h => ?_⟩
        injection h with h
        injection h with h h'
        omega
      · exact h0
    · have hn : (s.take e)[p]? = none := at_ge h2
      rw [hn]
      rw [if_neg (c := (none : Option UInt8) = some 91 ∨ none = some 123) (by simp)]
      split
      · refine ⟨fun a q h => (by cases h), fun h => ?_⟩
        injection h with h
        injection h with h h'
        exact absurd h' (by decide)
      · exact h0
  | n + 1 => fun p hp => by
    have ih := val_cut he n
    have hm := val_mo (s := s) n
    have h0 := scal_cut he p hp
    have hmo := val_mo (s := s) (n + 1) p (by omega)
    rcases Nat.lt_or_ge p e with h2 | h2
    · unfold jVal
      rw [at_lt h2]
      split
      · rename_i h1
        have h3 := list_cut he (en := 93) (fun st => stepA_mo hm st) (fun st => stepA_cut ih st) h2
        cases e0 : jList s 93 (stepA (jVal s n)) p with
        | error x =>
          refine ⟨fun a q h => (by cases h), fun h => ?_⟩
          injection h with h
          subst h
          rw [h3.2 e0]
        | ok y =>
          obtain ⟨st, q1⟩ := y
          refine ⟨fun a q h hq => ?_, fun h => (by cases h)⟩
          have hh : q = q1 := by injection h with h; injection h with h h'; exact h'.symm
          rw [h3.1 st q1 e0 (by omega)]
          exact h
      · split
        · rename_i h1
          have h3 := list_cut he (en := 125) (fun st => stepO_mo hm st) (fun st => stepO_cut he hm ih st) h2
          cases e0 : jList s 125 (stepO s (jVal s n)) p with
          | error x =>
            refine ⟨fun a q h => (by cases h), fun h => ?_⟩
            injection h with h
            subst h
            rw [h3.2 e0]
          | ok y =>
            obtain ⟨st, q1⟩ := y
            refine ⟨fun a q h hq => ?_, fun h => (by cases h)⟩
            have hh : q = q1 := by injection h with h; injection h with h h'; exact h'.symm
            rw [h3.1 st q1 e0 (by omega)]
            exact h
        · exact h0
    · have hpe : p = e := by omega
      have hn : (s.take e)[p]? = none := at_ge h2
      refine ⟨fun a q h hq => (by have := hmo.1 a q h; omega), fun h => ?_⟩
      have hx : jScal (s.take e) p = .error e := by
        unfold jScal
        rw [hn, if_neg (by simp), if_neg (by simp), if_neg (by simp), if_neg (by simp), num_end hn, hpe]
      unfold jVal
      rw [hn, if_neg (by simp), if_neg (by simp), hx]
      rfl

/-- a wrong byte's place is within the text; what stands ahead of it is whole, or ends too early -/
theorem read_prefix (s : List UInt8) (p : Nat) (h : jRead s = .error (p, 40)) : p ≤ s.length ∧ ((∃ v, jRead (s.take p) = .ok v) ∨ jRead (s.take p) = .error (p, 40)) := by
  have h0 := blank_len (s := s) (Nat.zero_le _)
  have hm := val_mo (s := s) 64 (jBlank s 0) h0
  unfold jRead at h
  split at h
  · injection h with h
    injection h with h h'
    exact absurd h' (by decide)
  · rename_i hl
    cases e0 : jVal s 64 (jBlank s 0) with
    | error x =>
      rw [e0] at h
      injection h with h
      subst h
      have h1 := hm.2 p 40 e0
      refine ⟨h1.2, .inr ?_⟩
      unfold jRead
      rw [if_neg (by simp; omega), blank_cut (Nat.zero_le _), Nat.min_eq_right (by omega), (val_cut h1.2 64 _ (by omega)).2 e0]
    | ok y =>
      obtain ⟨v, q1⟩ := y
      rw [e0] at h
      have h1 := hm.1 v q1 e0
      have h2 := blank_ge s q1
      have h3 := blank_len (s := s) h1.2
      simp only at h
      split at h
      · injection h with h
        injection h with h h'
        subst h
        refine ⟨h3, .inl ⟨v, ?_⟩⟩
        unfold jRead
        rw [if_neg (by simp; omega), blank_cut (Nat.zero_le _), Nat.min_eq_right (by omega), (val_cut h3 64 _ (by omega)).1 v q1 e0 (by omega)]
        simp only
        rw [blank_cut (by omega), Nat.min_eq_right (by omega), if_neg (by simp; omega)]
      · cases h
end Go.Proofs.YtghiboknhjnlkaaDoor
