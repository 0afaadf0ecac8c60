/- Which errors a reader tells. No program. -/
import Derived.Test.YtghiboknhjnlkaaDoorJsonP
set_option linter.unusedVariables false
set_option linter.unusedSimpArgs false
set_option linter.unnecessarySimpa false
namespace Go.Proofs.YtghiboknhjnlkaaDoor

variable {s : List UInt8}

def Cd {α : Type} (f : Nat → Except JErr (α × Nat)) : Prop := ∀ p q c, f p = .error (q, c) → c = 40 ∨ c = 41 ∨ c = 42

theorem loop_cd {en : UInt8} {step : JSt → Nat → Except JErr (JSt × Nat)} (hM : ∀ st, Cd (step st)) : ∀ (n : Nat) (st : JSt), Cd (jLoop s en step n st)
  | 0, st => fun p q c h => by injection h with h; injection h with h h'; omega
  | n + 1, st => fun p q c h => by
    unfold jLoop at h
    cases e0 : step st p with
    | error x => rw [e0] at h; injection h with h; subst h; exact hM st p q c e0
    | ok y =>
      obtain ⟨st', q1⟩ := y
      rw [e0] at h
      simp only at h
      split at h
      · cases h
      · split at h
        · exact loop_cd hM n _ _ q c h
        · injection h with h; injection h with h h'; omega

theorem list_cd {en : UInt8} {step : JSt → Nat → Except JErr (JSt × Nat)} (hM : ∀ st, Cd (step st)) : Cd (jList s en step) := fun p q c h => by
  unfold jList at h
  split at h
  · cases h
  · exact loop_cd hM _ _ _ q c h

theorem scal_cd : Cd (fun p => synE (jScal s p)) := fun p q c h => by
  dsimp only at h
  cases e0 : jScal s p with
  | error x => rw [e0] at h; injection h with h; injection h with h h'; omega
  | ok y => rw [e0] at h; cases h

theorem val_cd : ∀ n, Cd (jVal s n)
  | 0 => fun p q c h => by
    unfold jVal at h
    split at h
    · injection h with h; injection h with h h'; omega
    · exact scal_cd p q c h
  | n + 1 => fun p q c h => by
    have ih := val_cd n
    unfold jVal at h
    split at h
    · cases e0 : jList s 93 (stepA (jVal s n)) p with
      | error x =>
        rw [e0] at h
        injection h with h
        subst h
        refine list_cd (fun st p q c h => ?_) p q c e0
        unfold stepA at h
        cases e1 : jVal s n p with
        | error x => rw [e1] at h; injection h with h; subst h; exact ih p q c e1
        | ok y => rw [e1] at h; cases h
      | ok y => rw [e0] at h; cases h
    · split at h
      · cases e0 : jList s 125 (stepO s (jVal s n)) p with
        | error x =>
          rw [e0] at h
          injection h with h
          subst h
          refine list_cd (fun st p q c h => ?_) p q c e0
          unfold stepO at h
          cases e2 : jText s p with
          | error x => rw [e2] at h; injection h with h; injection h with h h'; omega
          | ok y =>
            rw [e2] at h
            simp only at h
            split at h
            · injection h with h; injection h with h h'; omega
            · split at h
              · split at h
                · rename_i e1; injection h with h; subst h; exact ih _ q c e1
                · cases h
              · injection h with h; injection h with h h'; omega
        | ok y => rw [e0] at h; cases h
      · exact scal_cd p q c h

theorem read_cd {q : Nat} {c : Int} (h : jRead s = .error (q, c)) : c = 10 ∨ c = 40 ∨ c = 41 ∨ c = 42 := by
  unfold jRead at h
  split at h
  · injection h with h; injection h with h h'; omega
  · cases e0 : jVal s 64 (jBlank s 0) with
    | error x =>
      rw [e0] at h
      injection h with h
      subst h
      have := val_cd 64 _ q c e0
      omega
    | ok y =>
      obtain ⟨v, q1⟩ := y
      rw [e0] at h
      simp only at h
      split at h
      · injection h with h; injection h with h h'; omega
      · cases h
end Go.Proofs.YtghiboknhjnlkaaDoor
