/- Arrays or objects within each other are read up to 64 of them. No program. -/
import Derived.Test.YtghiboknhjnlkaaDoorJPx
set_option linter.unusedVariables false
set_option linter.unusedSimpArgs false
set_option linter.unnecessarySimpa false
namespace Go.Proofs.YtghiboknhjnlkaaDoor
open Go.Lib (decodeL encodeRune)

variable {s : List UInt8}

theorem at_drop {p : Nat} {c : UInt8} {X : List UInt8} (h : s.drop p = c :: X) : s[p]? = some c := by
  rw [← List.head?_drop, h]; rfl
theorem dr_drop {p : Nat} {c : UInt8} {X : List UInt8} (h : s.drop p = c :: X) : s.drop (p + 1) = X := by
  have := congrArg (List.drop 1) h
  rw [List.drop_drop] at this
  simpa using this
theorem nb_blank {p : Nat} {c : UInt8} (h : s[p]? = some c) (hc : isBl c = false) : jBlank s p = p := by
  unfold jBlank
  have h2 : s.drop p = c :: s.drop (p + 1) := by
    rw [List.drop_eq_getElem_cons (at_len h)]
    congr 1
    have := List.getElem?_eq_getElem (at_len h)
    rw [h] at this
    exact (Option.some.inj this).symm
  rw [h2, List.takeWhile_cons, if_neg (by simp [hc])]
  rfl
theorem jhas_no {p : Nat} {set : List UInt8} (h : ∀ c, s[p]? = some c → set.contains c = false) : jHas s p set = false := by
  unfold jHas
  cases e : s[p]? with
  | none => rfl
  | some c => exact h c e

/-- an end of an array or object -/
abbrev IsEnd (c : UInt8) : Prop := c = 93 ∨ c = 125

theorem one_read {p : Nat} {rest : List UInt8} (h : s.drop p = 49 :: rest) (hr : ∀ c, rest.head? = some c → IsEnd c) : synE (jScal s p) = .ok (.mk 4 [49] [] [] p, p + 1) := by
  have h0 := at_drop h
  have h1 := dr_drop h
  have hc : ∀ c, s[p + 1]? = some c → IsEnd c := fun c hc => hr c (by rw [← h1, List.head?_drop]; exact hc)
  have hn : ∀ set : List UInt8, set.contains 93 = false → set.contains 125 = false → jHas s (p + 1) set = false := fun set a b => jhas_no fun c h => by
    rcases hc c h with rfl | rfl
    · exact a
    · exact b
  have hd : jDigs s p = .ok (p + 1) := by
    unfold jDigs
    have : ((s.drop p).takeWhile isDg).length = 1 := by
      rw [h, List.takeWhile_cons, if_pos (by decide)]
      cases rest with
      | nil => rfl
      | cons c X =>
        rw [List.takeWhile_cons, if_neg]
        · rfl
        · rcases hr c rfl with rfl | rfl <;> decide
    rw [this, if_neg (by decide)]
  have hnum : jNum s p = .ok (p + 1) := by
    unfold jNum
    rw [jhas_no (set := [45]) (fun c hc => by rw [h0] at hc; injection hc with hc; subst hc; decide), if_neg (by simp)]
    unfold jNum0
    rw [jhas_no (set := [48]) (fun c hc => by rw [h0] at hc; injection hc with hc; subst hc; decide), if_neg (by simp), hd]
    simp only
    unfold jNum1
    rw [hn [46] (by decide) (by decide), if_neg (by simp)]
    simp only
    unfold jNum2
    rw [hn [101, 69] (by decide) (by decide), if_neg (by simp)]
  unfold jScal
  rw [h0, if_neg (by decide), if_neg (by decide), if_neg (by decide), if_neg (by decide), hnum]
  simp only [synE]
  rw [h, show p + 1 - p = 1 by omega]
  rfl

/-- the beginning and the end -/
def dpB (o : Bool) : List UInt8 := if o then [123, 34, 97, 34, 58] else [91]
def dpE (o : Bool) : UInt8 := if o then 125 else 93
def dpL (o : Bool) : Nat := if o then 5 else 1

def dpText (o : Bool) (k : Nat) (rest : List UInt8) : List UInt8 := (List.replicate k (dpB o)).flatten ++ 49 :: (List.replicate k (dpE o) ++ rest)

theorem dp_succ (o : Bool) (k : Nat) (rest : List UInt8) : dpText o (k + 1) rest = dpB o ++ dpText o k (dpE o :: rest) := by
  unfold dpText
  rw [List.replicate_succ, List.flatten_cons, List.append_assoc]
  congr 3
  rw [List.replicate_succ', List.append_assoc]
  rfl

theorem dp_head (o : Bool) (k : Nat) (rest : List UInt8) : ∃ c X, dpText o k rest = c :: X ∧ isBl c = false ∧ c ≠ 93 ∧ c ≠ 125 := by
  cases k with
  | zero => exact ⟨49, _, rfl, by decide, by decide, by decide⟩
  | succ k =>
    rw [dp_succ]
    cases o
    · exact ⟨91, _, rfl, by decide, by decide, by decide⟩
    · exact ⟨123, _, rfl, by decide, by decide, by decide⟩

theorem txt_a {p : Nat} {X : List UInt8} (h : s.drop p = 34 :: 97 :: 34 :: X) : jText s p = .ok ([97], p + 3) := by
  have h0 := at_drop h
  have h1' := dr_drop h
  have h1 := at_drop h1'
  have h2' := dr_drop h1'
  have h2 := at_drop h2'
  have hl := at_len h2
  obtain ⟨f, hf⟩ : ∃ f, s.length = f + 2 := ⟨s.length - 2, by omega⟩
  unfold jText
  rw [if_pos h0, hf]
  unfold jStr
  rw [h1]
  simp only
  have hd : decodeL (s.drop (p + 1)) = (97, 1) := by rw [h1', Lib.decodeL_ascii _ _ (by decide)]; rfl
  rw [if_neg (by decide), if_neg (by decide), if_neg (by decide), hd, if_neg (by decide), h1']
  unfold jStr
  rw [h2]
  simp only
  rw [if_pos trivial]
  rfl

/-- one round of the list -/
theorem loop_one {en : UInt8} {step : JSt → Nat → Except JErr (JSt × Nat)} {st st' : JSt} {n p q : Nat} (h : step st p = .ok (st', q)) (hq : s[q]? = some en) (hb : isBl en = false) : jLoop s en step (n + 1) st p = .ok (st', q + 1) := by
  unfold jLoop
  rw [h]
  simp only
  rw [nb_blank hq hb, if_pos hq]
theorem loop_bad {en : UInt8} {step : JSt → Nat → Except JErr (JSt × Nat)} {st : JSt} {n p : Nat} {x : JErr} (h : step st p = .error x) : jLoop s en step (n + 1) st p = .error x := by
  unfold jLoop
  rw [h]

theorem dp_ok (o : Bool) : ∀ (k m p : Nat) (rest : List UInt8), s.drop p = dpText o k rest → (∀ c, rest.head? = some c → IsEnd c) → k ≤ m →
    ∃ v, jVal s m p = .ok (v, p + k * dpL o + 1 + k) ∧ s.drop (p + k * dpL o + 1 + k) = rest ∧ (0 < k → v.kids.length = 1)
  | 0, m, p, rest, h, hr, hk => by
    have h' : s.drop p = 49 :: rest := h
    have h0 := at_drop h'
    refine ⟨.mk 4 [49] [] [] p, ?_, by rw [Nat.zero_mul]; exact dr_drop h', fun h => by omega⟩
    have h1 := one_read h' hr
    cases m with
    | zero => unfold jVal; rw [h0, if_neg (by decide), h1, Nat.zero_mul]
    | succ m => unfold jVal; rw [h0, if_neg (by decide), if_neg (by decide), h1, Nat.zero_mul]
  | k + 1, m, p, rest, h, hr, hk => by
    obtain ⟨m, rfl⟩ : ∃ m', m = m' + 1 := ⟨m - 1, by omega⟩
    rw [dp_succ] at h
    obtain ⟨c, X, hX, hb, h93, h125⟩ := dp_head o k (dpE o :: rest)
    have hend : ∀ c, (dpE o :: rest).head? = some c → IsEnd c := fun c hc => by
      have : dpE o = c := Option.some.inj hc
      subst this
      cases o
      · exact .inl rfl
      · exact .inr rfl
    cases o
    · have h' : s.drop p = 91 :: dpText false k (93 :: rest) := h
      have h0 := at_drop h'
      have h1 := dr_drop h'
      obtain ⟨v, hv, hd, -⟩ := dp_ok false k m (p + 1) _ h1 hend (by omega)
      have hc := at_drop (h1.trans hX)
      have hd1 : s.drop (p + 1 + k * dpL false + 1 + k) = 93 :: rest := hd
      refine ⟨.mk 6 [] [] [v] p, ?_, ?_, fun _ => rfl⟩
      · unfold jVal
        rw [if_pos h0]
        unfold jList
        rw [nb_blank hc hb, hc, if_neg (by intro e; exact h93 (Option.some.inj e)), loop_one (st' := ([], [v])) (q := p + 1 + k * dpL false + 1 + k) (by unfold stepA; rw [hv]; rfl) (at_drop hd1) (by decide)]
        simp only
        rw [show p + 1 + k * dpL false + 1 + k + 1 = p + (k + 1) * dpL false + 1 + (k + 1) by unfold dpL; simp; omega]
      · have := dr_drop hd1
        rwa [show p + 1 + k * dpL false + 1 + k + 1 = p + (k + 1) * dpL false + 1 + (k + 1) by unfold dpL; simp; omega] at this
    · have h' : s.drop p = 123 :: 34 :: 97 :: 34 :: 58 :: dpText true k (125 :: rest) := h
      have h0 := at_drop h'
      have h1 := dr_drop h'
      have h2 := dr_drop h1
      have h3 := dr_drop h2
      have h4 := dr_drop h3
      have h5 := dr_drop h4
      have h5' : s.drop (p + 5) = dpText true k (125 :: rest) := h5
      obtain ⟨v, hv, hd, -⟩ := dp_ok true k m (p + 5) _ h5' hend (by omega)
      have hc := at_drop (h5'.trans hX)
      have hd1 : s.drop (p + 5 + k * dpL true + 1 + k) = 125 :: rest := hd
      refine ⟨.mk 7 [] [[97]] [v] p, ?_, ?_, fun _ => rfl⟩
      · unfold jVal
        rw [h0, if_neg (by decide), if_pos rfl]
        unfold jList
        rw [nb_blank (at_drop h1) (by decide), at_drop h1, if_neg (by decide), loop_one (st' := ([[97]], [v])) (q := p + 5 + k * dpL true + 1 + k) (by
          unfold stepO
          rw [txt_a h1]
          simp only
          rw [if_neg (by decide), nb_blank (p := p + 1 + 3) (at_drop h4) (by decide), show p + 1 + 3 = p + 1 + 1 + 1 + 1 by omega, at_drop h4, if_pos rfl, show p + 1 + 1 + 1 + 1 + 1 = p + 5 by omega, nb_blank hc hb, hv]
          rfl) (at_drop hd1) (by decide)]
        simp only
        rw [show p + 5 + k * dpL true + 1 + k + 1 = p + (k + 1) * dpL true + 1 + (k + 1) by unfold dpL; simp; omega]
      · have := dr_drop hd1
        rwa [show p + 5 + k * dpL true + 1 + k + 1 = p + (k + 1) * dpL true + 1 + (k + 1) by unfold dpL; simp; omega] at this

theorem dp_bad (o : Bool) : ∀ (m k p : Nat) (rest : List UInt8), s.drop p = dpText o k rest → m < k → jVal s m p = .error (p + m * dpL o, 41)
  | m, 0, p, rest, h, hk => by omega
  | 0, k + 1, p, rest, h, hk => by
    rw [dp_succ] at h
    unfold jVal
    cases o
    · rw [at_drop (show s.drop p = 91 :: _ from h), if_pos (.inl rfl), Nat.zero_mul]; rfl
    · rw [at_drop (show s.drop p = 123 :: _ from h), if_pos (.inr rfl), Nat.zero_mul]; rfl
  | m + 1, k + 1, p, rest, h, hk => by
    rw [dp_succ] at h
    obtain ⟨c, X, hX, hb, h93, h125⟩ := dp_head o k (dpE o :: rest)
    cases o
    · have h' : s.drop p = 91 :: dpText false k (93 :: rest) := h
      have h0 := at_drop h'
      have h1 := dr_drop h'
      have hv := dp_bad false m k (p + 1) _ h1 (by omega)
      have hc := at_drop (h1.trans hX)
      unfold jVal
      rw [if_pos h0]
      unfold jList
      rw [nb_blank hc hb, hc, if_neg (by intro e; exact h93 (Option.some.inj e)), loop_bad (x := (p + 1 + m * dpL false, 41)) (by unfold stepA; rw [hv])]
      simp only
      rw [show p + 1 + m * dpL false = p + (m + 1) * dpL false by unfold dpL; simp; omega]
    · have h' : s.drop p = 123 :: 34 :: 97 :: 34 :: 58 :: dpText true k (125 :: rest) := h
      have h0 := at_drop h'
      have h1 := dr_drop h'
      have h2 := dr_drop h1
      have h3 := dr_drop h2
      have h4 := dr_drop h3
      have h5 := dr_drop h4
      have h5' : s.drop (p + 5) = dpText true k (125 :: rest) := h5
      have hv := dp_bad true m k (p + 5) _ h5' (by omega)
      have hc := at_drop (h5'.trans hX)
      unfold jVal
      rw [h0, if_neg (by decide), if_pos rfl]
      unfold jList
      rw [nb_blank (at_drop h1) (by decide), at_drop h1, if_neg (by decide), loop_bad (x := (p + 5 + m * dpL true, 41)) (by
        unfold stepO
        rw [txt_a h1]
        simp only
        rw [if_neg (by decide), nb_blank (p := p + 1 + 3) (at_drop h4) (by decide), show p + 1 + 3 = p + 1 + 1 + 1 + 1 by omega, at_drop h4, if_pos rfl, show p + 1 + 1 + 1 + 1 + 1 = p + 5 by omega, nb_blank hc hb, hv])]
      simp only
      rw [show p + 5 + m * dpL true = p + (m + 1) * dpL true by unfold dpL; simp; omega]

theorem dp_len (o : Bool) : ∀ (k : Nat) (rest : List UInt8), (dpText o k rest).length = k * dpL o + 1 + k + rest.length
  | 0, rest => by unfold dpText; simp; omega
  | k + 1, rest => by
    rw [dp_succ, List.length_append, dp_len o k]
    cases o <;> simp [dpB, dpL] <;> omega

/-- the whole text -/
theorem deep_ok (o : Bool) (n : Nat) (h0 : 0 < n) (h : n ≤ 64) : ∃ v, jRead (dpText o n []) = .ok v ∧ v.kids.length = 1 := by
  have hl := dp_len o n []
  have hd : dpL o ≤ 5 := by cases o <;> decide
  obtain ⟨c, X, hX, hb, -, -⟩ := dp_head o n []
  obtain ⟨v, hv, hr, hk⟩ := dp_ok (s := dpText o n []) o n 64 0 [] rfl (fun c h => by cases h) h
  have hle : n * dpL o ≤ 64 * 5 := Nat.mul_le_mul h hd
  have hb0 : jBlank (dpText o n []) 0 = 0 := nb_blank (c := c) (by rw [hX]; rfl) hb
  refine ⟨v, ?_, hk h0⟩
  unfold jRead
  simp only [List.length_nil] at hl
  rw [if_neg (by omega), hb0, hv]
  simp only
  have h2 := blank_ge (dpText o n []) (0 + n * dpL o + 1 + n)
  rw [if_neg (by omega)]

theorem deep_bad (o : Bool) (n : Nat) (h : 64 < n) (hn : n ≤ 500) : jRead (dpText o n []) = .error (64 * dpL o, 41) := by
  have hl := dp_len o n []
  have hd : dpL o ≤ 5 := by cases o <;> decide
  obtain ⟨c, X, hX, hb, -, -⟩ := dp_head o n []
  have hv := dp_bad (s := dpText o n []) o 64 n 0 [] rfl h
  have hle : n * dpL o ≤ 500 * 5 := Nat.mul_le_mul hn hd
  have hb0 : jBlank (dpText o n []) 0 = 0 := nb_blank (c := c) (by rw [hX]; rfl) hb
  unfold jRead
  simp only [List.length_nil] at hl
  rw [if_neg (by omega), hb0, hv]
  simp only [Nat.zero_add]
end Go.Proofs.YtghiboknhjnlkaaDoor
