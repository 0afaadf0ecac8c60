/- What is read, is good: its texts are characters, its numbers are numbers, its names differ; and how long it is when it is shown. No program. -/
import Derived.Test.YtghiboknhjnlkaaDoorJPx
set_option linter.unusedVariables false
set_option linter.unusedSimpArgs false
set_option linter.unnecessarySimpa false
namespace Go.Proofs.YtghiboknhjnlkaaDoor
open Go.Lib (decodeL encodeRune)

def flat (rs : List Nat) : List UInt8 := rs.flatMap fun r : Nat => encodeRune (r : Int)
/-- characters of a text -/
def Chars (l : List UInt8) : Prop := ∃ rs : List Nat, (∀ r ∈ rs, Sc r) ∧ l = flat rs
def NumTok (t : List UInt8) : Prop := ∃ (s : List UInt8) (p q : Nat), jNum s p = .ok q ∧ p ≤ s.length ∧ t = (s.drop p).take (q - p)

inductive Good : Nat → JV → Prop
  | word (n : Nat) (k p : Int) : (k = 1 ∨ k = 2 ∨ k = 3) → Good n (.mk k [] [] [] p)
  | num (n : Nat) (t : List UInt8) (p : Int) : NumTok t → Good n (.mk 4 t [] [] p)
  | str (n : Nat) (t : List UInt8) (p : Int) : Chars t → Good n (.mk 5 t [] [] p)
  | arr (n : Nat) (ks : List JV) (p : Int) : (∀ v ∈ ks, Good n v) → Good (n + 1) (.mk 6 [] [] ks p)
  | obj (n : Nat) (ns : List (List UInt8)) (ks : List JV) (p : Int) : ns.length = ks.length → ns.Nodup → (∀ x ∈ ns, Chars x) → (∀ v ∈ ks, Good n v) → Good (n + 1) (.mk 7 [] ns ks p)

theorem flat_snoc (rs : List Nat) (r : Nat) : flat (rs ++ [r]) = flat rs ++ encodeRune r := by unfold flat; rw [List.flatMap_append]; simp

theorem quoteC_flat : ∀ rs : List Nat, (∀ r ∈ rs, Sc r) → quoteC (flat rs) = rs.flatMap quoteR
  | [], _ => rfl
  | r :: rs, h => by
    have h1 : flat (r :: rs) = encodeRune r ++ flat rs := by unfold flat; rw [List.flatMap_cons]
    rw [h1, quoteC_step _ (by simp [encode_ne]), decode_encode r (h r (by simp)), List.flatMap_cons]
    simp only [List.drop_left]
    rw [quoteC_flat rs fun x hx => h x (by simp [hx])]

theorem quoteR_len6 (r : Nat) : (quoteR r).length ≤ 6 := by
  have := (encodeRune_len (r : Int)).2
  unfold quoteR
  repeat' split
  all_goals simp
  all_goals omega

theorem flatR_len : ∀ rs : List Nat, (rs.flatMap quoteR).length ≤ 6 * rs.length
  | [] => by simp
  | r :: rs => by
    have := flatR_len rs
    have := quoteR_len6 r
    rw [List.flatMap_cons, List.length_append, List.length_cons]
    omega

variable {s : List UInt8}

theorem hex_lt : ∀ (n : Nat) {p v r : Nat}, jHex s n p v = .ok r → r < (v + 1) * 16 ^ n
  | 0, p, v, r, h => by injection h with h; omega
  | n + 1, p, v, r, h => by
    unfold jHex at h
    split at h
    · cases h
    · rename_i c hc
      split at h
      · rename_i hd
        have h1 := hex_lt n h
        have h2 : (v * 16 + dval c + 1) * 16 ^ n ≤ ((v + 1) * 16) * 16 ^ n := Nat.mul_le_mul_right _ (by omega)
        rw [Nat.pow_succ]
        have h3 : (v + 1) * 16 * 16 ^ n = (v + 1) * (16 ^ n * 16) := by rw [Nat.mul_assoc, Nat.mul_comm 16]
        omega
      · cases h

theorem four_lt {p r : Nat} (h : jFour s p = .ok r) : r < 65536 := by
  have := hex_lt 4 h
  omega

theorem escTo_sc : ∀ i : Fin 9, Sc (escTo.getD i.1 0).toNat := by
  intro i
  have : ∀ i : Fin 9, (escTo.getD i.1 0).toNat < 55296 := by decide
  exact .inl (this i)

theorem idx_le (l : List UInt8) (c : UInt8) : l.idxOf c ≤ l.length := List.idxOf_le_length

theorem esc_sc {p r q : Nat} (h : jEsc s p = .ok (r, q)) : Sc r := by
  unfold jEsc at h
  split at h
  · cases h
  · rename_i c hc
    split at h
    · injection h with h
      injection h with h h'
      subst h
      have hi : escFrom.idxOf c < 9 := by have := idx_le escFrom c; simp [escFrom] at this ⊢; omega
      exact escTo_sc ⟨_, hi⟩
    · split at h
      · cases h
      · cases e1 : jFour s (p + 2) with
        | error x => rw [e1] at h; cases h
        | ok v =>
          rw [e1] at h
          have hv := four_lt e1
          simp only at h
          split at h
          · rename_i h1
            injection h with h
            injection h with h h'
            subst h
            unfold Sc
            omega
          · rename_i h1
            split at h
            · cases h
            · rename_i h2
              unfold jEsc2 at h
              split at h
              · cases h
              · split at h
                · cases h
                · rename_i d hd
                  split at h
                  · cases h
                  · rename_i h3
                    injection h with h
                    injection h with h h'
                    subst h
                    unfold Sc
                    omega

theorem str_chars : ∀ (n p : Nat) (rs : List Nat) {l : List UInt8} {q : Nat}, (∀ r ∈ rs, Sc r) → p ≤ s.length → jStr s n p (flat rs) = .ok (l, q) →
    ∃ rs' : List Nat, (∀ r ∈ rs', Sc r) ∧ l = flat rs' ∧ rs'.length + p + 1 ≤ rs.length + q
  | 0, p, rs, l, q, hr, hp, h => by cases h
  | n + 1, p, rs, l, q, hr, hp, h => by
    have snoc : ∀ r, Sc r → ∀ x ∈ rs ++ [r], Sc x := by
      intro r hs x hx
      rcases List.mem_append.1 hx with h | h
      · exact hr x h
      · obtain rfl : x = r := by simpa using h
        exact hs
    unfold jStr at h
    cases e0 : s[p]? with
    | none => rw [e0] at h; cases h
    | some c =>
      have h0 := at_len e0
      rw [e0] at h
      simp only at h
      split at h
      · injection h with h
        injection h with h h'
        exact ⟨rs, hr, h.symm, by omega⟩
      · split at h
        · cases h
        · split at h
          · cases e1 : jEsc s p with
            | error x => rw [e1] at h; cases h
            | ok rq =>
              obtain ⟨r, q1⟩ := rq
              rw [e1] at h
              simp only at h
              rw [← flat_snoc] at h
              have h1 := esc_ok e1
              obtain ⟨rs', g1, g2, g3⟩ := str_chars n q1 (rs ++ [r]) (snoc r (esc_sc e1)) h1.2 h
              exact ⟨rs', g1, g2, by simp at g3; omega⟩
          · split at h
            · cases h
            · rename_i hv
              have hne : s.drop p ≠ [] := by intro e; have := congrArg List.length e; simp at this; omega
              have h1 := Lib.decodeL_width (s.drop p)
              have h2 := Lib.decodeL_le (s.drop p) hne
              rw [List.length_drop] at h2
              rw [← Lib.encode_decode _ hne hv, ← flat_snoc] at h
              obtain ⟨rs', g1, g2, g3⟩ := str_chars n _ (rs ++ [(decodeL (s.drop p)).1]) (snoc _ (decode_sc _)) (by omega) h
              exact ⟨rs', g1, g2, by simp at g3; omega⟩

theorem txt_good {p q : Nat} {l : List UInt8} (h : jText s p = .ok (l, q)) : Chars l ∧ (jQuote l).length + 6 ≤ 6 * (q - p) := by
  have h0 := txt_ok h
  unfold jText at h
  split at h
  · rename_i h1
    obtain ⟨rs, g1, rfl, g3⟩ := str_chars s.length (p + 1) [] (fun r hr => by cases hr) (at_len h1) h
    refine ⟨⟨rs, g1, rfl⟩, ?_⟩
    have := flatR_len rs
    unfold jQuote
    rw [quoteC_flat rs g1]
    simp only [List.length_cons, List.length_append, List.length_nil] at g3 ⊢
    omega
  · cases h

theorem scal_good {p q : Nat} {v : JV} (n m : Nat) (hp : p ≤ s.length) (h : jScal s p = .ok (v, q)) : Good n v ∧ (jShow m v).length ≤ 6 * (q - p) := by
  have hq := scal_ok h
  unfold jScal at h
  have hw : ∀ k : Int, (k = 1 ∨ k = 2 ∨ k = 3) → ∀ p', jShow m (.mk k [] [] [] p') = kindWord k := by
    intro k hk p'
    cases m <;> (unfold jShow; rcases hk with rfl | rfl | rfl <;> rfl)
  split at h
  · split at h
    · cases h
    · rename_i e0; injection h with h; injection h with h h'; have := word_ok _ e0; subst h; exact ⟨.word n _ _ (by omega), by rw [hw _ (by omega)]; simp [kindWord] at this ⊢; omega⟩
  split at h
  · split at h
    · cases h
    · rename_i e0; injection h with h; injection h with h h'; have := word_ok _ e0; subst h; exact ⟨.word n _ _ (by omega), by rw [hw _ (by omega)]; simp [kindWord] at this ⊢; omega⟩
  split at h
  · split at h
    · cases h
    · rename_i e0; injection h with h; injection h with h h'; have := word_ok _ e0; subst h; exact ⟨.word n _ _ (by omega), by rw [hw _ (by omega)]; simp [kindWord] at this ⊢; omega⟩
  split at h
  · split at h
    · cases h
    · rename_i e0
      injection h with h
      injection h with h h'
      have := txt_good e0
      subst h
      refine ⟨.str n _ _ this.1, ?_⟩
      have e : ∀ t p', jShow m (.mk 5 t [] [] p') = jQuote t := by intro t p'; cases m <;> (unfold jShow; rfl)
      rw [e]
      omega
  · split at h
    · cases h
    · rename_i e0
      injection h with h
      injection h with h h'
      subst h
      refine ⟨.num n _ _ ⟨s, p, _, e0, hp, rfl⟩, ?_⟩
      have e : ∀ t p', jShow m (.mk 4 t [] [] p') = t := by intro t p'; cases m <;> (unfold jShow; rfl)
      rw [e, List.length_take]
      omega

theorem loop_inv {en : UInt8} {step : JSt → Nat → Except JErr (JSt × Nat)} {I : JSt → Nat → Prop} (hM : ∀ st, Mo s.length (step st)) (hI : ∀ st p st' q, p ≤ s.length → I st p → step st p = .ok (st', q) → ∀ p', q < p' → I st' p') :
    ∀ (n : Nat) (st : JSt) (p : Nat) (st' : JSt) (q : Nat), p ≤ s.length → I st p → jLoop s en step n st p = .ok (st', q) → I st' q
  | 0, st, p, st', q, hp, h0, h => by cases h
  | n + 1, st, p, st', q, hp, h0, h => by
    unfold jLoop at h
    cases e0 : step st p with
    | error x => rw [e0] at h; cases h
    | ok y =>
      obtain ⟨st1, q1⟩ := y
      have h1 := (hM st p hp).1 st1 q1 e0
      have h2 := blank_ge s q1
      have hi := hI st p st1 q1 hp h0 e0
      rw [e0] at h
      simp only at h
      split at h
      · injection h with h
        injection h with h h'
        subst h
        exact hi q (by omega)
      · split at h
        · rename_i h4
          have := at_len h4
          have h6 := blank_len (s := s) (p := jBlank s q1 + 1) (by omega)
          have h7 := blank_ge s (jBlank s q1 + 1)
          exact loop_inv hM hI n st1 _ st' q h6 (hi _ (by omega)) h
        · cases h

theorem list_inv {en : UInt8} {step : JSt → Nat → Except JErr (JSt × Nat)} {I : JSt → Nat → Prop} (hM : ∀ st, Mo s.length (step st)) (hI : ∀ st p st' q, p ≤ s.length → I st p → step st p = .ok (st', q) → ∀ p', q < p' → I st' p')
    {p : Nat} (hp : p < s.length) (h0 : ∀ p', p < p' → I ([], []) p') {st : JSt} {q : Nat} (h : jList s en step p = .ok (st, q)) : I st q := by
  have h1 := blank_ge s (p + 1)
  have h2 := blank_len (s := s) (p := p + 1) (by omega)
  unfold jList at h
  split at h
  · injection h with h
    injection h with h h'
    subst h
    exact h0 q (by omega)
  · exact loop_inv hM hI _ _ _ st q h2 (h0 _ (by omega)) h

/-- how much the kids and names so far take when they are shown -/
def kSum (m : Nat) (st : JSt) : Nat := (st.2.map fun k => (jShow m k).length + 1).sum + (st.1.map fun x => (jQuote x).length + 1).sum

theorem kids_len (sh : JV → List UInt8) (obj : Bool) (names : List (List UInt8)) : ∀ (ks : List JV) (i : Nat),
    (showKids sh obj names i ks).length ≤ (ks.map fun k => (sh k).length + 1).sum + ((names.drop i).map fun x => (jQuote x).length + 1).sum
  | [], i => by simp [showKids]
  | k :: ks, i => by
    have ih := kids_len sh obj names ks (i + 1)
    unfold showKids
    rw [List.length_append, List.length_append, List.length_append, List.map_cons, List.sum_cons]
    have h1 : (if 0 < i then [44] else [] : List UInt8).length ≤ 1 := by split <;> simp
    by_cases hi : i < names.length
    · have hd : names.drop i = names.getD i [] :: names.drop (i + 1) := by
        rw [List.drop_eq_getElem_cons hi]
        simp [List.getD_eq_getElem?_getD, hi]
      rw [hd, List.map_cons, List.sum_cons]
      have h2 : (if obj = true ∧ i < names.length then jQuote (names.getD i []) ++ [58] else [] : List UInt8).length ≤ (jQuote (names.getD i [])).length + 1 := by split <;> simp
      omega
    · rw [List.drop_of_length_le (by omega)]
      rw [List.drop_of_length_le (by omega)] at ih
      have h2 : (if obj = true ∧ i < names.length then jQuote (names.getD i []) ++ [58] else [] : List UInt8).length = 0 := by rw [if_neg (by omega)]; rfl
      omega

theorem show_arr (m : Nat) (ks : List JV) (ns : List (List UInt8)) (p : Int) : (jShow m (.mk 6 [] ns ks p)).length ≤ 2 + kSum (m - 1) (ns, ks) := by
  cases m with
  | zero => unfold jShow; simp
  | succ m =>
    have := kids_len (jShow m) false ns ks 0
    unfold jShow kSum
    simp at this ⊢
    omega
theorem show_obj (m : Nat) (ks : List JV) (ns : List (List UInt8)) (p : Int) : (jShow m (.mk 7 [] ns ks p)).length ≤ 2 + kSum (m - 1) (ns, ks) := by
  cases m with
  | zero => unfold jShow; simp
  | succ m =>
    have := kids_len (jShow m) true ns ks 0
    unfold jShow kSum
    simp at this ⊢
    omega

theorem kSum_kid (m : Nat) (st : JSt) (v : JV) : kSum m (st.1, st.2 ++ [v]) = kSum m st + (jShow m v).length + 1 := by
  unfold kSum
  simp
  omega
theorem kSum_mem (m : Nat) (st : JSt) (x : List UInt8) (v : JV) : kSum m (st.1 ++ [x], st.2 ++ [v]) = kSum m st + (jShow m v).length + 1 + (jQuote x).length + 1 := by
  unfold kSum
  simp
  omega

theorem val_good : ∀ (n p : Nat) {v : JV} {q : Nat}, p ≤ s.length → jVal s n p = .ok (v, q) → Good n v ∧ ∀ m, (jShow m v).length ≤ 6 * (q - p)
  | 0, p, v, q, hp, h => by
    unfold jVal at h
    split at h
    · cases h
    · cases e0 : jScal s p with
      | error x => rw [e0] at h; cases h
      | ok y =>
        obtain ⟨v1, q1⟩ := y
        rw [e0] at h
        injection h with h
        injection h with h h'
        subst h h'
        exact ⟨(scal_good 0 0 hp e0).1, fun m => (scal_good 0 m hp e0).2⟩
  | n + 1, p, v, q, hp, h => by
    have ih := fun p v q => val_good n p (v := v) (q := q)
    have hm := val_mo (s := s) n
    unfold jVal at h
    split at h
    · rename_i h1
      cases e0 : jList s 93 (stepA (jVal s n)) p with
      | error x => rw [e0] at h; cases h
      | ok y =>
        obtain ⟨st, q1⟩ := y
        rw [e0] at h
        injection h with h
        injection h with h h'
        subst h h'
        have hI := list_inv (I := fun st p' => st.1 = [] ∧ (∀ v ∈ st.2, Good n v) ∧ ∀ m, kSum m st + 6 * (p + 1) ≤ 6 * p') (fun st => stepA_mo hm st) (by
          rintro st p1 st' q1 hp1 ⟨a1, a2, a3⟩ hs p' hp'
          unfold stepA at hs
          cases e1 : jVal s n p1 with
          | error x => rw [e1] at hs; cases hs
          | ok y =>
            obtain ⟨v1, q2⟩ := y
            rw [e1] at hs
            injection hs with hs
            injection hs with hs hs'
            subst hs hs'
            obtain ⟨g1, g2⟩ := ih p1 v1 q2 hp1 e1
            have := (hm p1 hp1).1 v1 q2 e1
            refine ⟨a1, ?_, fun m => ?_⟩
            · intro u hu
              rcases List.mem_append.1 hu with hu | hu
              · exact a2 u hu
              · obtain rfl : u = v1 := by simpa using hu
                exact g1
            · rw [kSum_kid]
              have := a3 m
              have := g2 m
              omega) (at_len h1) (fun p' hp' => ⟨rfl, fun v hv => (by cases hv), fun m => by simp [kSum]; omega⟩) e0
        obtain ⟨a1, a2, a3⟩ := hI
        obtain ⟨ns, ks⟩ := st
        simp only at a1 a2
        subst a1
        refine ⟨.arr n ks _ a2, fun m => ?_⟩
        have := show_arr m ks [] p
        have := a3 (m - 1)
        simp only at *
        omega
    · split at h
      · rename_i h1
        cases e0 : jList s 125 (stepO s (jVal s n)) p with
        | error x => rw [e0] at h; cases h
        | ok y =>
          obtain ⟨st, q1⟩ := y
          rw [e0] at h
          injection h with h
          injection h with h h'
          subst h h'
          have hI := list_inv (I := fun st p' => (st.1.length = st.2.length ∧ st.1.Nodup ∧ ∀ x ∈ st.1, Chars x) ∧ (∀ v ∈ st.2, Good n v) ∧ ∀ m, kSum m st + 6 * (p + 1) ≤ 6 * p') (fun st => stepO_mo hm st) (by
            rintro st p1 st' q1 hp1 ⟨⟨a0, a1, a4⟩, a2, a3⟩ hs p' hp'
            unfold stepO at hs
            cases e2 : jText s p1 with
            | error x => rw [e2] at hs; cases hs
            | ok y =>
              obtain ⟨nm, q3⟩ := y
              rw [e2] at hs
              simp only at hs
              split at hs
              · cases hs
              · rename_i hnc
                split at hs
                · rename_i h4
                  have h5 := at_len h4
                  have h6 := blank_ge s (jBlank s q3 + 1)
                  have h7 := blank_len (s := s) (p := jBlank s q3 + 1) (by omega)
                  have h8 := blank_ge s q3
                  have h9 := txt_ok e2
                  obtain ⟨t1, t2⟩ := txt_good e2
                  cases e1 : jVal s n (jBlank s (jBlank s q3 + 1)) with
                  | error x => rw [e1] at hs; cases hs
                  | ok y =>
                    obtain ⟨v1, q2⟩ := y
                    rw [e1] at hs
                    injection hs with hs
                    injection hs with hs hs'
                    subst hs hs'
                    obtain ⟨g1, g2⟩ := ih _ v1 q2 h7 e1
                    have := (hm _ h7).1 v1 q2 e1
                    refine ⟨⟨by simp [a0], ?_, ?_⟩, ?_, fun m => ?_⟩
                    · rw [List.nodup_append]
                      refine ⟨a1, by simp, ?_⟩
                      intro a ha b hb
                      obtain rfl : b = nm := by simpa using hb
                      rintro rfl
                      exact hnc (by simpa using ha)
                    · intro u hu
                      rcases List.mem_append.1 hu with hu | hu
                      · exact a4 u hu
                      · obtain rfl : u = nm := by simpa using hu
                        exact t1
                    · intro u hu
                      rcases List.mem_append.1 hu with hu | hu
                      · exact a2 u hu
                      · obtain rfl : u = v1 := by simpa using hu
                        exact g1
                    · rw [kSum_mem]
                      have := a3 m
                      have := g2 m
                      omega
                · cases hs) (at_len h1) (fun p' hp' => ⟨⟨rfl, by simp, fun x hx => (by cases hx)⟩, fun v hv => (by cases hv), fun m => by simp [kSum]; omega⟩) e0
          obtain ⟨⟨a0, a1, a4⟩, a2, a3⟩ := hI
          obtain ⟨ns, ks⟩ := st
          refine ⟨.obj n ns ks _ a0 a1 a4 a2, fun m => ?_⟩
          have := show_obj m ks ns p
          have := a3 (m - 1)
          dsimp only at *
          omega
      · cases e0 : jScal s p with
        | error x => rw [e0] at h; cases h
        | ok y =>
          obtain ⟨v1, q1⟩ := y
          rw [e0] at h
          injection h with h
          injection h with h h'
          subst h h'
          exact ⟨(scal_good (n + 1) 0 hp e0).1, fun m => (scal_good (n + 1) m hp e0).2⟩

theorem read_good {v : JV} (h : jRead s = .ok v) : Good 64 v ∧ ∀ m, (jShow m v).length ≤ 6 * s.length := by
  have h0 := blank_len (s := s) (Nat.zero_le _)
  unfold jRead at h
  split at h
  · cases h
  · cases e0 : jVal s 64 (jBlank s 0) with
    | error x => rw [e0] at h; cases h
    | ok y =>
      obtain ⟨v1, q⟩ := y
      rw [e0] at h
      simp only at h
      split at h
      · cases h
      · injection h with h
        subst h
        have h1 := (val_mo (s := s) 64 _ h0).1 v1 q e0
        obtain ⟨g1, g2⟩ := val_good 64 _ h0 e0
        exact ⟨g1, fun m => by have := g2 m; omega⟩
end Go.Proofs.YtghiboknhjnlkaaDoor
