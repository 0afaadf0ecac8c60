/- What is shown of a good value is read as that value, but for its places. No program. -/
import Derived.Test.YtghiboknhjnlkaaDoorJRnd
import Derived.Test.YtghiboknhjnlkaaDoorJDeepP
set_option linter.unusedVariables false
set_option linter.unusedSimpArgs false
set_option linter.unnecessarySimpa false
namespace Go.Proofs.YtghiboknhjnlkaaDoor
open Go.Lib (decodeL encodeRune)

/-- what may stand behind a number -/
def SepB (c : UInt8) : Bool := [44, 93, 125, 32].contains c

theorem tw_eq {f : UInt8 → Bool} : ∀ {l : List UInt8} {n : Nat}, (∀ i, i < n → ∃ c, l[i]? = some c ∧ f c = true) → (∀ c, l[n]? = some c → f c = false) → (l.takeWhile f).length = n
  | [], 0, _, _ => rfl
  | [], n + 1, h, _ => by obtain ⟨c, hc, -⟩ := h 0 (by omega); simp at hc
  | a :: l, 0, _, h => by rw [List.takeWhile_cons, if_neg (by simp [h a rfl])]; rfl
  | a :: l, n + 1, h, h2 => by
    obtain ⟨c, hc, hf⟩ := h 0 (by omega)
    obtain rfl : a = c := by simpa using hc
    rw [List.takeWhile_cons, if_pos hf, List.length_cons, tw_eq (l := l) (n := n) (fun i hi => by
      obtain ⟨c, hc, hf⟩ := h (i + 1) (by omega)
      exact ⟨c, by simpa using hc, hf⟩) (fun c hc => h2 c (by simpa using hc))]

theorem tw_of {f : UInt8 → Bool} : ∀ (l : List UInt8), (∀ i, i < (l.takeWhile f).length → ∃ c, l[i]? = some c ∧ f c = true) ∧ (∀ c, l[(l.takeWhile f).length]? = some c → f c = false)
  | [] => ⟨fun i hi => by simp at hi, fun c hc => by simp at hc⟩
  | a :: l => by
    obtain ⟨h1, h2⟩ := tw_of (f := f) l
    rw [List.takeWhile_cons]
    by_cases ha : f a = true
    · rw [if_pos ha, List.length_cons]
      refine ⟨fun i hi => ?_, fun c hc => h2 c (by simpa using hc)⟩
      cases i with
      | zero => exact ⟨a, rfl, ha⟩
      | succ i => obtain ⟨c, hc, hf⟩ := h1 i (by omega); exact ⟨c, by simpa using hc, hf⟩
    · rw [if_neg ha]
      refine ⟨fun i hi => by simp at hi, fun c hc => ?_⟩
      obtain rfl : a = c := by simpa using hc
      simpa using ha

section num
variable {s t : List UInt8} {p p2 L : Nat}

/-- t has at p2 the L bytes that s has at p, and then none that a number goes on with -/
structure Alike (s t : List UInt8) (p p2 L : Nat) : Prop where
  same : ∀ i, i < L → t[p2 + i]? = s[p + i]?
  sep : ∀ c, t[p2 + L]? = some c → SepB c = true

theorem sep_no {set : List UInt8} (hs : ∀ c, SepB c = true → set.contains c = false) (h : Alike s t p p2 L) : jHas t (p2 + L) set = false :=
  jhas_no fun c hc => hs c (h.sep c hc)

theorem alike_has {set : List UInt8} (h : Alike s t p p2 L) (i : Nat) (hi : i < L) : jHas t (p2 + i) set = jHas s (p + i) set := by
  unfold jHas; rw [h.same i hi]

theorem sepSet (set : List UInt8) (h : [44, 93, 125, 32].all (fun c => !set.contains c) = true) : ∀ c, SepB c = true → set.contains c = false := by
  intro c hc
  have hc' : c ∈ ([44, 93, 125, 32] : List UInt8) := by simpa [SepB] using hc
  have := List.all_eq_true.1 h c hc'
  simpa using this

theorem alike_digs (h : Alike s t p p2 L) (i j : Nat) (hj : j ≤ L) (hd : jDigs s (p + i) = .ok (p + j)) : jDigs t (p2 + i) = .ok (p2 + j) := by
  have hlt := (digs_ok hd).1
  unfold jDigs at hd ⊢
  obtain ⟨h1, h2⟩ := tw_of (f := isDg) (s.drop (p + i))
  have hn : ((s.drop (p + i)).takeWhile isDg).length = j - i := by
    split at hd
    · cases hd
    · injection hd with hd; omega
  rw [hn] at h1 h2
  have e : ((t.drop (p2 + i)).takeWhile isDg).length = j - i := by
    refine tw_eq (fun k hk => ?_) (fun c hc => ?_)
    · obtain ⟨c, hc, hf⟩ := h1 k hk
      refine ⟨c, ?_, hf⟩
      rw [List.getElem?_drop] at hc ⊢
      rw [show p2 + i + k = p2 + (i + k) by omega, h.same (i + k) (by omega), ← hc, show p + i + k = p + (i + k) by omega]
    · rw [List.getElem?_drop, show p2 + i + (j - i) = p2 + j by omega] at hc
      rcases Nat.lt_or_ge j L with hl | hl
      · refine h2 c ?_
        rw [List.getElem?_drop, show p + i + (j - i) = p + j by omega, ← h.same j hl]
        exact hc
      · obtain rfl : j = L := by omega
        have := h.sep c hc
        revert this
        have : ∀ c : UInt8, SepB c = true → isDg c = false := by
          intro c hc
          exact sepSet [48, 49, 50, 51, 52, 53, 54, 55, 56, 57] (by decide) c hc
        exact this c
  rw [e, if_neg (by omega), show p2 + i + (j - i) = p2 + j by omega]

theorem alike_num0 (h : Alike s t p p2 L) (i j : Nat) (hj : j ≤ L) (hd : jNum0 s (p + i) = .ok (p + j)) : jNum0 t (p2 + i) = .ok (p2 + j) := by
  have hlt := (num0_ok hd).1
  unfold jNum0 at hd ⊢
  rw [alike_has h i (by omega)]
  split at hd
  · rename_i h1
    rw [if_pos h1]
    injection hd with hd
    rw [show p2 + i + 1 = p2 + j by omega]
  · rename_i h1
    rw [if_neg h1]
    exact alike_digs h i j hj hd

theorem alike_num1 (h : Alike s t p p2 L) (i j : Nat) (hj : j ≤ L) (hd : jNum1 s (p + i) = .ok (p + j)) : jNum1 t (p2 + i) = .ok (p2 + j) := by
  have hlt := (num1_ok hd).1
  unfold jNum1 at hd ⊢
  split at hd
  · rename_i h1
    have h2 := digs_ok hd
    rw [alike_has h i (by omega), if_pos h1]
    have := alike_digs h (i + 1) j hj (by rw [← hd]; rfl)
    rwa [show p2 + (i + 1) = p2 + i + 1 by omega] at this
  · rename_i h1
    injection hd with hd
    have hf : jHas t (p2 + i) [46] = false := by
      rcases Nat.lt_or_ge i L with hl | hl
      · rw [alike_has h i hl]; simpa using h1
      · obtain rfl : i = L := by omega
        exact sep_no (sepSet _ (by decide)) h
    rw [hf, if_neg (by simp), show i = j by omega]

theorem alike_num2 (h : Alike s t p p2 L) (i j : Nat) (hj : j ≤ L) (hd : jNum2 s (p + i) = .ok (p + j)) : jNum2 t (p2 + i) = .ok (p2 + j) := by
  have hlt := (num2_ok hd).1
  unfold jNum2 at hd ⊢
  split at hd
  · rename_i h1
    have h2 := digs_ok hd
    have h3 : i + 1 < L := by split at h2 <;> omega
    rw [alike_has h i (by omega), if_pos h1]
    have e := alike_has (set := [43, 45]) h (i + 1) h3
    rw [show p2 + i + 1 = p2 + (i + 1) by omega, e]
    split at hd
    · rename_i h4
      rw [show p + (i + 1) = p + i + 1 by omega, if_pos h4]
      have := alike_digs h (i + 2) j hj (by rw [← hd]; rfl)
      rwa [show p2 + (i + 2) = p2 + i + 2 by omega] at this
    · rename_i h4
      rw [show p + (i + 1) = p + i + 1 by omega, if_neg h4]
      exact alike_digs h (i + 1) j hj (by rw [← hd]; rfl)
  · rename_i h1
    injection hd with hd
    have hf : jHas t (p2 + i) [101, 69] = false := by
      rcases Nat.lt_or_ge i L with hl | hl
      · rw [alike_has h i hl]; simpa using h1
      · obtain rfl : i = L := by omega
        exact sep_no (sepSet _ (by decide)) h
    rw [hf, if_neg (by simp), show i = j by omega]

theorem alike_num (h : Alike s t p p2 L) (hd : jNum s p = .ok (p + L)) : jNum t p2 = .ok (p2 + L) := by
  have hlt := (num_ok hd).1
  unfold jNum at hd ⊢
  have hh := alike_has (set := [45]) h 0 (by omega)
  simp only [Nat.add_zero] at hh
  have h0 := sgn_le s p
  have hsg : (if jHas t p2 [45] = true then p2 + 1 else p2) = p2 + ((if jHas s p [45] = true then p + 1 else p) - p) := by
    rw [hh]; split <;> omega
  rw [hsg]
  generalize (if jHas s p [45] = true then p + 1 else p) = p1 at *
  obtain ⟨i, rfl⟩ : ∃ i, p1 = p + i := ⟨p1 - p, by omega⟩
  cases e0 : jNum0 s (p + i) with
  | error x => rw [e0] at hd; cases hd
  | ok x =>
    rw [e0] at hd
    have h1 := num0_ok e0
    simp only at hd
    obtain ⟨j, rfl⟩ : ∃ j, x = p + j := ⟨x - p, by omega⟩
    cases e1 : jNum1 s (p + j) with
    | error x => rw [e1] at hd; cases hd
    | ok y =>
      rw [e1] at hd
      have h2 := num1_ok e1
      simp only at hd
      obtain ⟨k, rfl⟩ : ∃ k, y = p + k := ⟨y - p, by omega⟩
      have h3 := num2_ok hd
      rw [show p + i - p = i by omega, alike_num0 h i j (by omega) e0]
      simp only
      rw [alike_num1 h j k (by omega) e1]
      exact alike_num2 h k L (Nat.le_refl _) hd
end num

variable {s : List UInt8}

theorem tok_read {t rest : List UInt8} (ht : NumTok t) {p : Nat} (h : s.drop p = t ++ rest) (hr : ∀ c, rest.head? = some c → SepB c = true) : jNum s p = .ok (p + t.length) ∧ t ≠ [] := by
  obtain ⟨s0, p0, q0, hn, hp, rfl⟩ := ht
  have hq := num_ok hn
  have hl : ((s0.drop p0).take (q0 - p0)).length = q0 - p0 := by rw [List.length_take, List.length_drop]; omega
  have ha : Alike s0 s p0 p (q0 - p0) := by
    refine ⟨fun i hi => ?_, fun c hc => ?_⟩
    · rw [← List.getElem?_drop, h, List.getElem?_append_left (by omega), List.getElem?_take, if_pos hi, List.getElem?_drop]
    · rw [← List.getElem?_drop, h, List.getElem?_append_right (by omega), hl, Nat.sub_self] at hc
      exact hr c (by rw [List.head?_eq_getElem?]; exact hc)
  refine ⟨?_, fun e => by rw [e] at hl; simp at hl; omega⟩
  rw [hl]
  exact alike_num ha (by rw [hn, show p0 + (q0 - p0) = q0 by omega])

/-- a number's first byte -/
theorem num_first {p q : Nat} (h : jNum s p = .ok q) : ∃ c, s[p]? = some c ∧ (c = 45 ∨ isDg c = true) := by
  have hlt := num_ok h
  unfold jNum at h
  by_cases h45 : jHas s p [45] = true
  · unfold jHas at h45
    cases e : s[p]? with
    | none => rw [e] at h45; cases h45
    | some c => rw [e] at h45; exact ⟨c, rfl, .inl (by simpa using h45)⟩
  · rw [if_neg h45] at h
    cases e0 : jNum0 s p with
    | error x => rw [e0] at h; cases h
    | ok x =>
      unfold jNum0 at e0
      split at e0
      · rename_i h48
        unfold jHas at h48
        cases e : s[p]? with
        | none => rw [e] at h48; cases h48
        | some c =>
          rw [e] at h48
          have : c = 48 := by simpa using h48
          subst this
          exact ⟨48, rfl, .inr (by decide)⟩
      · unfold jDigs at e0
        split at e0
        · cases e0
        · rename_i hne
          obtain ⟨c, hc, hf⟩ := (tw_of (f := isDg) (s.drop p)).1 0 (by omega)
          rw [List.getElem?_drop] at hc
          exact ⟨c, hc, .inr hf⟩

theorem enc_first (r : Nat) (hr : Sc r) (h32 : 32 ≤ r) (h34 : r ≠ 34) (h92 : r ≠ 92) : ∃ c X, encodeRune (r : Int) = c :: X ∧ c ≠ 34 ∧ ¬ c < 32 ∧ c ≠ 92 := by
  have big : ∀ x : Int, 128 ≤ x → x < 256 → x.toNat.toUInt8 ≠ 34 ∧ ¬ x.toNat.toUInt8 < 32 ∧ x.toNat.toUInt8 ≠ 92 := by
    intro x h0 h1
    have e := byte_nat x (by omega) h1
    refine ⟨fun h => ?_, fun h => ?_, fun h => ?_⟩
    · have := congrArg UInt8.toNat h; rw [e] at this; simp at this; omega
    · have := UInt8.lt_iff_toNat_lt.1 h; rw [e] at this; simp at this; omega
    · have := congrArg UInt8.toNat h; rw [e] at this; simp at this; omega
  unfold Sc at hr
  by_cases h1 : r ≤ 127
  · rw [encode_one r h1]
    have e : (r.toUInt8).toNat = r := by show r % 256 = r; omega
    refine ⟨_, _, rfl, fun h => ?_, fun h => ?_, fun h => ?_⟩
    · have := congrArg UInt8.toNat h; rw [e] at this; exact h34 this
    · have := UInt8.lt_iff_toNat_lt.1 h; rw [e] at this; simp at this; omega
    · have := congrArg UInt8.toNat h; rw [e] at this; exact h92 this
  by_cases h2 : r ≤ 2047
  · rw [encode_two r (by omega) h2]
    exact ⟨_, _, rfl, big _ (by omega) (by omega)⟩
  by_cases h3 : r ≤ 65535
  · rw [encode_three r (by omega)]
    exact ⟨_, _, rfl, big _ (by omega) (by omega)⟩
  · rw [encode_four r (by omega) (by omega)]
    exact ⟨_, _, rfl, big _ (by omega) (by omega)⟩

theorem hexB_val : ∀ i : Fin 16, dval (hexB i.1) = i.1 := by decide

theorem quoteR_ne (r : Nat) : 1 ≤ (quoteR r).length := by
  have := encodeRune_len (r : Int)
  unfold quoteR
  repeat' split
  all_goals simp
  all_goals omega

/-- a string that is shown is read -/
theorem str_quote : ∀ (rs : List Nat) (n p : Nat) (acc rest : List UInt8), (∀ r ∈ rs, Sc r) → rs.length < n → s.drop p = rs.flatMap quoteR ++ 34 :: rest → jStr s n p acc = .ok (acc ++ flat rs, p + (rs.flatMap quoteR).length + 1)
  | [], n, p, acc, rest, hr, hn, h => by
    obtain ⟨n, rfl⟩ : ∃ k, n = k + 1 := ⟨n - 1, by omega⟩
    unfold jStr
    rw [at_drop (show s.drop p = 34 :: rest from h)]
    simp only
    rw [if_pos trivial]
    simp [flat]
  | r :: rs, n, p, acc, rest, hr, hn, h => by
    obtain ⟨n, rfl⟩ : ∃ k, n = k + 1 := ⟨n - 1, by omega⟩
    have hsc := hr r (by simp)
    have ih := fun p acc h => str_quote rs n p acc rest (fun x hx => hr x (by simp [hx])) (by simp at hn; omega) h
    have hfl : flat (r :: rs) = encodeRune (r : Int) ++ flat rs := by unfold flat; rw [List.flatMap_cons]
    rw [List.flatMap_cons, List.append_assoc] at h
    have hX : s.drop (p + (quoteR r).length) = rs.flatMap quoteR ++ 34 :: rest := by
      rw [← List.drop_drop, h, List.drop_left]
    have fin : ∀ q, q = p + (quoteR r).length → jStr s n q (acc ++ encodeRune (r : Int)) = .ok (acc ++ flat (r :: rs), p + ((r :: rs).flatMap quoteR).length + 1) := by
      rintro q rfl
      rw [ih _ _ hX, hfl, List.append_assoc, List.flatMap_cons, List.length_append, Nat.add_assoc p]
    unfold jStr
    by_cases h1 : r = 34 ∨ r = 92
    · have hq : quoteR r = 92 :: encodeRune (r : Int) := by unfold quoteR; rw [if_pos h1]
      have he : encodeRune (r : Int) = [r.toUInt8] := encode_one r (by omega)
      rw [hq, he] at h
      have h0 := at_drop (show s.drop p = 92 :: (r.toUInt8 :: (rs.flatMap quoteR ++ 34 :: rest)) from h)
      have h0' := at_drop (dr_drop (show s.drop p = 92 :: (r.toUInt8 :: (rs.flatMap quoteR ++ 34 :: rest)) from h))
      have hesc : jEsc s p = .ok (r, p + 2) := by
        unfold jEsc
        rw [h0']
        simp only
        rcases h1 with rfl | rfl
        · rw [if_pos (by decide)]; rfl
        · rw [if_pos (by decide)]; rfl
      rw [h0]
      simp only
      rw [if_neg (by decide), if_neg (by decide), if_pos trivial, hesc]
      exact fin _ (by rw [hq, he]; rfl)
    · by_cases h2 : r < 32
      · have hq : quoteR r = [92, 117, 48, 48, hexB (r / 16), hexB (r % 16)] := by unfold quoteR; rw [if_neg h1, if_pos h2]
        rw [hq] at h
        have d0 : s.drop p = 92 :: 117 :: 48 :: 48 :: hexB (r / 16) :: hexB (r % 16) :: (rs.flatMap quoteR ++ 34 :: rest) := h
        have d1 := dr_drop d0
        have d2 := dr_drop d1
        have d3 := dr_drop d2
        have d4 := dr_drop d3
        have d5 := dr_drop d4
        have v4 := hexB_val ⟨r / 16, by omega⟩
        have v5 := hexB_val ⟨r % 16, by omega⟩
        simp only at v4 v5
        have hfour : jFour s (p + 2) = .ok r := by
          unfold jFour jHex
          rw [show p + 2 = p + 1 + 1 by omega, at_drop d2]
          simp only
          rw [if_pos (by decide)]
          unfold jHex
          rw [at_drop d3]
          simp only
          rw [if_pos (by decide)]
          unfold jHex
          rw [at_drop d4]
          simp only
          rw [v4, if_pos (by omega)]
          unfold jHex
          rw [at_drop d5]
          simp only
          rw [v5, if_pos (by omega)]
          unfold jHex
          have : dval 48 = 0 := by decide
          rw [this]
          congr 1
          omega
        have hesc : jEsc s p = .ok (r, p + 6) := by
          unfold jEsc
          rw [at_drop d1]
          simp only
          rw [if_neg (by decide), if_neg (by decide), hfour]
          simp only
          rw [if_pos (by omega)]
        rw [at_drop d0]
        simp only
        rw [if_neg (by decide), if_neg (by decide), if_pos trivial, hesc]
        exact fin _ (by rw [hq]; rfl)
      · have hq : quoteR r = encodeRune (r : Int) := by unfold quoteR; rw [if_neg h1, if_neg h2]
        obtain ⟨c, X, hc, c34, c32, c92⟩ := enc_first r hsc (by omega) (by omega) (by omega)
        have hd : decodeL (s.drop p) = (r, (encodeRune (r : Int)).length) := by rw [h, hq, decode_encode r hsc]
        rw [hq] at h
        have h0 : s.drop p = c :: (X ++ (rs.flatMap quoteR ++ 34 :: rest)) := by rw [h, hc]; rfl
        rw [at_drop h0]
        simp only
        rw [if_neg c34, if_neg c32, if_neg c92, hd]
        have hnv : ¬ (r = 65533 ∧ (encodeRune (r : Int)).length = 1) := by
          rintro ⟨rfl, h⟩
          revert h
          decide
        simp only
        rw [if_neg hnv, h, List.take_left]
        exact fin _ (by rw [hq])

theorem txt_quote {t rest : List UInt8} (ht : Chars t) {p : Nat} (h : s.drop p = jQuote t ++ rest) : jText s p = .ok (t, p + (jQuote t).length) := by
  obtain ⟨rs, hr, rfl⟩ := ht
  have hq : jQuote (flat rs) = 34 :: (rs.flatMap quoteR ++ [34]) := by unfold jQuote; rw [quoteC_flat rs hr]
  have hl := congrArg List.length h
  rw [hq] at h hl ⊢
  have h' : s.drop p = 34 :: (rs.flatMap quoteR ++ 34 :: rest) := by rw [h]; simp
  have hrl : rs.length ≤ (rs.flatMap quoteR).length := by
    clear h h' hl hq hr
    induction rs with
    | nil => simp
    | cons r rs ih => have := quoteR_ne r; rw [List.flatMap_cons, List.length_append, List.length_cons]; omega
  unfold jText
  rw [if_pos (at_drop h'), str_quote rs s.length (p + 1) [] rest hr (by simp only [List.length_drop, List.length_append, List.length_cons, List.length_nil] at hl; omega) (dr_drop h')]
  simp only [List.nil_append, List.length_append, List.length_cons, List.length_nil]
  congr 2
  omega

theorem jSame_mk (n : Nat) (k : Int) (t : List UInt8) (ns : List (List UInt8)) (ks ks' : List JV) (p p' : Int) (h : ks.length = ks'.length) (h2 : ∀ q ∈ ks.zip ks', jSame n q.1 q.2 = true) : jSame (n + 1) (.mk k t ns ks p) (.mk k t ns ks' p') = true := by
  unfold jSame
  simp [h]
  intro a b hab
  exact h2 (a, b) hab

theorem shw_word (m : Nat) {k : Int} (hk : k = 1 ∨ k = 2 ∨ k = 3) (p : Int) : jShow m (.mk k [] [] [] p) = kindWord k := by
  cases m <;> (unfold jShow; rcases hk with rfl | rfl | rfl <;> rfl)
theorem shw_num (m : Nat) (t : List UInt8) (p : Int) : jShow m (.mk 4 t [] [] p) = t := by cases m <;> (unfold jShow; rfl)
theorem shw_str (m : Nat) (t : List UInt8) (p : Int) : jShow m (.mk 5 t [] [] p) = jQuote t := by cases m <;> (unfold jShow; rfl)
theorem shw_arr (m : Nat) (ns : List (List UInt8)) (ks : List JV) (p : Int) : jShow (m + 1) (.mk 6 [] ns ks p) = [91] ++ showKids (jShow m) false ns 0 ks ++ [93] := by unfold jShow; rfl
theorem shw_obj (m : Nat) (ns : List (List UInt8)) (ks : List JV) (p : Int) : jShow (m + 1) (.mk 7 [] ns ks p) = [123] ++ showKids (jShow m) true ns 0 ks ++ [125] := by unfold jShow; rfl

/-- a good value's first byte -/
theorem good_first {n : Nat} {v : JV} (h : Good n v) (m : Nat) (hm : n ≤ m) : ∃ c X, jShow m v = c :: X ∧ isBl c = false ∧ c ≠ 93 ∧ c ≠ 125 := by
  cases h with
  | word n k p hk =>
    rw [shw_word m hk]
    rcases hk with rfl | rfl | rfl
    · exact ⟨110, _, rfl, by decide, by decide, by decide⟩
    · exact ⟨116, _, rfl, by decide, by decide, by decide⟩
    · exact ⟨102, _, rfl, by decide, by decide, by decide⟩
  | num n t p ht =>
    rw [shw_num]
    have h1 := tok_read (s := t) (p := 0) (rest := []) ht (by simp) (fun c hc => by cases hc)
    obtain ⟨c, hc, hf⟩ := num_first h1.1
    cases t with
    | nil => exact absurd rfl h1.2
    | cons a X =>
      obtain rfl : a = c := by simpa using hc
      refine ⟨a, X, rfl, ?_⟩
      rcases hf with rfl | hf
      · decide
      · have : ∀ a : UInt8, isDg a = true → isBl a = false ∧ a ≠ 93 ∧ a ≠ 125 := by
          intro a h
          have h' : a ∈ ([48, 49, 50, 51, 52, 53, 54, 55, 56, 57] : List UInt8) := by simpa [isDg] using h
          simp only [List.mem_cons, List.not_mem_nil, or_false] at h'
          rcases h' with rfl | rfl | rfl | rfl | rfl | rfl | rfl | rfl | rfl | rfl <;> decide
        exact this a hf
  | str n t p ht => rw [shw_str]; exact ⟨34, _, rfl, by decide, by decide, by decide⟩
  | arr n ks p hk =>
    obtain ⟨m, rfl⟩ : ∃ k, m = k + 1 := ⟨m - 1, by omega⟩
    rw [shw_arr]; exact ⟨91, _, rfl, by decide, by decide, by decide⟩
  | obj n ns ks p h1 h2 h3 hk =>
    obtain ⟨m, rfl⟩ : ∃ k, m = k + 1 := ⟨m - 1, by omega⟩
    rw [shw_obj]; exact ⟨123, _, rfl, by decide, by decide, by decide⟩

/-- a kid with its name -/
def kidTxt (sh : JV → List UInt8) (obj : Bool) (names : List (List UInt8)) (i : Nat) (k : JV) : List UInt8 := (if obj = true ∧ i < names.length then jQuote (names.getD i []) ++ [58] else []) ++ sh k

theorem kids_cons (sh : JV → List UInt8) (obj : Bool) (names : List (List UInt8)) (i : Nat) (k : JV) (ks : List JV) :
    showKids sh obj names i (k :: ks) = (if 0 < i then [44] else []) ++ (kidTxt sh obj names i k ++ showKids sh obj names (i + 1) ks) := by
  rw [showKids, kidTxt]
  simp

theorem at_dropG {α : Type} {l : List α} {p : Nat} {c : α} {X : List α} (h : l.drop p = c :: X) : l[p]? = some c := by
  rw [← List.head?_drop, h]; rfl
theorem dr_dropG {α : Type} {l : List α} {p : Nat} {c : α} {X : List α} (h : l.drop p = c :: X) : l.drop (p + 1) = X := by
  have := congrArg (List.drop 1) h
  rw [List.drop_drop] at this
  simpa using this

def SepHd (rest : List UInt8) : Prop := ∀ c, rest.head? = some c → SepB c = true

theorem sep_kids (sh : JV → List UInt8) (obj : Bool) (names : List (List UInt8)) (i : Nat) (hi : 0 < i) (ks : List JV) (en : UInt8) (hen : SepB en = true) (rest : List UInt8) : SepHd (showKids sh obj names i ks ++ en :: rest) := by
  cases ks with
  | nil => intro c hc; obtain rfl : en = c := Option.some.inj hc; exact hen
  | cons k ks =>
    rw [kids_cons, if_pos hi]
    intro c hc
    obtain rfl : 44 = c := Option.some.inj hc
    decide

theorem kids_ge (sh : JV → List UInt8) (obj : Bool) (names : List (List UInt8)) : ∀ (ks : List JV) (i : Nat), 0 < i → ks.length ≤ (showKids sh obj names i ks).length
  | [], i, _ => by simp [showKids]
  | k :: ks, i, hi => by
    have := kids_ge sh obj names ks (i + 1) (by omega)
    rw [kids_cons, if_pos hi]
    simp
    omega

/-- the list's rounds; step: what it does at each kid -/
theorem loop_kids {en : UInt8} (hen : en = 93 ∨ en = 125) {step : JSt → Nat → Except JErr (JSt × Nat)} {sh : JV → List UInt8} {obj : Bool} {names : List (List UInt8)} {R : JV → JV → Prop} {all : List JV} {NM : Nat → List (List UInt8)}
    (hstep : ∀ (st : JSt) (i p : Nat) (k : JV) (rest : List UInt8), all[i]? = some k → st.1 = NM i → s.drop p = kidTxt sh obj names i k ++ rest → SepHd rest → ∃ w, step st p = .ok ((NM (i + 1), st.2 ++ [w]), p + (kidTxt sh obj names i k).length) ∧ R k w)
    (hfirst : ∀ i k, all[i]? = some k → ∃ c X, kidTxt sh obj names i k = c :: X ∧ isBl c = false) :
    ∀ (ks : List JV) (i n p : Nat) (k : JV) (st : JSt) (rest : List UInt8), all.drop i = k :: ks → st.1 = NM i → ks.length < n → s.drop p = kidTxt sh obj names i k ++ (showKids sh obj names (i + 1) ks ++ en :: rest) →
      ∃ ws, jLoop s en step n st p = .ok ((NM (i + 1 + ks.length), st.2 ++ ws), p + (kidTxt sh obj names i k ++ (showKids sh obj names (i + 1) ks ++ [en])).length) ∧ ws.length = ks.length + 1 ∧ ∀ q ∈ (k :: ks).zip ws, R q.1 q.2
  | [], i, n, p, k, st, rest, ha, hst, hn, hd => by
    obtain ⟨n, rfl⟩ : ∃ m, n = m + 1 := ⟨n - 1, by omega⟩
    have hsep : SepB en = true := by rcases hen with rfl | rfl <;> decide
    obtain ⟨w, hw, hR⟩ := hstep st i p k _ (at_dropG ha) hst hd (sep_kids sh obj names (i + 1) (by omega) [] en hsep rest)
    have hq : s.drop (p + (kidTxt sh obj names i k).length) = en :: rest := by rw [← List.drop_drop, hd, List.drop_left]; rfl
    refine ⟨[w], ?_, rfl, ?_⟩
    · rw [loop_one hw (at_drop hq) (by rcases hen with rfl | rfl <;> decide)]
      simp [showKids, Nat.add_assoc]
    · intro q hq
      have : q = (k, w) := by simpa using hq
      rw [this]
      exact hR
  | k2 :: ks, i, n, p, k, st, rest, ha, hst, hn, hd => by
    obtain ⟨n, rfl⟩ : ∃ m, n = m + 1 := ⟨n - 1, by simp at hn; omega⟩
    have hsep : SepB en = true := by rcases hen with rfl | rfl <;> decide
    obtain ⟨w, hw, hR⟩ := hstep st i p k _ (at_dropG ha) hst hd (sep_kids sh obj names (i + 1) (by omega) _ en hsep rest)
    have ha2 := dr_dropG ha
    have hq : s.drop (p + (kidTxt sh obj names i k).length) = 44 :: (kidTxt sh obj names (i + 1) k2 ++ (showKids sh obj names (i + 1 + 1) ks ++ en :: rest)) := by
      rw [← List.drop_drop, hd, List.drop_left, kids_cons, if_pos (by omega)]
      simp
    have hq2 := dr_drop hq
    obtain ⟨c, X, hc, hb⟩ := hfirst (i + 1) k2 (at_dropG ha2)
    have hb1 : jBlank s (p + (kidTxt sh obj names i k).length + 1) = p + (kidTxt sh obj names i k).length + 1 := nb_blank (c := c) (at_drop (hq2.trans (by rw [hc]; rfl))) hb
    obtain ⟨ws, hws, hl, hz⟩ := loop_kids hen hstep hfirst ks (i + 1) n (p + (kidTxt sh obj names i k).length + 1) k2 (NM (i + 1), st.2 ++ [w]) rest ha2 rfl (by simp at hn; omega) hq2
    refine ⟨w :: ws, ?_, by simp [hl], ?_⟩
    · unfold jLoop
      rw [hw]
      simp only
      rw [nb_blank (at_drop hq) (by decide), at_drop hq, if_neg (by rcases hen with rfl | rfl <;> decide), if_pos rfl, hb1, hws]
      rw [show i + 1 + 1 + ks.length = i + 1 + (k2 :: ks).length by simp; omega]
      congr 2
      · simp
      · rw [kids_cons, if_pos (by omega)]
        simp
        omega
    · intro q hq
      simp only [List.zip_cons_cons, List.mem_cons] at hq
      rcases hq with rfl | hq
      · exact hR
      · exact hz q (by simpa using hq)

theorem word_read : ∀ (w : List UInt8) {p : Nat} {rest : List UInt8}, s.drop p = w ++ rest → jWord s p w = .ok (p + w.length)
  | [], p, rest, h => rfl
  | c :: w, p, rest, h => by
    have h' : s.drop p = c :: (w ++ rest) := h
    unfold jWord
    rw [if_pos (at_drop h'), word_read w (dr_drop h')]
    simp
    omega

theorem val_scal {n p : Nat} {c : UInt8} (h : s[p]? = some c) (h1 : c ≠ 91) (h2 : c ≠ 123) : jVal s n p = synE (jScal s p) := by
  cases n with
  | zero => unfold jVal; rw [h, if_neg (by simp [h1, h2])]
  | succ n => unfold jVal; rw [h, if_neg (by simp [h1]), if_neg (by simp [h2])]

theorem same_scal (n : Nat) (k : Int) (t : List UInt8) (p p' : Int) : jSame (n + 1) (.mk k t [] [] p) (.mk k t [] [] p') = true := jSame_mk n k t [] [] [] p p' rfl (fun q h => by simp at h)

theorem read_word (n : Nat) {k : Int} (hk : k = 1 ∨ k = 2 ∨ k = 3) {p : Nat} {rest : List UInt8} (h : s.drop p = kindWord k ++ rest) : jVal s n p = .ok (.mk k [] [] [] p, p + (kindWord k).length) := by
  rcases hk with rfl | rfl | rfl
  · have h' : s.drop p = [110, 117, 108, 108] ++ rest := h
    have h0 := at_drop (show s.drop p = 110 :: ([117, 108, 108] ++ rest) from h)
    rw [val_scal h0 (by decide) (by decide)]
    unfold jScal
    rw [if_pos h0, word_read _ h']
    rfl
  · have h' : s.drop p = [116, 114, 117, 101] ++ rest := h
    have h0 := at_drop (show s.drop p = 116 :: ([114, 117, 101] ++ rest) from h)
    rw [val_scal h0 (by decide) (by decide)]
    unfold jScal
    rw [h0, if_neg (by decide), if_pos rfl, word_read _ h']
    rfl
  · have h' : s.drop p = [102, 97, 108, 115, 101] ++ rest := h
    have h0 := at_drop (show s.drop p = 102 :: ([97, 108, 115, 101] ++ rest) from h)
    rw [val_scal h0 (by decide) (by decide)]
    unfold jScal
    rw [h0, if_neg (by decide), if_neg (by decide), if_pos rfl, word_read _ h']
    rfl

theorem read_tok (n : Nat) {t : List UInt8} (ht : NumTok t) {p : Nat} {rest : List UInt8} (h : s.drop p = t ++ rest) (hr : SepHd rest) : jVal s n p = .ok (.mk 4 t [] [] p, p + t.length) := by
  obtain ⟨hn, hne⟩ := tok_read ht h hr
  obtain ⟨c, hc, hf⟩ := num_first hn
  have h1 : c ≠ 91 ∧ c ≠ 123 ∧ c ≠ 110 ∧ c ≠ 116 ∧ c ≠ 102 ∧ c ≠ 34 := by
    rcases hf with rfl | hf
    · decide
    · have h' : c ∈ ([48, 49, 50, 51, 52, 53, 54, 55, 56, 57] : List UInt8) := by simpa [isDg] using hf
      simp only [List.mem_cons, List.not_mem_nil, or_false] at h'
      rcases h' with rfl | rfl | rfl | rfl | rfl | rfl | rfl | rfl | rfl | rfl <;> decide
  rw [val_scal hc h1.1 h1.2.1]
  unfold jScal
  rw [hc, if_neg (by simp [h1.2.2.1]), if_neg (by simp [h1.2.2.2.1]), if_neg (by simp [h1.2.2.2.2.1]), if_neg (by simp [h1.2.2.2.2.2]), hn]
  simp only [synE]
  rw [show p + t.length - p = t.length by omega, h, List.take_left]

theorem read_str (n : Nat) {t : List UInt8} (ht : Chars t) {p : Nat} {rest : List UInt8} (h : s.drop p = jQuote t ++ rest) : jVal s n p = .ok (.mk 5 t [] [] p, p + (jQuote t).length) := by
  have h0 := at_drop (show s.drop p = 34 :: ((quoteC t ++ [34]) ++ rest) from h)
  rw [val_scal h0 (by decide) (by decide)]
  unfold jScal
  rw [h0, if_neg (by decide), if_neg (by decide), if_neg (by decide), if_pos rfl, txt_quote ht h]
  rfl

/-- what is shown of a good value is read as that value -/
theorem show_read : ∀ (n : Nat) {v : JV}, Good n v → ∀ (m p : Nat) (rest : List UInt8), n ≤ m → s.drop p = jShow m v ++ rest → SepHd rest →
    ∃ w, jVal s n p = .ok (w, p + (jShow m v).length) ∧ jSame (n + 1) v w = true := by
  intro n
  induction n with
  | zero =>
    intro v hv m p rest hm hd hr
    cases hv with
    | word _ k p0 hk => rw [shw_word m hk] at hd ⊢; exact ⟨_, read_word 0 hk hd, same_scal 0 k [] p0 p⟩
    | num _ t p0 ht => rw [shw_num] at hd ⊢; exact ⟨_, read_tok 0 ht hd hr, same_scal 0 4 t p0 p⟩
    | str _ t p0 ht => rw [shw_str] at hd ⊢; exact ⟨_, read_str 0 ht hd, same_scal 0 5 t p0 p⟩
  | succ n ih =>
    intro v hv m p rest hm hd hr
    cases hv with
    | word _ k p0 hk => rw [shw_word m hk] at hd ⊢; exact ⟨_, read_word (n + 1) hk hd, same_scal (n + 1) k [] p0 p⟩
    | num _ t p0 ht => rw [shw_num] at hd ⊢; exact ⟨_, read_tok (n + 1) ht hd hr, same_scal (n + 1) 4 t p0 p⟩
    | str _ t p0 ht => rw [shw_str] at hd ⊢; exact ⟨_, read_str (n + 1) ht hd, same_scal (n + 1) 5 t p0 p⟩
    | arr _ ks p0 hk =>
      obtain ⟨m, rfl⟩ : ∃ k, m = k + 1 := ⟨m - 1, by omega⟩
      rw [shw_arr] at hd ⊢
      cases ks with
      | nil =>
        have h' : s.drop p = 91 :: 93 :: rest := hd
        refine ⟨.mk 6 [] [] [] p, ?_, same_scal (n + 1) 6 [] p0 p⟩
        unfold jVal
        rw [if_pos (at_drop h')]
        unfold jList
        rw [nb_blank (at_drop (dr_drop h')) (by decide), if_pos (at_drop (dr_drop h'))]
        rfl
      | cons k ks =>
        have h' : s.drop p = 91 :: (kidTxt (jShow m) false [] 0 k ++ (showKids (jShow m) false [] 1 ks ++ 93 :: rest)) := by
          rw [hd, kids_cons]; simp
        have hf : ∀ i k', (k :: ks)[i]? = some k' → ∃ c X, kidTxt (jShow m) false [] i k' = c :: X ∧ isBl c = false ∧ c ≠ 93 := by
          intro i k' hk'
          obtain ⟨c, X, h1, h2, h3, -⟩ := good_first (hk k' (List.mem_of_getElem? hk')) m (by omega)
          exact ⟨c, X, by simp [kidTxt, h1], h2, h3⟩
        obtain ⟨ws, hws, hl, hz⟩ := loop_kids (s := s) (en := 93) (.inl rfl) (step := stepA (jVal s n)) (sh := jShow m) (obj := false) (names := []) (R := fun a b => jSame (n + 1) a b = true) (all := k :: ks) (NM := fun _ => [])
          (by
            intro st i p k' rest hk' hst hd hr
            have hkt : kidTxt (jShow m) false [] i k' = jShow m k' := by simp [kidTxt]
            rw [hkt] at hd ⊢
            obtain ⟨w, hw, hs⟩ := ih (hk k' (List.mem_of_getElem? hk')) m p rest (by omega) hd hr
            refine ⟨w, ?_, hs⟩
            unfold stepA
            rw [hw]
            simp only
            rw [hst])
          (fun i k' hk' => by obtain ⟨c, X, a, b, -⟩ := hf i k' hk'; exact ⟨c, X, a, b⟩)
          ks 0 (s.length + 1) (p + 1) k ([], []) rest rfl rfl (by
            have := congrArg List.length h'
            have hk2 : ks.length ≤ (showKids (jShow m) false [] 1 ks).length := kids_ge _ _ _ ks 1 (by omega)
            simp at this
            omega) (dr_drop h')
        obtain ⟨c, X, hc, hb, h93⟩ := hf 0 k rfl
        have hc' := at_drop ((dr_drop h').trans (by rw [hc]; rfl) : s.drop (p + 1) = c :: _)
        refine ⟨.mk 6 [] [] ws p, ?_, jSame_mk (n + 1) 6 [] [] (k :: ks) ws p0 p (by simp [hl]) hz⟩
        unfold jVal
        rw [if_pos (at_drop h')]
        unfold jList
        rw [nb_blank hc' hb, hc', if_neg (by simp [h93]), hws]
        simp only
        congr 2
        rw [kids_cons]
        simp
        omega
    | obj _ ns ks p0 hl hnd hch hk =>
      obtain ⟨m, rfl⟩ : ∃ k, m = k + 1 := ⟨m - 1, by omega⟩
      rw [shw_obj] at hd ⊢
      cases ks with
      | nil =>
        obtain rfl : ns = [] := List.eq_nil_of_length_eq_zero hl
        have h' : s.drop p = 123 :: 125 :: rest := hd
        refine ⟨.mk 7 [] [] [] p, ?_, same_scal (n + 1) 7 [] p0 p⟩
        unfold jVal
        rw [at_drop h', if_neg (by decide), if_pos rfl]
        unfold jList
        rw [nb_blank (at_drop (dr_drop h')) (by decide), if_pos (at_drop (dr_drop h'))]
        rfl
      | cons k ks =>
        have h' : s.drop p = 123 :: (kidTxt (jShow m) true ns 0 k ++ (showKids (jShow m) true ns 1 ks ++ 125 :: rest)) := by
          rw [hd, kids_cons]; simp
        have hkt : ∀ i k', i < ns.length → kidTxt (jShow m) true ns i k' = jQuote (ns.getD i []) ++ 58 :: jShow m k' := by
          intro i k' hi
          simp [kidTxt, hi]
        have hlt : ∀ i k', (k :: ks)[i]? = some k' → i < ns.length := by
          intro i k' h
          rw [hl]
          exact (List.getElem?_eq_some_iff.1 h).1
        have hf : ∀ i k', (k :: ks)[i]? = some k' → ∃ c X, kidTxt (jShow m) true ns i k' = c :: X ∧ isBl c = false ∧ c ≠ 125 := by
          intro i k' hk'
          rw [hkt i k' (hlt i k' hk')]
          exact ⟨34, _, rfl, by decide, by decide⟩
        obtain ⟨ws, hws, hwl, hz⟩ := loop_kids (s := s) (en := 125) (.inr rfl) (step := stepO s (jVal s n)) (sh := jShow m) (obj := true) (names := ns) (R := fun a b => jSame (n + 1) a b = true) (all := k :: ks) (NM := fun i => ns.take i)
          (by
            intro st i p k' rest hk' hst hd hr
            have hi := hlt i k' hk'
            rw [hkt i k' hi] at hd ⊢
            have hg : ns.getD i [] = ns[i] := by simp [List.getD_eq_getElem?_getD, hi]
            rw [hg] at hd ⊢
            have hd1 : s.drop p = jQuote ns[i] ++ (58 :: (jShow m k' ++ rest)) := by rw [hd]; simp
            have ht := txt_quote (hch _ (List.getElem_mem hi)) hd1
            have hd2 : s.drop (p + (jQuote ns[i]).length) = 58 :: (jShow m k' ++ rest) := by rw [← List.drop_drop, hd1, List.drop_left]
            have hd3 := dr_drop hd2
            obtain ⟨c, X, h1, h2, -, -⟩ := good_first (hk k' (List.mem_of_getElem? hk')) m (by omega)
            obtain ⟨w, hw, hs⟩ := ih (hk k' (List.mem_of_getElem? hk')) m _ rest (by omega) hd3 hr
            refine ⟨w, ?_, hs⟩
            have hnc : ¬ (st.1.contains ns[i]) = true := by
              rw [hst]
              simp only [List.contains_iff_mem]
              intro hm
              obtain ⟨j, hj, he⟩ := List.getElem_of_mem hm
              rw [List.getElem_take] at he
              have hj' : j < i := by simp at hj; omega
              exact (List.pairwise_iff_getElem.1 hnd) j i (by omega) hi hj' he
            unfold stepO
            rw [ht]
            simp only
            rw [if_neg hnc, nb_blank (at_drop hd2) (by decide), at_drop hd2, if_pos rfl, nb_blank (c := c) (at_drop (hd3.trans (by rw [h1]; rfl))) h2, hw]
            simp only
            rw [hst, List.take_succ_eq_append_getElem hi]
            congr 2
            simp
            omega)
          (fun i k' hk' => by obtain ⟨c, X, a, b, -⟩ := hf i k' hk'; exact ⟨c, X, a, b⟩)
          ks 0 (s.length + 1) (p + 1) k ([], []) rest rfl (by simp) (by
            have := congrArg List.length h'
            have hk2 : ks.length ≤ (showKids (jShow m) true ns 1 ks).length := kids_ge _ _ _ ks 1 (by omega)
            simp at this
            omega) (dr_drop h')
        obtain ⟨c, X, hc, hb, h93⟩ := hf 0 k rfl
        have hc' := at_drop ((dr_drop h').trans (by rw [hc]; rfl) : s.drop (p + 1) = c :: _)
        have hnt : ns.take (0 + 1 + ks.length) = ns := List.take_of_length_le (by simp at hl; omega)
        rw [hnt] at hws
        refine ⟨.mk 7 [] ns ws p, ?_, jSame_mk (n + 1) 7 [] ns (k :: ks) ws p0 p (by simp [hwl]) hz⟩
        unfold jVal
        rw [at_drop h', if_neg (by decide), if_pos rfl]
        unfold jList
        rw [nb_blank hc' hb, hc', if_neg (by simp [h93]), hws]
        simp only
        congr 2
        rw [kids_cons]
        simp
        omega
end Go.Proofs.YtghiboknhjnlkaaDoor
