/- What is read is printed, and read again the same but for its places; a text's quoted form is read as its characters. No program. -/
import Derived.Test.YtghiboknhjnlkaaDoorJRnd2
set_option linter.unusedVariables false
set_option linter.unusedSimpArgs false
set_option linter.unnecessarySimpa false
namespace Go.Proofs.YtghiboknhjnlkaaDoor
open Go.Lib (decodeL encodeRune)

theorem jSame_more : ∀ (n m : Nat) (v w : JV), n ≤ m → jSame n v w = true → jSame m v w = true
  | 0, m, v, w, _, h => by unfold jSame at h; cases h
  | n + 1, 0, v, w, hm, h => by omega
  | n + 1, m + 1, .mk k t ns ks p, .mk k' t' ns' ks' p', hm, h => by
    unfold jSame at h ⊢
    simp only [Bool.and_eq_true, List.all_eq_true] at h ⊢
    exact ⟨h.1, h.2.1, fun q hq => jSame_more n m q.1 q.2 (by omega) (h.2.2 q hq)⟩

theorem blank_all {a b : List UInt8} {c : UInt8} {X : List UInt8} (ha : ∀ x ∈ a, isBl x = true) (hb : b = c :: X) (hc : isBl c = false) : jBlank (a ++ b) 0 = a.length := by
  unfold jBlank
  rw [List.drop_zero, Nat.zero_add, hb]
  induction a with
  | nil => rw [List.nil_append, List.takeWhile_cons, if_neg (by simp [hc]), List.length_nil]
  | cons x a ih =>
    rw [List.cons_append, List.takeWhile_cons, if_pos (ha x (by simp)), List.length_cons, ih (fun y hy => ha y (by simp [hy])), List.length_cons]

theorem blank_end {s post : List UInt8} {p : Nat} (h : s.drop p = post) (hp : ∀ x ∈ post, isBl x = true) : s.length ≤ jBlank s p := by
  unfold jBlank
  have hl := congrArg List.length h
  rw [List.length_drop] at hl
  rw [h]
  have : post.takeWhile isBl = post := by
    clear h hl
    induction post with
    | nil => rfl
    | cons x post ih => rw [List.takeWhile_cons, if_pos (hp x (by simp)), ih (fun y hy => hp y (by simp [hy]))]
  rw [this]
  omega

theorem round_read {v : JV} (h : Good 64 v) (pre post : List UInt8) (hpre : ∀ x ∈ pre, isBl x = true) (hpost : ∀ x ∈ post, isBl x = true) (hs : SepHd post) (hl : (pre ++ (jShow 65 v ++ post)).length ≤ 65536) :
    ∃ w, jRead (pre ++ (jShow 65 v ++ post)) = .ok w ∧ jSame 65 v w = true := by
  obtain ⟨c, X, hc, hb, -⟩ := good_first h 65 (by omega)
  have hd : (pre ++ (jShow 65 v ++ post)).drop pre.length = jShow 65 v ++ post := List.drop_left ..
  obtain ⟨w, hw, hsm⟩ := show_read 64 h 65 pre.length post (by omega) hd hs
  have hb0 := blank_all (a := pre) (b := jShow 65 v ++ post) (c := c) (X := X ++ post) hpre (by rw [hc]; rfl) hb
  have hd2 : (pre ++ (jShow 65 v ++ post)).drop (pre.length + (jShow 65 v).length) = post := by rw [← List.drop_drop, hd, List.drop_left]
  have he := blank_end hd2 hpost
  refine ⟨w, ?_, hsm⟩
  unfold jRead
  rw [if_neg (by omega), hb0, hw]
  simp only
  rw [if_neg (by omega)]

/-- the characters of a text, read one by one -/
theorem quote_runes : ∀ (n : Nat) (l : List UInt8), l.length ≤ n → ∃ rs : List Nat, (∀ r ∈ rs, Sc r) ∧ quoteC l = rs.flatMap quoteR ∧ rs.length ≤ l.length
  | 0, l, h => ⟨[], by simp, by rw [List.eq_nil_of_length_eq_zero (show l.length = 0 by omega)]; rfl, by simp⟩
  | n + 1, l, h => by
    by_cases hl : l = []
    · subst hl; exact ⟨[], by simp, rfl, by simp⟩
    · have h2 := Lib.decodeL_width l
      have h3 := Lib.decodeL_le l hl
      obtain ⟨rs, h4, h5, h6⟩ := quote_runes n (l.drop (decodeL l).2) (by simp; omega)
      refine ⟨(decodeL l).1 :: rs, ?_, ?_, by simp at h6 ⊢; omega⟩
      · intro r hr
        rcases List.mem_cons.1 hr with rfl | hr
        · exact decode_sc l
        · exact h4 r hr
      · rw [quoteC_step l hl, h5, List.flatMap_cons]

/-- is every character of a text right? from a place on -/
def rightL : Nat → List UInt8 → Bool
  | 0, _ => true
  | n + 1, l => if l = [] then true else !((decodeL l).1 == 65533 && (decodeL l).2 == 1) && rightL n (l.drop (decodeL l).2)

theorem right_runes : ∀ (n : Nat) (l : List UInt8), l.length ≤ n → rightL n l = true → ∃ rs : List Nat, (∀ r ∈ rs, Sc r) ∧ quoteC l = rs.flatMap quoteR ∧ rs.length ≤ l.length ∧ flat rs = l
  | 0, l, h, _ => ⟨[], by simp, by rw [List.eq_nil_of_length_eq_zero (show l.length = 0 by omega)]; rfl, by simp, by rw [List.eq_nil_of_length_eq_zero (by omega : l.length = 0)]; rfl⟩
  | n + 1, l, h, hr => by
    by_cases hl : l = []
    · subst hl; exact ⟨[], by simp, rfl, by simp, rfl⟩
    · have h2 := Lib.decodeL_width l
      have h3 := Lib.decodeL_le l hl
      unfold rightL at hr
      rw [if_neg hl, Bool.and_eq_true] at hr
      have hv : ¬ ((decodeL l).1 = 65533 ∧ (decodeL l).2 = 1) := by
        intro h
        have := hr.1
        rw [h.1, h.2] at this
        simp at this
      obtain ⟨rs, h4, h5, h6, h7⟩ := right_runes n (l.drop (decodeL l).2) (by simp; omega) hr.2
      refine ⟨(decodeL l).1 :: rs, ?_, ?_, by simp at h6 ⊢; omega, ?_⟩
      · intro r hr
        rcases List.mem_cons.1 hr with rfl | hr
        · exact decode_sc l
        · exact h4 r hr
      · rw [quoteC_step l hl, h5, List.flatMap_cons]
      · have : flat ((decodeL l).1 :: rs) = encodeRune ((decodeL l).1 : Int) ++ flat rs := by unfold flat; rw [List.flatMap_cons]
        rw [this, h7, Lib.encode_decode l hl hv, List.take_append_drop]

/-- a text's quoted form is read as a string -/
theorem quote_read (l : List UInt8) (hlen : l.length ≤ 5000) : ∃ t, jRead (jQuote l) = .ok (.mk 5 t [] [] 0) ∧ (rightL l.length l = true → t = l) := by
  have key : ∀ rs : List Nat, (∀ r ∈ rs, Sc r) → quoteC l = rs.flatMap quoteR → rs.length ≤ l.length → jRead (jQuote l) = .ok (.mk 5 (flat rs) [] [] 0) := by
    intro rs h1 h2 h3
    have hq : jQuote l = jQuote (flat rs) := by unfold jQuote; rw [h2, quoteC_flat rs h1]
    have hf := flatR_len rs
    have hl : (jQuote l).length ≤ 65536 := by
      unfold jQuote
      rw [h2]
      simp only [List.length_cons, List.length_append, List.length_nil]
      omega
    have hr := read_str (s := jQuote l) 64 ⟨rs, h1, rfl⟩ (p := 0) (rest := []) (by rw [List.drop_zero, hq, List.append_nil])
    have hb0 : jBlank (jQuote l) 0 = 0 := nb_blank (c := 34) rfl (by decide)
    have he := blank_end (s := jQuote l) (post := []) (p := 0 + (jQuote (flat rs)).length) (by rw [Nat.zero_add, ← hq, List.drop_length]) (by simp)
    unfold jRead
    rw [if_neg (by omega), hb0, hr]
    simp only
    rw [if_neg (by omega)]
    rfl
  by_cases hr : rightL l.length l = true
  · obtain ⟨rs, h1, h2, h3, h4⟩ := right_runes l.length l (Nat.le_refl _) hr
    exact ⟨flat rs, key rs h1 h2 h3, fun _ => h4⟩
  · obtain ⟨rs, h1, h2, h3⟩ := quote_runes l.length l (Nat.le_refl _)
    exact ⟨flat rs, key rs h1 h2 h3, fun h => absurd h hr⟩

theorem quoteR_ge (r : Nat) : (encodeRune (r : Int)).length ≤ (quoteR r).length := by
  unfold quoteR
  split
  · simp
  · split
    · have := (encodeRune_len (r : Int)).2
      simp
      omega
    · exact Nat.le_refl _
theorem flat_ge : ∀ rs : List Nat, (flat rs).length ≤ (rs.flatMap quoteR).length
  | [] => by simp [flat]
  | r :: rs => by
    have h1 := flat_ge rs
    have h2 := quoteR_ge r
    have : flat (r :: rs) = encodeRune (r : Int) ++ flat rs := by unfold flat; rw [List.flatMap_cons]
    rw [this, List.flatMap_cons, List.length_append, List.length_append]
    omega
theorem chars_ge {t : List UInt8} (h : Chars t) : t.length ≤ (jQuote t).length := by
  obtain ⟨rs, h1, rfl⟩ := h
  have := flat_ge rs
  unfold jQuote
  rw [quoteC_flat rs h1]
  simp only [List.length_cons, List.length_append, List.length_nil]
  omega
theorem kids_mem (sh : JV → List UInt8) (obj : Bool) (names : List (List UInt8)) : ∀ (ks : List JV) (i : Nat) (x : JV), x ∈ ks → (sh x).length ≤ (showKids sh obj names i ks).length
  | [], i, x, h => by cases h
  | k :: ks, i, x, h => by
    rw [kids_cons, kidTxt]
    simp only [List.length_append]
    rcases List.mem_cons.1 h with rfl | h
    · omega
    · have := kids_mem sh obj names ks (i + 1) x h
      omega
theorem kids_names (sh : JV → List UInt8) (names : List (List UInt8)) : ∀ (ks : List JV) (i j : Nat), i ≤ j → j < i + ks.length → j < names.length → (jQuote (names.getD j [])).length ≤ (showKids sh true names i ks).length
  | [], i, j, h1, h2, h3 => by simp at h2; omega
  | k :: ks, i, j, h1, h2, h3 => by
    rw [kids_cons, kidTxt]
    simp only [List.length_append]
    rcases Nat.lt_or_ge i j with h | h
    · have := kids_names sh names ks (i + 1) j (by omega) (by simp at h2; omega) h3
      omega
    · obtain rfl : i = j := by omega
      have e : (if True ∧ i < names.length then jQuote (names.getD i []) ++ [58] else [] : List UInt8).length = (jQuote (names.getD i [])).length + 1 := by rw [if_pos ⟨trivial, h3⟩]; simp
      omega
theorem kids_ge0 (sh : JV → List UInt8) (obj : Bool) (names : List (List UInt8)) (ks : List JV) : ks.length ≤ (showKids sh obj names 0 ks).length + 1 := by
  cases ks with
  | nil => simp
  | cons k ks =>
    have := kids_ge sh obj names ks (0 + 1) (by omega)
    rw [kids_cons]
    simp only [List.length_append, List.length_cons]
    omega
end Go.Proofs.YtghiboknhjnlkaaDoor
