/- Plain laws: a URL is one already; its bytes. No program. -/
import Derived.Test.YtghiboknhjnlkaaDoorUrl
import Derived.Test.YtghiboknhjnlkaaDoorRunes
set_option linter.unusedVariables false
set_option linter.unusedSimpArgs false
set_option linter.unnecessarySimpa false
namespace Go.Proofs.YtghiboknhjnlkaaDoor

def urlOk (c : UInt8) : Bool := stayS.contains c || c == 37

theorem hex_stays : ∀ c ∈ hexS, stayS.contains c = true := by decide
theorem cap_hex : ∀ n : Fin 16, hexS.contains (capB n.1) = true := by decide
theorem stay_not37 : stayS.contains 37 = false := by decide
theorem stay_ascii : ∀ c ∈ stayS, c.toNat < 128 ∧ c ≠ 0 ∧ 32 < c.toNat ∧ c.toNat < 127 ∧ c ≠ 60 ∧ c ≠ 62 ∧ c ≠ 34 ∧ c ≠ 92 := by decide

theorem ok_byte (c : UInt8) (h : urlOk c = true) : c.toNat < 128 ∧ c ≠ 0 ∧ 32 < c.toNat ∧ c.toNat < 127 ∧ c ≠ 60 ∧ c ≠ 62 ∧ c ≠ 34 ∧ c ≠ 92 := by
  unfold urlOk at h
  rcases Bool.or_eq_true_iff.1 h with h | h
  · exact stay_ascii c (by simpa using h)
  · obtain rfl : c = 37 := by simpa using h
    decide

theorem urlByte_ok (c : UInt8) (l : List UInt8) : ∀ b ∈ urlByte c l, urlOk b = true := by
  intro b hb
  unfold urlByte at hb
  have hx : ∀ n, n < 16 → urlOk (capB n) = true := fun n hn => by
    have := cap_hex ⟨n, hn⟩
    have := hex_stays (capB n) (by simpa using this)
    unfold urlOk; rw [this]; rfl
  split at hb
  · rename_i h
    obtain rfl : b = c := by simpa using hb
    rcases h with h | ⟨h, _⟩
    · unfold urlOk; rw [h]; rfl
    · subst h; rfl
  · have hc := c.toNat_lt
    simp only [List.mem_cons, List.not_mem_nil, or_false] at hb
    rcases hb with rfl | rfl | rfl
    · rfl
    · exact hx _ (by omega)
    · exact hx _ (by omega)

theorem urlG_ok : ∀ l : List UInt8, ∀ b ∈ urlG l, urlOk b = true
  | [], b, h => by simp [urlG] at h
  | c :: l, b, h => by
    rw [urlG, List.mem_append] at h
    exact h.elim (urlByte_ok c l b) (urlG_ok l b)

theorem urlG_stay (c : UInt8) (l : List UInt8) (h : stayS.contains c = true) : urlG (c :: l) = c :: urlG l := by
  rw [urlG, urlByte, if_pos (.inl h)]; rfl

theorem front2_cons (d1 d2 : UInt8) (l : List UInt8) (h1 : hexS.contains d1 = true) (h2 : hexS.contains d2 = true) : (frontL hexS 2 (d1 :: d2 :: l)).length = 2 := by
  have h1' : d1 ∈ hexS := by simpa using h1
  have h2' : d2 ∈ hexS := by simpa using h2
  simp only [frontL, List.takeWhile_cons, h1, h2, if_true, List.length_take, List.length_cons]
  omega

theorem front2_of (l : List UInt8) (h : (frontL hexS 2 l).length = 2) : ∃ d1 d2 l', l = d1 :: d2 :: l' ∧ hexS.contains d1 = true ∧ hexS.contains d2 = true := by
  match l, h with
  | [], h => simp [frontL] at h
  | [d], h =>
    have h2 : ([d].takeWhile hexS.contains).length ≤ 1 := (List.takeWhile_sublist _).length_le
    rw [frontL, List.length_take] at h
    omega
  | d1 :: d2 :: l', h =>
    rw [frontL, List.length_take] at h
    by_cases hd : hexS.contains d1 = true
    · by_cases hd2 : hexS.contains d2 = true
      · exact ⟨d1, d2, l', rfl, hd, hd2⟩
      · rw [List.takeWhile_cons_of_pos hd, List.takeWhile_cons_of_neg hd2] at h
        simp at h
    · rw [List.takeWhile_cons_of_neg hd] at h
      simp at h

theorem hexStay (c : UInt8) (h : hexS.contains c = true) : stayS.contains c = true := hex_stays c (by simpa using h)

theorem urlG_twice : ∀ l : List UInt8, urlG (urlG l) = urlG l
  | [] => rfl
  | c :: l => by
    have ih := urlG_twice l
    by_cases h1 : stayS.contains c = true
    · rw [urlG_stay c l h1, urlG_stay c _ h1, ih]
    by_cases h2 : c = 37 ∧ (frontL hexS 2 l).length = 2
    · obtain ⟨d1, d2, l', rfl, hd1, hd2⟩ := front2_of l h2.2
      have e : urlG (c :: d1 :: d2 :: l') = c :: urlG (d1 :: d2 :: l') := by
        rw [urlG, urlByte, if_pos (.inr h2)]; rfl
      have e2 : urlG (d1 :: d2 :: l') = d1 :: d2 :: urlG l' := by rw [urlG_stay d1 _ (hexStay _ hd1), urlG_stay d2 _ (hexStay _ hd2)]
      rw [e]
      have : urlG (c :: urlG (d1 :: d2 :: l')) = c :: urlG (urlG (d1 :: d2 :: l')) := by
        rw [urlG, urlByte, if_pos (.inr ⟨h2.1, by rw [e2]; exact front2_cons _ _ _ hd1 hd2⟩)]; rfl
      rw [this, ih]
    · have e : urlG (c :: l) = 37 :: capB (c.toNat / 16) :: capB (c.toNat % 16) :: urlG l := by
        rw [urlG, urlByte, if_neg (by rintro (h | h); exact h1 h; exact h2 h)]; rfl
      have hc := c.toNat_lt
      have hx := cap_hex ⟨c.toNat / 16, by omega⟩
      have hy := cap_hex ⟨c.toNat % 16, by omega⟩
      rw [e]
      generalize capB (c.toNat / 16) = x at *
      generalize capB (c.toNat % 16) = y at *
      have : urlG (37 :: x :: y :: urlG l) = 37 :: urlG (x :: y :: urlG l) := by
        rw [urlG, urlByte, if_pos (.inr ⟨rfl, front2_cons _ _ _ hx hy⟩)]; rfl
      rw [this, urlG_stay x _ (hexStay _ hx), urlG_stay y _ (hexStay _ hy), ih]

theorem url_clean (l : List UInt8) : clean (url l) = url l :=
  clean_self (isClean_asciis _ fun b hb => ⟨(ok_byte b (urlG_ok _ b hb)).1, (ok_byte b (urlG_ok _ b hb)).2.1⟩)

theorem url_twice (l : List UInt8) : url (url l) = url l := by
  show urlG (clean (url l)) = url l
  rw [url_clean]
  exact urlG_twice _

theorem url_len (l : List UInt8) : (url l).length ≤ 12 * l.length := by
  have h : ∀ t : List UInt8, (urlG t).length ≤ 3 * t.length := by
    intro t
    induction t with
    | nil => exact Nat.zero_le _
    | cons c t ih =>
      have := urlByte_len c t
      rw [urlG, List.length_append, List.length_cons]
      omega
  have h1 := h (clean l)
  have h2 := clean_len l
  unfold url
  omega
end Go.Proofs.YtghiboknhjnlkaaDoor
