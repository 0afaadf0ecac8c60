/- The document's entity is the program's: plain. -/
import Derived.Test.YtghiboknhjnlkaaDoorRefNum
import Derived.Test.YtghiboknhjnlkaaDoorRefTab
set_option linter.unusedVariables false
set_option linter.unusedSimpArgs false
namespace Go.Proofs.YtghiboknhjnlkaaDoor

theorem takeWhile_congr {α : Type} (p q : α → Bool) : ∀ l : List α, (∀ x ∈ l, p x = q x) → l.takeWhile p = l.takeWhile q
  | [], _ => rfl
  | a :: l, h => by
    rw [List.takeWhile_cons, List.takeWhile_cons, h a (by simp), takeWhile_congr p q l fun x hx => h x (by simp [hx])]

theorem all_u8 (P : UInt8 → Prop) [DecidablePred P] (h : ∀ n : Fin 256, P (UInt8.ofNat n.val)) : ∀ c, P c := fun c => by
  have := h ⟨c.toNat, c.toNat_lt⟩
  simpa using this

theorem dig_dval : ∀ c : UInt8, digS.contains c = decide (dval c < 10) := all_u8 _ (by decide +kernel)
theorem hex_dval : ∀ c : UInt8, hexS.contains c = decide (dval c < 16) := all_u8 _ (by decide +kernel)
theorem let_is : ∀ c : UInt8, (letS ++ digS).contains c = (isLet c || isDig c) := all_u8 _ (by decide +kernel)

theorem digs10 (most : Nat) (l : List UInt8) : frontL digS most l = digsL 10 most l := by
  unfold frontL digsL; rw [takeWhile_congr _ _ l fun c _ => dig_dval c]
theorem digs16 (most : Nat) (l : List UInt8) : frontL hexS most l = digsL 16 most l := by
  unfold frontL digsL; rw [takeWhile_congr _ _ l fun c _ => hex_dval c]

/-- a name: letters and digits, eight at most -/
def nameL (l : List UInt8) : List UInt8 := (l.takeWhile fun c => isLet c || isDig c).take 8
theorem names8 (l : List UInt8) : frontL (letS ++ digS) 8 l = nameL l := by
  unfold frontL nameL; rw [takeWhile_congr _ _ l fun c _ => let_is c]

theorem takeWhile_take_n {α : Type} (p : α → Bool) : ∀ (n : Nat) (l : List α), (∀ j (h : j < l.length), j < n → p l[j] = true) → (l.takeWhile p).take n = l.take n
  | 0, l, _ => by simp
  | n + 1, [], _ => rfl
  | n + 1, a :: l, h => by
    have ha := h 0 (by simp) (by omega)
    simp at ha
    rw [List.takeWhile_cons]
    simp only [ha, if_true, List.take_succ_cons]
    rw [takeWhile_take_n p n l fun j hj hjn => h (j + 1) (by simpa using hj) (by omega)]

theorem nameL_take (l : List UInt8) (n : Nat) (hn : n ≤ 8) (h1 : ∀ j (h : j < l.length), j < n → (isLet l[j] || isDig l[j]) = true) (h2 : n = 8 ∨ l.length ≤ n ∨ ∃ h : n < l.length, (isLet l[n] || isDig l[n]) = false) : nameL l = l.take n := by
  unfold nameL
  rcases h2 with rfl | h2
  · exact takeWhile_take_n _ 8 l h1
  · rw [takeWhile_take _ l n h1 h2, List.take_take, Nat.min_eq_right hn]

theorem entOf_len (l : List UInt8) (n : Int) (h : entOf l = some n) : 2 ≤ l.length := by
  unfold entOf at h
  obtain ⟨p, hp, rfl⟩ := Option.map_eq_some_iff.1 h
  have hm := List.mem_of_find?_eq_some hp
  have hq := List.find?_some hp
  have : ∀ p ∈ entTab, 2 ≤ p.1.length := by decide +kernel
  have := this p hm
  have hq2 : l = p.1 := by simpa using hq
  rw [hq2]; exact this

/-- an entity has three bytes at least -/
theorem entL_short (l : List UInt8) (h : l.length < 3) : entL l = ([], 0) := by
  unfold entL
  split
  · split
    · have hd : l.drop 2 = [] := List.eq_nil_of_length_eq_zero (by simp; omega)
      rw [hd]
      rfl
    · simp only
      split
      · rfl
      · rename_i n hn
        have h2 := entOf_len _ n hn
        have h3 := frontL_le (letS ++ digS) 8 (l.drop 1)
        rw [List.length_drop] at h3
        omega
  · rfl

theorem entL_dec (l : List UInt8) (h38 : l.head? = some 38) (h35 : (l.drop 1).head? = some 35) (hx : ¬ ((l.drop 2).head? = some 120 ∨ (l.drop 2).head? = some 88)) :
    entL l = (if digsL 10 7 (l.drop 2) = [] ∨ (l.drop (2 + (digsL 10 7 (l.drop 2)).length)).head? ≠ some 59 then ([], 0) else (charB (numVal 10 (digsL 10 7 (l.drop 2))), 2 + (digsL 10 7 (l.drop 2)).length + 1)) := by
  unfold entL numericL
  rw [if_pos h38, if_pos h35]
  simp only [hx, if_false, digs10, List.drop_drop, Nat.zero_add]
  split
  · rfl
  · simp only [Nat.add_one_ne_zero, if_false]
    congr 1
    omega

theorem entL_hex (l : List UInt8) (h38 : l.head? = some 38) (h35 : (l.drop 1).head? = some 35) (hx : (l.drop 2).head? = some 120 ∨ (l.drop 2).head? = some 88) :
    entL l = (if digsL 16 6 (l.drop 3) = [] ∨ (l.drop (3 + (digsL 16 6 (l.drop 3)).length)).head? ≠ some 59 then ([], 0) else (charB (numVal 16 (digsL 16 6 (l.drop 3))), 3 + (digsL 16 6 (l.drop 3)).length + 1)) := by
  unfold entL numericL
  rw [if_pos h38, if_pos h35]
  simp only [hx, if_true, digs16, List.drop_drop]
  rw [show 2 + (1 + (digsL 16 6 (l.drop (2 + 1))).length) = 3 + (digsL 16 6 (l.drop 3)).length by simp; omega]
  split
  · rfl
  · simp only [Nat.add_one_ne_zero, if_false]
    congr 1
    simp; omega

theorem entL_name (l : List UInt8) (h38 : l.head? = some 38) (h35 : ¬ (l.drop 1).head? = some 35) :
    entL l = (match entOf (nameL (l.drop 1)) with
      | none => ([], 0)
      | some n => if (l.drop (1 + (nameL (l.drop 1)).length)).head? = some 59 then (charB n, (nameL (l.drop 1)).length + 2) else ([], 0)) := by
  unfold entL
  rw [if_pos h38, if_neg h35]
  simp only [names8]
  rfl
end Go.Proofs.YtghiboknhjnlkaaDoor
