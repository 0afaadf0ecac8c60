/- Plain laws on texts as lists of bytes: characters, clean texts. No program. Plain laws: a character's bytes are read as that character; a clean text stays clean. No program. -/
import Derived.Lib.MapLaws
import Derived.Lib.TrimU
import Derived.Lib.TrimAscii
import Derived.Lib.RuneBytes
import Derived.Lib.TrimUEq
set_option linter.unusedVariables false
set_option linter.unusedSimpArgs false
set_option linter.unnecessarySimpa false
namespace Go.Proofs.YtghiboknhjnlkaaDoor
open Go.Lib (decodeL encodeRune)

theorem decode_drop (s : ByteArray) (pos : Nat) (h : pos < s.size) : Utf8.decode s pos = decodeL (s.data.toList.drop pos) := by
  unfold decodeL
  rw [Lib.decode_at, Lib.decode_at]
  have hg : ∀ i, (s.get! (pos + i)) = (⟨(s.data.toList.drop pos).toArray⟩ : ByteArray).get! i := by
    intro i
    show s.data[pos + i]! = (s.data.toList.drop pos).toArray[i]!
    rw [Array.getElem!_eq_getD, Array.getElem!_eq_getD, Array.getD_eq_getD_getElem?, Array.getD_eq_getD_getElem?]
    congr 1
    simp
  have h0 := hg 0
  rw [Nat.add_zero] at h0
  rw [h0, hg 1, hg 2, hg 3]
  congr 1
  show s.size - pos = (s.data.toList.drop pos).toArray.size - 0
  simp

theorem beq_u8 (c : UInt8) (n : Int) (hn : 0 ≤ n ∧ n < 256) (h : c ≠ UInt8.ofNat n.toNat) : ((c.toNat : Int) == n) = false := by
  rw [beq_eq_false_iff_ne]
  intro e
  apply h
  apply UInt8.toNat_inj.mp
  simp
  omega

theorem beq_u8_pos (c : UInt8) (n : Int) (hn : 0 ≤ n ∧ n < 256) (h : c = UInt8.ofNat n.toNat) : ((c.toNat : Int) == n) = true := by
  rw [beq_iff_eq, h]
  simp
  omega

theorem extract_all (s : ByteArray) : s.extract 0 s.size = s := by
  apply ByteArray.ext; simp

theorem head_at (s : ByteArray) (h : 0 < s.size) : s.data.toList.head? = some (s[0]'h) := by
  rw [List.head?_eq_getElem?, List.getElem?_eq_getElem (by simpa using h)]
  rfl

theorem notEmpty (s : ByteArray) (h : 0 < s.size) : s.toList.isEmpty = false := by
  rw [ByteArray.toList_eq]
  cases e : s.data.toList with
  | nil =>
    have : s.size = 0 := by show s.data.size = 0; rw [← Array.length_toList, e]; rfl
    omega
  | cons c r => rfl

/-- a 0 counts as a byte that is no character -/
def fixN (r : Nat) : Nat := if r = 0 then 65533 else r

/-- the clean text; the number: bytes that belong to the character before -/
def cleanG : Nat → List UInt8 → List UInt8
  | _, [] => []
  | 0, b :: l => encodeRune (fixN (decodeL (b :: l)).1) ++ cleanG ((decodeL (b :: l)).2 - 1) l
  | k + 1, _ :: l => cleanG k l

def clean (l : List UInt8) : List UInt8 := cleanG 0 l

theorem cleanG_drop : ∀ (k : Nat) (l : List UInt8), cleanG k l = clean (l.drop k)
  | 0, l => by rfl
  | k + 1, [] => by simp [cleanG, clean]
  | k + 1, b :: l => by rw [cleanG, cleanG_drop k l]; rfl

theorem clean_nil : clean [] = [] := rfl

theorem clean_step (l : List UInt8) (h : l ≠ []) : clean l = encodeRune (fixN (decodeL l).1) ++ clean (l.drop (decodeL l).2) := by
  cases l with
  | nil => exact absurd rfl h
  | cons b l =>
    rw [clean, cleanG, cleanG_drop]
    have := Lib.decodeL_width (b :: l)
    obtain ⟨m, hm⟩ : ∃ m, (decodeL (b :: l)).2 = m + 1 := ⟨(decodeL (b :: l)).2 - 1, by omega⟩
    rw [hm]
    rfl

/-- at a place of a text -/
theorem clean_at (s : ByteArray) (pos : Nat) (h : pos < s.size) : clean (s.data.toList.drop pos) = encodeRune (fixN (Utf8.decode s pos).1) ++ clean (s.data.toList.drop (pos + (Utf8.decode s pos).2)) := by
  rw [clean_step _ (by intro e; have := congrArg List.length e; simp at this; omega), ← decode_drop s pos h, List.drop_drop]

theorem clean_end (s : ByteArray) (pos : Nat) (h : ¬ pos < s.size) : clean (s.data.toList.drop pos) = [] := by
  rw [List.drop_of_length_le (by simp; omega)]; rfl

theorem decode_le_size (s : ByteArray) (pos : Nat) (h : pos < s.size) : pos + (Utf8.decode s pos).2 ≤ s.size := by
  rw [decode_drop s pos h]
  have := Lib.decodeL_le (s.data.toList.drop pos) (by intro e; have := congrArg List.length e; simp at this; omega)
  simp at this
  omega

theorem encodeRune_len (r : Int) : 1 ≤ (encodeRune r).length ∧ (encodeRune r).length ≤ 4 := by
  have := Lib.runeCells_le r
  rw [Lib.runeCells_length] at this
  exact this

theorem clean_len (l : List UInt8) : (clean l).length ≤ 4 * l.length := by
  suffices ∀ n (l : List UInt8), l.length ≤ n → (clean l).length ≤ 4 * l.length from this l.length l (Nat.le_refl _)
  intro n
  induction n with
  | zero => intro l h; cases l with
    | nil => simp [clean_nil]
    | cons => simp at h
  | succ n ih =>
    intro l h
    by_cases hl : l = []
    · subst hl; simp [clean_nil]
    · rw [clean_step l hl, List.length_append]
      have h1 := encodeRune_len (fixN (decodeL l).1)
      have h2 := Lib.decodeL_width l
      have h3 := ih (l.drop (decodeL l).2) (by simp; omega)
      have h4 := Lib.decodeL_le l hl
      simp only [List.length_drop] at h3
      omega
end Go.Proofs.YtghiboknhjnlkaaDoor

namespace Go.Proofs.YtghiboknhjnlkaaDoor
open Go.Lib (decodeL encodeRune decodeN)

def Sc (r : Nat) : Prop := r < 55296 ∨ 57343 < r ∧ r ≤ 1114111

theorem byte_nat (x : Int) (h0 : 0 ≤ x) (h1 : x < 256) : (x.toNat.toUInt8).toNat = x.toNat := by
  show x.toNat % 256 = x.toNat
  omega

theorem encode_one (r : Nat) (h : r ≤ 127) : encodeRune r = [r.toUInt8] := by
  unfold encodeRune
  rw [Lib.encodeRuneZ_one (by omega) (by omega)]
  simp
theorem encode_two (r : Nat) (h0 : 128 ≤ r) (h : r ≤ 2047) : encodeRune r = [((192 + r / 64 : Nat) : Int).toNat.toUInt8, ((128 + r % 64 : Nat) : Int).toNat.toUInt8] := by
  unfold encodeRune
  rw [Lib.encodeRuneZ_two (by omega) (by omega)]
  rfl
theorem encode_three (r : Nat) (h : 2048 ≤ r ∧ r < 55296 ∨ 57343 < r ∧ r ≤ 65535) : encodeRune r = [((224 + r / 4096 : Nat) : Int).toNat.toUInt8, ((128 + r / 64 % 64 : Nat) : Int).toNat.toUInt8, ((128 + r % 64 : Nat) : Int).toNat.toUInt8] := by
  unfold encodeRune
  rw [Lib.encodeRuneZ_three (by omega)]
  rfl
theorem encode_four (r : Nat) (h0 : 65536 ≤ r) (h : r ≤ 1114111) : encodeRune r = [((240 + r / 262144 : Nat) : Int).toNat.toUInt8, ((128 + r / 4096 % 64 : Nat) : Int).toNat.toUInt8, ((128 + r / 64 % 64 : Nat) : Int).toNat.toUInt8, ((128 + r % 64 : Nat) : Int).toNat.toUInt8] := by
  unfold encodeRune
  rw [Lib.encodeRuneZ_four (by omega) (by omega)]
  rfl

theorem decode_encode (r : Nat) (h : Sc r) (t : List UInt8) : decodeL (encodeRune r ++ t) = (r, (encodeRune r).length) := by
  unfold Sc at h
  by_cases h1 : r ≤ 127
  · rw [encode_one r h1]
    show decodeL (r.toUInt8 :: t) = (r, 1)
    have e : (r.toUInt8).toNat = r := by show r % 256 = r; omega
    rw [Lib.decodeL_ascii _ _ (by rw [e]; omega), e]
  by_cases h2 : r ≤ 2047
  · rw [encode_two r (by omega) h2, Lib.decodeL_N]
    simp only [List.cons_append, List.nil_append, List.getD_cons_zero, List.getD_cons_succ, List.length_cons]
    rw [byte_nat _ (by omega) (by omega), byte_nat _ (by omega) (by omega)]
    unfold decodeN
    rw [if_neg (by omega), if_pos (by omega), if_pos (by omega)]
    rw [Prod.mk.injEq]
    exact ⟨by omega, rfl⟩
  by_cases h3 : r ≤ 65535
  · rw [encode_three r (by omega), Lib.decodeL_N]
    simp only [List.cons_append, List.nil_append, List.getD_cons_zero, List.getD_cons_succ, List.length_cons]
    rw [byte_nat _ (by omega) (by omega), byte_nat _ (by omega) (by omega), byte_nat _ (by omega) (by omega)]
    unfold decodeN
    rw [if_neg (by omega), if_neg (by omega), if_pos (by omega), if_pos (by omega)]
    rw [Prod.mk.injEq]
    exact ⟨by omega, rfl⟩
  · rw [encode_four r (by omega) (by omega), Lib.decodeL_N]
    simp only [List.cons_append, List.nil_append, List.getD_cons_zero, List.getD_cons_succ, List.length_cons]
    rw [byte_nat _ (by omega) (by omega), byte_nat _ (by omega) (by omega), byte_nat _ (by omega) (by omega), byte_nat _ (by omega) (by omega)]
    unfold decodeN
    rw [if_neg (by omega), if_neg (by omega), if_neg (by omega), if_pos (by omega), if_pos (by omega)]
    rw [Prod.mk.injEq]
    exact ⟨by omega, rfl⟩

theorem decode_sc (l : List UInt8) : Sc (decodeL l).1 := by
  rw [Lib.decodeL_N]
  have k0 := (l.getD 0 0).toNat_lt
  generalize (l.getD 0 0).toNat = b0 at *
  unfold decodeN Sc
  repeat' split
  all_goals (simp only; omega)

theorem fixN_sc (r : Nat) (h : Sc r) : Sc (fixN r) ∧ fixN r ≠ 0 := by
  unfold fixN Sc at *
  split <;> omega

theorem encode_ne (r : Nat) : encodeRune r ≠ [] := by
  intro e
  have := encodeRune_len r
  rw [e] at this
  simp at this

theorem clean_rune (r : Nat) (h : Sc r) (h0 : r ≠ 0) (t : List UInt8) : clean (encodeRune r ++ t) = encodeRune r ++ clean t := by
  rw [clean_step _ (by simp [encode_ne]), decode_encode r h t]
  simp only [fixN, if_neg h0, List.drop_left]

/-- a text of characters, none 0 -/
def IsClean (l : List UInt8) : Prop := ∃ rs : List Nat, (∀ r ∈ rs, Sc r ∧ r ≠ 0) ∧ l = rs.flatMap fun r : Nat => encodeRune (r : Int)

theorem isClean_append {a b : List UInt8} (ha : IsClean a) (hb : IsClean b) : IsClean (a ++ b) := by
  obtain ⟨r, h1, rfl⟩ := ha
  obtain ⟨q, h2, rfl⟩ := hb
  exact ⟨r ++ q, fun x hx => (List.mem_append.1 hx).elim (h1 x) (h2 x), by rw [List.flatMap_append]⟩

theorem isClean_nil : IsClean [] := ⟨[], by simp, rfl⟩

theorem isClean_rune (r : Nat) (h : Sc r ∧ r ≠ 0) : IsClean (encodeRune r) := ⟨[r], by simpa using h, by simp⟩

theorem isClean_ascii (b : UInt8) (h : b.toNat < 128) (h0 : b ≠ 0) : IsClean [b] := by
  refine ⟨[b.toNat], ?_, ?_⟩
  · intro r hr
    obtain rfl : r = b.toNat := by simpa using hr
    refine ⟨.inl (by omega), fun e => h0 (UInt8.toNat_inj.mp e)⟩
  · simp [encode_one b.toNat (by omega)]

theorem isClean_asciis : ∀ l : List UInt8, (∀ b ∈ l, b.toNat < 128 ∧ b ≠ 0) → IsClean l
  | [], _ => isClean_nil
  | b :: l, h => isClean_append (a := [b]) (isClean_ascii b (h b (by simp)).1 (h b (by simp)).2) (isClean_asciis l fun c hc => h c (by simp [hc]))

theorem clean_isClean (l : List UInt8) : IsClean (clean l) := by
  suffices ∀ n (l : List UInt8), l.length ≤ n → IsClean (clean l) from this l.length l (Nat.le_refl _)
  intro n
  induction n with
  | zero => intro l h; cases l with
    | nil => exact isClean_nil
    | cons => simp at h
  | succ n ih =>
    intro l h
    by_cases hl : l = []
    · subst hl; exact isClean_nil
    · rw [clean_step l hl]
      have h2 := Lib.decodeL_width l
      exact isClean_append (isClean_rune _ (fixN_sc _ (decode_sc l))) (ih _ (by simp; omega))

theorem clean_append {a : List UInt8} (ha : IsClean a) (t : List UInt8) : clean (a ++ t) = a ++ clean t := by
  obtain ⟨rs, h, rfl⟩ := ha
  induction rs with
  | nil => rfl
  | cons r rs ih =>
    rw [List.flatMap_cons, List.append_assoc, clean_rune r (h r (by simp)).1 (h r (by simp)).2, ih (fun x hx => h x (by simp [hx])), List.append_assoc]

theorem clean_self {a : List UInt8} (ha : IsClean a) : clean a = a := by
  have := clean_append ha []
  simpa [clean_nil] using this

theorem clean_parts (a b : List UInt8) : clean (clean a ++ clean b) = clean a ++ clean b := clean_self (isClean_append (clean_isClean a) (clean_isClean b))
theorem clean_twice (a : List UInt8) : clean (clean a) = clean a := clean_self (clean_isClean a)
end Go.Proofs.YtghiboknhjnlkaaDoor
