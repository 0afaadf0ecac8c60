/- Plain laws on texts as lists of bytes: characters, clean texts. No program. -/
import Derived.Lib.MapLaws
import Derived.Lib.TrimU
import Derived.Lib.TrimAscii
import Derived.Lib.RuneBytes
set_option linter.unusedVariables false
set_option linter.unusedSimpArgs false
namespace Go.Proofs.YtghiboknhjnlkaaDoor
open Go.Lib (decodeL encodeRune)

theorem decode_drop (s : ByteArray) (pos : Nat) (h : pos < s.size) : Utf8.decode s pos = decodeL (s.data.toList.drop pos) := by
  unfold decodeL
  rw [Lib.decode_at, Lib.decode_at]
  have hg : ∀ i, (s.get! (pos + i)) = (⟨(s.data.toList.drop pos).toArray⟩ : ByteArray).get! i := by
    intro i
    show s.data[pos + i]! = (s.data.toList.drop pos).toArray[i]!
    rw [Array.getElem!_eq_getD, Array.getElem!_eq_getD, Array.getD_eq_getD_getElem?, Array.getD_eq_getD_getElem?]
    congr 1
    simp
  have h0 := hg 0
  rw [Nat.add_zero] at h0
  rw [h0, hg 1, hg 2, hg 3]
  congr 1
  show s.size - pos = (s.data.toList.drop pos).toArray.size - 0
  simp

theorem beq_u8 (c : UInt8) (n : Int) (hn : 0 ≤ n ∧ n < 256) (h : c ≠ UInt8.ofNat n.toNat) : ((c.toNat : Int) == n) = false := by
  rw [beq_eq_false_iff_ne]
  intro e
  apply h
  apply UInt8.toNat_inj.mp
  simp
  omega

theorem beq_u8_pos (c : UInt8) (n : Int) (hn : 0 ≤ n ∧ n < 256) (h : c = UInt8.ofNat n.toNat) : ((c.toNat : Int) == n) = true := by
  rw [beq_iff_eq, h]
  simp
  omega

theorem extract_all (s : ByteArray) : s.extract 0 s.size = s := by
  apply ByteArray.ext; simp

theorem head_at (s : ByteArray) (h : 0 < s.size) : s.data.toList.head? = some (s[0]'h) := by
  rw [List.head?_eq_getElem?, List.getElem?_eq_getElem (by simpa using h)]
  rfl

theorem notEmpty (s : ByteArray) (h : 0 < s.size) : s.toList.isEmpty = false := by
  rw [ByteArray.toList_eq]
  cases e : s.data.toList with
  | nil =>
    have : s.size = 0 := by show s.data.size = 0; rw [← Array.length_toList, e]; rfl
    omega
  | cons c r => rfl

/-- a 0 counts as a byte that is no character -/
def fixN (r : Nat) : Nat := if r = 0 then 65533 else r

/-- the clean text; the number: bytes that belong to the character before -/
def cleanG : Nat → List UInt8 → List UInt8
  | _, [] => []
  | 0, b :: l => encodeRune (fixN (decodeL (b :: l)).1) ++ cleanG ((decodeL (b :: l)).2 - 1) l
  | k + 1, _ :: l => cleanG k l

def clean (l : List UInt8) : List UInt8 := cleanG 0 l

theorem cleanG_drop : ∀ (k : Nat) (l : List UInt8), cleanG k l = clean (l.drop k)
  | 0, l => by rfl
  | k + 1, [] => by simp [cleanG, clean]
  | k + 1, b :: l => by rw [cleanG, cleanG_drop k l]; rfl

theorem clean_nil : clean [] = [] := rfl

theorem clean_step (l : List UInt8) (h : l ≠ []) : clean l = encodeRune (fixN (decodeL l).1) ++ clean (l.drop (decodeL l).2) := by
  cases l with
  | nil => exact absurd rfl h
  | cons b l =>
    rw [clean, cleanG, cleanG_drop]
    have := Lib.decodeL_width (b :: l)
    obtain ⟨m, hm⟩ : ∃ m, (decodeL (b :: l)).2 = m + 1 := ⟨(decodeL (b :: l)).2 - 1, by omega⟩
    rw [hm]
    rfl

/-- at a place of a text -/
theorem clean_at (s : ByteArray) (pos : Nat) (h : pos < s.size) : clean (s.data.toList.drop pos) = encodeRune (fixN (Utf8.decode s pos).1) ++ clean (s.data.toList.drop (pos + (Utf8.decode s pos).2)) := by
  rw [clean_step _ (by intro e; have := congrArg List.length e; simp at this; omega), ← decode_drop s pos h, List.drop_drop]

theorem clean_end (s : ByteArray) (pos : Nat) (h : ¬ pos < s.size) : clean (s.data.toList.drop pos) = [] := by
  rw [List.drop_of_length_le (by simp; omega)]; rfl

theorem decode_le_size (s : ByteArray) (pos : Nat) (h : pos < s.size) : pos + (Utf8.decode s pos).2 ≤ s.size := by
  rw [decode_drop s pos h]
  have := Lib.decodeL_le (s.data.toList.drop pos) (by intro e; have := congrArg List.length e; simp at this; omega)
  simp at this
  omega

theorem encodeRune_len (r : Int) : 1 ≤ (encodeRune r).length ∧ (encodeRune r).length ≤ 4 := by
  have := Lib.runeCells_le r
  rw [Lib.runeCells_length] at this
  exact this

theorem clean_len (l : List UInt8) : (clean l).length ≤ 4 * l.length := by
  suffices ∀ n (l : List UInt8), l.length ≤ n → (clean l).length ≤ 4 * l.length from this l.length l (Nat.le_refl _)
  intro n
  induction n with
  | zero => intro l h; cases l with
    | nil => simp [clean_nil]
    | cons => simp at h
  | succ n ih =>
    intro l h
    by_cases hl : l = []
    · subst hl; simp [clean_nil]
    · rw [clean_step l hl, List.length_append]
      have h1 := encodeRune_len (fixN (decodeL l).1)
      have h2 := Lib.decodeL_width l
      have h3 := ih (l.drop (decodeL l).2) (by simp; omega)
      have h4 := Lib.decodeL_le l hl
      simp only [List.length_drop] at h3
      omega
end Go.Proofs.YtghiboknhjnlkaaDoor
