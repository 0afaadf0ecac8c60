/- That escape.front gives so many bytes of a set at a text's begin; that escape.char gives the bytes of a character's number. -/
import Derived.Test.YtghiboknhjnlkaaDoorCutLeft
import Derived.Test.YtghiboknhjnlkaaDoorBk
import Derived.Test.YtghiboknhjnlkaaDoorTxtR
import Derived.Test.YtghiboknhjnlkaaDoorShelf
set_option linter.unusedVariables false
set_option linter.unusedSimpArgs false
namespace Go.Proofs.YtghiboknhjnlkaaDoor
open Go.RowKit

theorem ret_v {a b : Value} (h : a = b) : Ending.returned a = Ending.returned b := by rw [h]

theorem extract_size (s : ByteArray) (a b : Nat) : (s.extract a b).size = min b s.size - a := by simp

set_option maxHeartbeats 1000000 in
set_option maxRecDepth 100000 in
theorem front_any (s set : ByteArray) (most : Nat) (w : World) (ha : Ascii set) (hs : s.size ≤ 140737488351232) (hset : set.size ≤ 140737488351232) (hm : most ≤ 1000) :
    Calls Tryd.prog 40 #[.string s, .string set, .int .i64 most] w fun e w' => e = .returned (.string (s.extract 0 (min (lead set s) most))) ∧ Below w.heap.size w w' := by
  have hl := lead_le set s
  have HC := Lib.hid (fun w => cutLeft_any set s w ha hs hset)
  have hsz : (s.extract (lead set s) s.size).size = s.size - lead set s := by rw [extract_size]; omega
  clear ha
  generalize lead set s = n at *
  generalize s.extract n s.size = t at *
  go_enter Tryd.func40, Tryd.ntmps40
  go_wp2_with (go_at_call 73; refine (HC.out _).mono ?_; rintro e w' ⟨rfl, hb⟩)
  go_ret
  refine ⟨ret_v ?_, hb⟩
  show Value.string (s.extract 0 (min ((s.size : Int) - ((s.size - n : Nat) : Int)) most).toNat) = _
  rw [show (min ((s.size : Int) - ((s.size - n : Nat) : Int)) most).toNat = min n most by omega]

theorem u8_of (a : Int) (b : Nat) (h : a = b) : a.toNat.toUInt8 = UInt8.ofNat b := by subst h; rfl

theorem encode_eq (n : Int) (h : Lib.validRune n = true) : Utf8.encode n = ⟨(Lib.encodeRune n).toArray⟩ := by
  have hv : (0 ≤ n ∧ n < 0xD800) ∨ (0xDFFF < n ∧ n ≤ 0x10FFFF) := by simpa [Lib.validRune] using h
  obtain ⟨m, rfl⟩ : ∃ m : Nat, n = m := ⟨n.toNat, by omega⟩
  have hval : Utf8.valid (m : Int) = true := by
    unfold Utf8.valid
    rw [Bool.or_eq_true]
    rcases hv with h | h
    · left; simp; omega
    · right; simp; omega
  unfold Lib.encodeRune Utf8.encode
  simp only [hval, if_true, Int.toNat_natCast]
  by_cases h1 : m ≤ 127
  · rw [Lib.encodeRuneZ_one (by omega) (by omega), if_pos (by omega)]
    simp only [List.map_cons, List.map_nil]
    rw [u8_of (m : Int) m rfl]
  · rw [if_neg (by omega)]
    by_cases h2 : m ≤ 2047
    · rw [Lib.encodeRuneZ_two (by omega) (by omega), if_pos (by omega)]
      simp only [List.map_cons, List.map_nil]
      rw [u8_of _ (0xC0 + m / 64) (by omega), u8_of _ (0x80 + m % 64) (by omega)]
    · rw [if_neg (by omega)]
      by_cases h3 : m ≤ 65535
      · rw [Lib.encodeRuneZ_three (by omega), if_pos (by omega)]
        simp only [List.map_cons, List.map_nil]
        rw [u8_of _ (0xE0 + m / 4096) (by omega), u8_of _ (0x80 + m / 64 % 64) (by omega), u8_of _ (0x80 + m % 64) (by omega)]
      · rw [Lib.encodeRuneZ_four (by omega) (by omega), if_neg (by omega)]
        simp only [List.map_cons, List.map_nil]
        rw [u8_of _ (0xF0 + m / 262144) (by omega), u8_of _ (0x80 + m / 4096 % 64) (by omega), u8_of _ (0x80 + m / 64 % 64) (by omega), u8_of _ (0x80 + m % 64) (by omega)]

/-- the bytes of a character's number -/
def charB (n : Int) : List UInt8 := Lib.encodeRune (if n = 0 then 65533 else n)

set_option maxHeartbeats 1000000 in
set_option maxRecDepth 100000 in
theorem char_any (n : Int) (w : World) (h0 : 0 ≤ n) (h1 : n ≤ 9223372036854775807) :
    Calls Tryd.prog 43 #[.int .i64 n] w fun e w' => e = .returned (.string ⟨(charB n).toArray⟩) ∧ w = w' := by
  by_cases hz : n = 0
  · subst hz
    go_enter Tryd.func43, Tryd.ntmps43
    go_wp2_with fail
    go_ret
    exact ⟨ret_v (by kernel_rfl), rfl⟩
  · have hb : (n == 0) = false := beq_eq_false_iff_ne.mpr hz
    have hc : charB n = Lib.encodeRune n := by simp [charB, hz]
    rw [hc]
    clear hc
    by_cases hbig : n > 1114111
    · have he : Lib.encodeRune n = [239, 191, 189] := by unfold Lib.encodeRune; rw [Lib.encodeRuneZ_bad (by omega)]; rfl
      rw [he]
      clear he
      go_enter Tryd.func43, Tryd.ntmps43
      go_wp2_with fail
      go_ret
      exact ⟨rfl, rfl⟩
    · have hv : Lib.validRune n = true ∨ Lib.validRune n = false ∧ Lib.encodeRune n = [239, 191, 189] := by
        by_cases h : (0 ≤ n ∧ n < 0xD800) ∨ (0xDFFF < n ∧ n ≤ 0x10FFFF)
        · exact .inl (by simpa [Lib.validRune] using h)
        · exact .inr ⟨by simpa [Lib.validRune] using h, by unfold Lib.encodeRune; rw [Lib.encodeRuneZ_bad (by omega)]; rfl⟩
      rcases hv with hv | ⟨hv, he⟩
      · have HE := Lib.hid (encode_eq n hv)
        go_enter Tryd.func43, Tryd.ntmps43
        go_wp2_with (go_at_call 76; refine (Tryd.utf8_ValidRune _ _).mono ?_; rintro e w' ⟨rfl, rfl⟩)
        go_ret
        exact ⟨ret_v (by rw [← HE.out]; rfl), rfl⟩
      · rw [he]
        clear he
        go_enter Tryd.func43, Tryd.ntmps43
        go_wp2_with (go_at_call 76; refine (Tryd.utf8_ValidRune _ _).mono ?_; rintro e w' ⟨rfl, rfl⟩)
        go_ret
        exact ⟨rfl, rfl⟩
end Go.Proofs.YtghiboknhjnlkaaDoor
