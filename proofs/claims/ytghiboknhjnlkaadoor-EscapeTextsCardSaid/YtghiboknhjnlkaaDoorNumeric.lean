/- That escape.numeric and escape.Entity find what EntP says. -/
import Derived.Test.YtghiboknhjnlkaaDoorEntP
import Derived.Test.YtghiboknhjnlkaaDoorDropS
import Derived.Test.YtghiboknhjnlkaaDoorNumInt
set_option linter.unusedVariables false
set_option linter.unusedSimpArgs false
namespace Go.Proofs.YtghiboknhjnlkaaDoor
open Go.RowKit

theorem ascii_dig : Ascii ⟨digS.toArray⟩ := by
  intro k h
  have : ∀ k : Fin 10, (digS[k]).toNat < 128 := by decide
  exact this ⟨k, h⟩
theorem ascii_hex : Ascii ⟨hexS.toArray⟩ := by
  intro k h
  have : ∀ k : Fin 22, (hexS[k]).toNat < 128 := by decide
  exact this ⟨k, h⟩
theorem ascii_let : Ascii ⟨(letS ++ digS).toArray⟩ := by
  intro k h
  have : ∀ k : Fin 62, ((letS ++ digS)[k]).toNat < 128 := by decide
  exact this ⟨k, h⟩

/-- front at a set, in lists -/
theorem frontL_any (set : List UInt8) (ha : Ascii ⟨set.toArray⟩) (hl : set.length ≤ 1000) (s : ByteArray) (most : Nat) (M : Int) (hM : M = most) (w : World) (hs : s.size ≤ 140737488351232) (hm : most ≤ 1000) :
    Calls Tryd.prog 40 #[.string s, .string ⟨set.toArray⟩, .int .i64 M] w fun e w' => e = .returned (.string ⟨(frontL set most s.data.toList).toArray⟩) ∧ Below w.heap.size w w' := by
  rw [← front_list, hM]
  exact front_any s _ most w ha hs (by simp [ByteArray.size]; omega) hm

theorem hp_one (s : ByteArray) (c : UInt8) : Lib.hasPrefix s.data.toList [c] = decide (s.data.toList.head? = some c) := by
  cases s.data.toList with
  | nil => rfl
  | cons x r =>
    rw [Bool.eq_iff_iff]
    simp [Lib.hasPrefix, List.isPrefixOf]
    exact eq_comm

theorem size_list (l : List UInt8) : (⟨l.toArray⟩ : ByteArray).size = l.length := by simp [ByteArray.size]

/-- the read number's parts: the digits d at t's begin, t the text from 'fr' on -/
theorem parse_d (d : List UInt8) (base : Nat) (B : Int) (hb : base = 10 ∧ B = 10 ∨ base = 16 ∧ B = 16) (w : World) (hne : d ≠ []) (hs : d.length ≤ 7) (hd : ∀ c ∈ d, dval c < base) :
    Calls Tryd.prog 72 #[.string ⟨d.toArray⟩, .int .i64 B, .int .i64 64] w fun e w' => e = .returned (.tuple #[.int .i64 (numVal base d), .nilIface]) ∧ Below w.heap.size w w' :=
  parseInt_any ⟨d.toArray⟩ base B hb w (by rw [size_list]; simpa using hne) (by rw [size_list]; exact hs) hd

set_option maxHeartbeats 2000000 in
set_option maxRecDepth 100000 in
theorem numeric_dec (s : ByteArray) (w : World) (hs : s.size ≤ 140737488351232) (hE : EnvS w) (hx : ¬ (s.data.toList.head? = some 120 ∨ s.data.toList.head? = some 88)) :
    Calls Tryd.prog 39 #[.string s] w fun e w' => e = .returned (.tuple #[.string ⟨(numericL s.data.toList).1.toArray⟩, .int .i64 (numericL s.data.toList).2]) ∧ Below w.heap.size w w' := by
  have hF := Lib.hid (fun w => frontL_any digS ascii_dig (by decide) s 7 7 rfl w hs (by decide))
  have hd := frontL_mem digS 7 s.data.toList
  have hdl := frontL_len digS 7 s.data.toList
  have hdl2 := frontL_le digS 7 s.data.toList
  have hnum : numericL s.data.toList = (if frontL digS 7 s.data.toList = [] ∨ (s.data.toList.drop (frontL digS 7 s.data.toList).length).head? ≠ some 59 then ([], 0) else (charB (numVal 10 (frontL digS 7 s.data.toList)), (frontL digS 7 s.data.toList).length + 1)) := by
    simp [numericL, hx]
  rw [hnum]
  have hem : s.toList.isEmpty = true ∨ s.toList.isEmpty = false ∧ ∃ h : 0 < s.size, (((s[0]'h).toNat : Int) == 120) = false ∧ (((s[0]'h).toNat : Int) == 88) = false := by
    by_cases he : s.size = 0
    · left; rw [Lib.toList_data, List.eq_nil_of_length_eq_zero ((Lib.size_eq s).symm.trans he)]; rfl
    · right
      have hpos : 0 < s.size := by omega
      refine ⟨notEmpty s hpos, hpos, ?_⟩
      rw [head_at s hpos] at hx
      simp only [Option.some.injEq, not_or] at hx
      exact ⟨beq_u8 _ 120 (by decide) hx.1, beq_u8 _ 88 (by decide) hx.2⟩
  have hdd : ∀ c ∈ frontL digS 7 s.data.toList, dval c < 10 := fun c hc => dval_dig c (hd c hc)
  have hnb := numVal_le 10 _ (by decide) hdl hdd
  have HD := Lib.hid hdd
  clear hnum hd hx hdd
  generalize frontL digS 7 s.data.toList = d at *
  have hdl2 : d.length ≤ s.size := by simpa using hdl2
  rcases hem with hem | ⟨hem, hpos, h120, h88⟩
  all_goals
    by_cases hde : d = []
    · subst hde
      have hPE := Lib.hid (fun w => parseInt_empty 10 w)
      rw [if_pos (Or.inl rfl)]
      go_enter Tryd.func39, Tryd.ntmps39
      go_wp2_with (first | (go_at_call 40; refine (hF.out _).mono ?_; rintro e w' ⟨rfl, hb⟩) | (go_at_call 72; refine (hPE.out _ (hE.below hb)).mono ?_; rintro e w2 ⟨T, p, rfl, hb2⟩))
      go_ret2
      exact ⟨rfl, hb.trans (hb2.mono hb.size)⟩
    · have hP := Lib.hid (fun w => parse_d d 10 10 (.inl ⟨rfl, rfl⟩) w hde hdl HD.out)
      have hH := Lib.hid (fun w => Tryd.strings_HasPrefix (s.extract d.length s.size) ⟨#[59]⟩ w)
      have hh : Lib.hasPrefix (s.extract d.length s.size).data.toList (⟨#[59]⟩ : ByteArray).data.toList = decide ((s.data.toList.drop d.length).head? = some 59) := by
        rw [← extract_head]; exact hp_one _ 59
      have hnn : (0 : Int) ≤ (numVal 10 d : Nat) := by omega
      have hC := Lib.hid (fun w => char_any (numVal 10 d) w hnn (by omega))
      rw [hh] at hH
      clear hh
      by_cases h59 : (s.data.toList.drop d.length).head? = some 59
      · rw [if_neg (by simp [hde, h59])]
        rw [decide_eq_true h59] at hH
        clear h59
        generalize numVal 10 d = n at *
        go_enter Tryd.func39, Tryd.ntmps39
        go_wp2_with (first | (go_at_call 40; refine (hF.out _).mono ?_; rintro e w' ⟨rfl, hb⟩) | (go_at_call 72; refine (hP.out _).mono ?_; rintro e w2 ⟨rfl, hb2⟩) | (go_at_call 42; refine (hH.out _).mono ?_; rintro e w3 ⟨rfl, rfl⟩) | (go_at_call 43; refine (hC.out _).mono ?_; rintro e w4 ⟨rfl, rfl⟩))
        go_ret2
        refine ⟨ret_v ?_, hb.trans (hb2.mono hb.size)⟩
        show Value.tuple #[_, .int .i64 _] = _
        congr 4
      · rw [if_pos (Or.inr h59)]
        rw [decide_eq_false h59] at hH
        clear h59
        generalize numVal 10 d = n at *
        go_enter Tryd.func39, Tryd.ntmps39
        go_wp2_with (first | (go_at_call 40; refine (hF.out _).mono ?_; rintro e w' ⟨rfl, hb⟩) | (go_at_call 72; refine (hP.out _).mono ?_; rintro e w2 ⟨rfl, hb2⟩) | (go_at_call 42; refine (hH.out _).mono ?_; rintro e w3 ⟨rfl, rfl⟩) | (go_at_call 43; refine (hC.out _).mono ?_; rintro e w4 ⟨rfl, rfl⟩))
        go_ret2
        exact ⟨rfl, hb.trans (hb2.mono hb.size)⟩

set_option maxHeartbeats 2000000 in
set_option maxRecDepth 100000 in
theorem numeric_hex (s : ByteArray) (w : World) (hs : s.size ≤ 140737488351232) (hE : EnvS w) (hx : s.data.toList.head? = some 120 ∨ s.data.toList.head? = some 88) :
    Calls Tryd.prog 39 #[.string s] w fun e w' => e = .returned (.tuple #[.string ⟨(numericL s.data.toList).1.toArray⟩, .int .i64 (numericL s.data.toList).2]) ∧ Below w.heap.size w w' := by
  have hpos : 0 < s.size := by
    rcases Nat.eq_zero_or_pos s.size with h | h
    · rw [List.eq_nil_of_length_eq_zero ((Lib.size_eq s).symm.trans h)] at hx; simp at hx
    · exact h
  have hF := Lib.hid (fun w => frontL_any hexS ascii_hex (by decide) (s.extract 1 s.size) 6 6 rfl w (by rw [extract_size]; omega) (by decide))
  rw [extract_head] at hF
  have hd := frontL_mem hexS 6 (s.data.toList.drop 1)
  have hdl := frontL_len hexS 6 (s.data.toList.drop 1)
  have hdl2 := frontL_le hexS 6 (s.data.toList.drop 1)
  have hnum : numericL s.data.toList = (if frontL hexS 6 (s.data.toList.drop 1) = [] ∨ (s.data.toList.drop (1 + (frontL hexS 6 (s.data.toList.drop 1)).length)).head? ≠ some 59 then ([], 0) else (charB (numVal 16 (frontL hexS 6 (s.data.toList.drop 1))), 1 + (frontL hexS 6 (s.data.toList.drop 1)).length + 1)) := by
    simp [numericL, hx]
  rw [hnum]
  have hemp := notEmpty s hpos
  have hc : (((s[0]'hpos).toNat : Int) == 120) = true ∨ (((s[0]'hpos).toNat : Int) == 120) = false ∧ (((s[0]'hpos).toNat : Int) == 88) = true := by
    rw [head_at s hpos] at hx
    simp only [Option.some.injEq] at hx
    by_cases h : s[0]'hpos = 120
    · exact .inl (beq_u8_pos _ 120 (by decide) h)
    · rcases hx with hx | hx
      · exact absurd hx h
      · exact .inr ⟨beq_u8 _ 120 (by decide) h, beq_u8_pos _ 88 (by decide) hx⟩
  have hdd : ∀ c ∈ frontL hexS 6 (s.data.toList.drop 1), dval c < 16 := fun c hc => dval_hex c (hd c hc)
  have hnb := numVal_le 16 _ (by decide) (Nat.le_trans hdl (by decide)) hdd
  have HD := Lib.hid hdd
  clear hnum hd hx hdd
  generalize frontL hexS 6 (s.data.toList.drop 1) = d at *
  have hdl2 : 1 + d.length ≤ s.size := by simp at hdl2; have : s.data.size = s.size := rfl; omega
  rcases hc with h120 | ⟨h120, h88⟩
  all_goals
    by_cases hde : d = []
    · subst hde
      have hPE := Lib.hid (fun w => parseInt_empty 16 w)
      rw [if_pos (Or.inl rfl)]
      go_enter Tryd.func39, Tryd.ntmps39
      go_wp2_with (first | (go_at_call 40; refine (hF.out _).mono ?_; rintro e w' ⟨rfl, hb⟩) | (go_at_call 72; refine (hPE.out _ (hE.below hb)).mono ?_; rintro e w2 ⟨T, p, rfl, hb2⟩))
      go_ret2
      exact ⟨rfl, hb.trans (hb2.mono hb.size)⟩
    · have hP := Lib.hid (fun w => parse_d d 16 16 (.inr ⟨rfl, rfl⟩) w hde (Nat.le_trans hdl (by decide)) HD.out)
      have hH := Lib.hid (fun w => Tryd.strings_HasPrefix (s.extract (1 + d.length) s.size) ⟨#[59]⟩ w)
      have hh : Lib.hasPrefix (s.extract (1 + d.length) s.size).data.toList (⟨#[59]⟩ : ByteArray).data.toList = decide ((s.data.toList.drop (1 + d.length)).head? = some 59) := by
        rw [← extract_head]; exact hp_one _ 59
      have hnn : (0 : Int) ≤ (numVal 16 d : Nat) := by omega
      have hC := Lib.hid (fun w => char_any (numVal 16 d) w hnn (by omega))
      rw [hh] at hH
      clear hh
      by_cases h59 : (s.data.toList.drop (1 + d.length)).head? = some 59
      · rw [if_neg (by simp only [hde, h59, ne_eq, not_true, or_self, not_false_iff])]
        rw [decide_eq_true h59] at hH
        clear h59
        generalize numVal 16 d = n at *
        go_enter Tryd.func39, Tryd.ntmps39
        go_wp2_with (first | (go_at_call 40; refine (hF.out _).mono ?_; rintro e w' ⟨rfl, hb⟩) | (go_at_call 72; refine (hP.out _).mono ?_; rintro e w2 ⟨rfl, hb2⟩) | (go_at_call 42; refine (hH.out _).mono ?_; rintro e w3 ⟨rfl, rfl⟩) | (go_at_call 43; refine (hC.out _).mono ?_; rintro e w4 ⟨rfl, rfl⟩))
        go_ret2
        refine ⟨ret_v ?_, hb.trans (hb2.mono hb.size)⟩
        show Value.tuple #[_, .int .i64 _] = _
        congr 4
      · rw [if_pos (Or.inr h59)]
        rw [decide_eq_false h59] at hH
        clear h59
        generalize numVal 16 d = n at *
        go_enter Tryd.func39, Tryd.ntmps39
        go_wp2_with (first | (go_at_call 40; refine (hF.out _).mono ?_; rintro e w' ⟨rfl, hb⟩) | (go_at_call 72; refine (hP.out _).mono ?_; rintro e w2 ⟨rfl, hb2⟩) | (go_at_call 42; refine (hH.out _).mono ?_; rintro e w3 ⟨rfl, rfl⟩) | (go_at_call 43; refine (hC.out _).mono ?_; rintro e w4 ⟨rfl, rfl⟩))
        go_ret2
        exact ⟨rfl, hb.trans (hb2.mono hb.size)⟩

theorem numeric_any (s : ByteArray) (w : World) (hs : s.size ≤ 140737488351232) (hE : EnvS w) :
    Calls Tryd.prog 39 #[.string s] w fun e w' => e = .returned (.tuple #[.string ⟨(numericL s.data.toList).1.toArray⟩, .int .i64 (numericL s.data.toList).2]) ∧ Below w.heap.size w w' := by
  by_cases hx : s.data.toList.head? = some 120 ∨ s.data.toList.head? = some 88
  · exact numeric_hex s w hs hE hx
  · exact numeric_dec s w hs hE hx
end Go.Proofs.YtghiboknhjnlkaaDoor
