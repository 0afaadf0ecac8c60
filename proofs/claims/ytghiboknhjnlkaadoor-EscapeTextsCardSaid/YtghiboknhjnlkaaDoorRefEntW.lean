/- That the document's Entity finds what the program's finds. -/
import Derived.Test.YtghiboknhjnlkaaDoorRefEntP
import Derived.Test.YtghiboknhjnlkaaDoorDropS
set_option linter.unusedVariables false
set_option linter.unusedSimpArgs false
namespace Go.Proofs.YtghiboknhjnlkaaDoor
open Go.RowKit

theorem neq_u8 (c : UInt8) (n : Int) (hn : 0 ≤ n ∧ n < 256) (h : c ≠ UInt8.ofNat n.toNat) : ((c.toNat : Int) != n) = true := by
  rw [bne_iff_ne]; exact beq_eq_false_iff_ne.1 (beq_u8 c n hn h)
theorem neq_u8_pos (c : UInt8) (n : Int) (hn : 0 ≤ n ∧ n < 256) (h : c = UInt8.ofNat n.toNat) : ((c.toNat : Int) != n) = false := by
  rw [bne_eq_false_iff_eq]; exact beq_iff_eq.1 (beq_u8_pos c n hn h)

set_option maxHeartbeats 2000000 in
set_option maxRecDepth 100000 in
theorem refEntity_out (s : ByteArray) (at' : Int) (w : World) (hat : ¬ (0 ≤ at' ∧ at' < s.size)) :
    Calls Tryd.prog 17 #[.string s, .int .i64 at'] w fun e w' => e = .returned (.tuple #[.string ⟨#[]⟩, .int .i64 0]) ∧ w = w' := by
  by_cases h0 : 0 ≤ at'
  · have h1 : (s.size : Int) ≤ at' := by omega
    go_enter Tryd.func17, Tryd.ntmps17
    go_wp2_with fail
    go_ret2
    exact ⟨rfl, rfl⟩
  · have h1 : at' < 0 := by omega
    go_enter Tryd.func17, Tryd.ntmps17
    go_wp2_with fail
    go_ret2
    exact ⟨rfl, rfl⟩

/-- no entity: another byte, or too few -/
theorem refEntity_no (s : ByteArray) (pos : Nat) (w : World) (hp : pos < s.size) (hs : s.size ≤ 140737488351232) (h : s[pos]'hp ≠ 38 ∨ s.size - pos < 3) :
    Calls Tryd.prog 17 #[.string s, .int .i64 pos] w fun e w' => e = .returned (.tuple #[.string ⟨#[]⟩, .int .i64 0]) ∧ w = w' := by
  by_cases h38 : s[pos]'hp = 38
  · have e38 := neq_u8_pos _ 38 (by decide) h38
    have hl : (s.size : Int) - pos < 3 := by
      rcases h with h | h
      · exact absurd h38 h
      · omega
    go_enter Tryd.func17, Tryd.ntmps17
    go_wp2_with fail
    go_ret2
    exact ⟨rfl, rfl⟩
  · have e38 := neq_u8 _ 38 (by decide) h38
    go_enter Tryd.func17, Tryd.ntmps17
    go_wp2_with fail
    go_ret2
    exact ⟨rfl, rfl⟩

set_option maxHeartbeats 4000000 in
set_option maxRecDepth 100000 in
theorem refEntity_dec (s : ByteArray) (pos : Nat) (w : World) (hp : pos + 2 < s.size) (hs : s.size ≤ 140737488351232) (h38 : s[pos]'(by omega) = 38) (h35 : s[pos + 1]'(by omega) = 35) (hx : s[pos + 2]'hp ≠ 120 ∧ s[pos + 2]'hp ≠ 88) :
    Calls Tryd.prog 17 #[.string s, .int .i64 pos] w fun e w' => e = .returned (.tuple #[.string ⟨(entL (s.data.toList.drop pos)).1.toArray⟩, .int .i64 (entL (s.data.toList.drop pos)).2]) ∧ Below w.heap.size w w' := by
  have hent := entL_dec (s.data.toList.drop pos) (by rw [drop_head s pos (by omega), h38]) (by rw [List.drop_drop, drop_head s _ (by omega), h35]) (by rw [List.drop_drop, drop_head s _ hp]; simpa using hx)
  rw [hent]
  simp only [List.drop_drop]
  have hN := Lib.hid (fun w => refNumber_any s (pos + 2) 10 10 (.inl ⟨rfl, rfl⟩) 7 7 rfl (by decide) w hs (by omega))
  have hdl := digsL_len 10 7 (s.data.toList.drop (pos + 2))
  have hdl2 : (digsL 10 7 (s.data.toList.drop (pos + 2))).length ≤ s.size - (pos + 2) := by
    rw [digsL_eq, List.length_take]; simp; omega
  have hnb := numVal_le 10 _ (by decide) (Nat.le_trans hdl (by decide)) (digsL_mem 10 7 (s.data.toList.drop (pos + 2)))
  have e38 := neq_u8_pos _ 38 (by decide) h38
  have e35 := beq_u8_pos _ 35 (by decide) h35
  have e120 := beq_u8 _ 120 (by decide) hx.1
  have e88 := beq_u8 _ 88 (by decide) hx.2
  clear hx
  have hcast : (((pos + 2 : Nat) : Int)) = (pos : Int) + 2 := by omega
  rw [hcast] at hN
  clear hent h38 h35 hcast
  generalize digsL 10 7 (s.data.toList.drop (pos + 2)) = d at *
  have hsz1 : (0 : Int) ≤ (pos : Int) + 1 ∧ (pos : Int) + 1 < s.size := by omega
  have hsz2 : (0 : Int) ≤ (pos : Int) + 2 ∧ (pos : Int) + 2 < s.size := by omega
  all_goals
    by_cases hde : d = []
    · subst hde
      rw [if_pos (Or.inl rfl)]
      have hN0 : (([] : List UInt8).length : Int) = 0 := rfl
      rw [hN0] at hN
      generalize (numVal 10 [] : Int) = z at *
      clear hN0
      go_enter Tryd.func17, Tryd.ntmps17
      go_wp2_with (go_at_call 44; refine (hN.out _).mono ?_; rintro e w' ⟨rfl, rfl⟩)
      go_ret2
      exact ⟨rfl, Below.refl _ _⟩
    · have hlen : 0 < d.length := List.length_pos_iff.mpr hde
      have hlz : ((d.length : Int) == 0) = false := beq_eq_false_iff_ne.mpr (by omega)
      by_cases hin : pos + 2 + d.length < s.size
      · have hhd := drop_head s (pos + 2 + d.length) hin
        rw [show pos + (2 + d.length) = pos + 2 + d.length by omega, hhd]
        have hsz3 : (0 : Int) ≤ (pos : Int) + 2 + d.length ∧ (pos : Int) + 2 + d.length < s.size := by omega
        by_cases h59 : s[pos + 2 + d.length]'hin = 59
        · rw [if_neg (by simp [hde, h59])]
          have e59 := neq_u8_pos _ 59 (by decide) h59
          have hnn : (0 : Int) ≤ (numVal 10 d : Nat) := by omega
          have hC := Lib.hid (fun w => refChar_any (numVal 10 d) hnn w)
          clear h59 hhd hde
          generalize numVal 10 d = n at *
          go_enter Tryd.func17, Tryd.ntmps17
          go_wp2_with (first | (go_at_call 44; refine (hN.out _).mono ?_; rintro e w' ⟨rfl, rfl⟩) | (go_at_call 45; refine (hC.out _).mono ?_; rintro e w' ⟨rfl, hb⟩))
          go_ret2
          exact ⟨ret_v (by show Value.tuple #[_, .int .i64 _] = _; congr 4; simp; omega), hb⟩
        · rw [if_pos (Or.inr (by simpa using h59))]
          have e59 := neq_u8 _ 59 (by decide) h59
          clear h59 hhd hde
          generalize numVal 10 d = n at *
          go_enter Tryd.func17, Tryd.ntmps17
          go_wp2_with (go_at_call 44; refine (hN.out _).mono ?_; rintro e w' ⟨rfl, rfl⟩)
          go_ret2
          exact ⟨rfl, Below.refl _ _⟩
      · rw [show pos + (2 + d.length) = pos + 2 + d.length by omega, drop_head_none s _ hin, if_pos (Or.inr (by simp))]
        have hsz3 : (s.size : Int) ≤ (pos : Int) + 2 + d.length := by omega
        generalize numVal 10 d = n at *
        go_enter Tryd.func17, Tryd.ntmps17
        go_wp2_with (go_at_call 44; refine (hN.out _).mono ?_; rintro e w' ⟨rfl, rfl⟩)
        go_ret2
        exact ⟨rfl, Below.refl _ _⟩

set_option maxHeartbeats 4000000 in
set_option maxRecDepth 100000 in
theorem refEntity_hex (s : ByteArray) (pos : Nat) (w : World) (hp : pos + 2 < s.size) (hs : s.size ≤ 140737488351232) (h38 : s[pos]'(by omega) = 38) (h35 : s[pos + 1]'(by omega) = 35) (hx : s[pos + 2]'hp = 120 ∨ s[pos + 2]'hp = 88) :
    Calls Tryd.prog 17 #[.string s, .int .i64 pos] w fun e w' => e = .returned (.tuple #[.string ⟨(entL (s.data.toList.drop pos)).1.toArray⟩, .int .i64 (entL (s.data.toList.drop pos)).2]) ∧ Below w.heap.size w w' := by
  have hent := entL_hex (s.data.toList.drop pos) (by rw [drop_head s pos (by omega), h38]) (by rw [List.drop_drop, drop_head s _ (by omega), h35]) (by rw [List.drop_drop, drop_head s _ hp]; simpa using hx)
  rw [hent]
  simp only [List.drop_drop]
  have hN := Lib.hid (fun w => refNumber_any s (pos + 3) 16 16 (.inr ⟨rfl, rfl⟩) 6 6 rfl (by decide) w hs (by omega))
  have hdl := digsL_len 16 6 (s.data.toList.drop (pos + 3))
  have hdl2 : (digsL 16 6 (s.data.toList.drop (pos + 3))).length ≤ s.size - (pos + 3) := by
    rw [digsL_eq, List.length_take]; simp; omega
  have hnb := numVal_le 16 _ (by decide) (Nat.le_trans hdl (by decide)) (digsL_mem 16 6 (s.data.toList.drop (pos + 3)))
  have e38 := neq_u8_pos _ 38 (by decide) h38
  have e35 := beq_u8_pos _ 35 (by decide) h35
  have hc : (((s[pos + 2]'hp).toNat : Int) == 120) = true ∨ (((s[pos + 2]'hp).toNat : Int) == 120) = false ∧ (((s[pos + 2]'hp).toNat : Int) == 88) = true := by
    by_cases h : s[pos + 2]'hp = 120
    · exact .inl (beq_u8_pos _ 120 (by decide) h)
    · rcases hx with hx | hx
      · exact absurd hx h
      · exact .inr ⟨beq_u8 _ 120 (by decide) h, beq_u8_pos _ 88 (by decide) hx⟩
  clear hx
  have hcast : (((pos + 3 : Nat) : Int)) = (pos : Int) + 3 := by omega
  rw [hcast] at hN
  clear hent h38 h35 hcast
  generalize digsL 16 6 (s.data.toList.drop (pos + 3)) = d at *
  have hsz1 : (0 : Int) ≤ (pos : Int) + 1 ∧ (pos : Int) + 1 < s.size := by omega
  have hsz2 : (0 : Int) ≤ (pos : Int) + 2 ∧ (pos : Int) + 2 < s.size := by omega
  rcases hc with e120 | ⟨e120, e88⟩
  all_goals
    by_cases hde : d = []
    · subst hde
      rw [if_pos (Or.inl rfl)]
      have hN0 : (([] : List UInt8).length : Int) = 0 := rfl
      rw [hN0] at hN
      generalize (numVal 16 [] : Int) = z at *
      clear hN0
      go_enter Tryd.func17, Tryd.ntmps17
      go_wp2_with (go_at_call 44; refine (hN.out _).mono ?_; rintro e w' ⟨rfl, rfl⟩)
      go_ret2
      exact ⟨rfl, Below.refl _ _⟩
    · have hlen : 0 < d.length := List.length_pos_iff.mpr hde
      have hlz : ((d.length : Int) == 0) = false := beq_eq_false_iff_ne.mpr (by omega)
      by_cases hin : pos + 3 + d.length < s.size
      · have hhd := drop_head s (pos + 3 + d.length) hin
        rw [show pos + (3 + d.length) = pos + 3 + d.length by omega, hhd]
        have hsz3 : (0 : Int) ≤ (pos : Int) + 3 + d.length ∧ (pos : Int) + 3 + d.length < s.size := by omega
        by_cases h59 : s[pos + 3 + d.length]'hin = 59
        · rw [if_neg (by simp [hde, h59])]
          have e59 := neq_u8_pos _ 59 (by decide) h59
          have hnn : (0 : Int) ≤ (numVal 16 d : Nat) := by omega
          have hC := Lib.hid (fun w => refChar_any (numVal 16 d) hnn w)
          clear h59 hhd hde
          generalize numVal 16 d = n at *
          go_enter Tryd.func17, Tryd.ntmps17
          go_wp2_with (first | (go_at_call 44; refine (hN.out _).mono ?_; rintro e w' ⟨rfl, rfl⟩) | (go_at_call 45; refine (hC.out _).mono ?_; rintro e w' ⟨rfl, hb⟩))
          go_ret2
          exact ⟨ret_v (by show Value.tuple #[_, .int .i64 _] = _; congr 4; simp; omega), hb⟩
        · rw [if_pos (Or.inr (by simpa using h59))]
          have e59 := neq_u8 _ 59 (by decide) h59
          clear h59 hhd hde
          generalize numVal 16 d = n at *
          go_enter Tryd.func17, Tryd.ntmps17
          go_wp2_with (go_at_call 44; refine (hN.out _).mono ?_; rintro e w' ⟨rfl, rfl⟩)
          go_ret2
          exact ⟨rfl, Below.refl _ _⟩
      · rw [show pos + (3 + d.length) = pos + 3 + d.length by omega, drop_head_none s _ hin, if_pos (Or.inr (by simp))]
        have hsz3 : (s.size : Int) ≤ (pos : Int) + 3 + d.length := by omega
        generalize numVal 16 d = n at *
        go_enter Tryd.func17, Tryd.ntmps17
        go_wp2_with (go_at_call 44; refine (hN.out _).mono ?_; rintro e w' ⟨rfl, rfl⟩)
        go_ret2
        exact ⟨rfl, Below.refl _ _⟩

end Go.Proofs.YtghiboknhjnlkaaDoor
