/- That the document's Entity finds a named entity, and so: that it finds what the program's finds. -/
import Derived.Test.YtghiboknhjnlkaaDoorRefEntW
import Derived.Test.YtghiboknhjnlkaaDoorEntAt
set_option linter.unusedVariables false
set_option linter.unnecessarySimpa false
set_option linter.unusedSimpArgs false
namespace Go.Proofs.YtghiboknhjnlkaaDoor
open Go.RowKit

theorem slice_list (s : ByteArray) (a b : Nat) : s.extract a b = ⟨((s.data.toList.drop a).take (b - a)).toArray⟩ := by
  apply ByteArray.ext
  apply Array.ext'
  have := Lib.extract_data s a b
  simpa using this

/-- what is found by a name of n bytes -/
def named (o : Option Int) (semi : Bool) (n : Nat) : List UInt8 × Nat :=
  match o with
  | none => ([], 0)
  | some m => if semi then (charB m, n + 2) else ([], 0)

theorem entL_named (l : List UInt8) (h38 : l.head? = some 38) (h35 : ¬ (l.drop 1).head? = some 35) :
    entL l = named (entOf (nameL (l.drop 1))) (decide ((l.drop (1 + (nameL (l.drop 1)).length)).head? = some 59)) (nameL (l.drop 1)).length := by
  rw [entL_name l h38 h35]
  unfold named
  cases entOf (nameL (l.drop 1)) with
  | none => rfl
  | some m => simp

set_option maxHeartbeats 4000000 in
set_option maxRecDepth 100000 in
theorem refEntity_name (s : ByteArray) (pos : Nat) (w : World) (hp : pos + 2 < s.size) (hs : s.size ≤ 140737488351232) (h38 : s[pos]'(by omega) = 38) (h35 : s[pos + 1]'(by omega) ≠ 35) :
    Calls Tryd.prog 17 #[.string s, .int .i64 pos] w fun e w' => e = .returned (.tuple #[.string ⟨(entL (s.data.toList.drop pos)).1.toArray⟩, .int .i64 (entL (s.data.toList.drop pos)).2]) ∧ Below w.heap.size w w' := by
  have hent := entL_named (s.data.toList.drop pos) (by rw [drop_head s pos (by omega), h38]) (by rw [List.drop_drop, drop_head s _ (by omega)]; simpa using h35)
  rw [hent]
  simp only [List.drop_drop]
  have e38 := neq_u8_pos _ 38 (by decide) h38
  have e35 := beq_u8 _ 35 (by decide) h35
  have hL := Lib.hid (fun c w => refLetter_any c w)
  have hD := Lib.hid (fun c w => refDigit_any c w)
  clear hent h38 h35
  have hT := Lib.hid (fun w => refEntTab_any ⟨(nameL (s.data.toList.drop (pos + 1))).toArray⟩ w)
  have hTl : (⟨(nameL (s.data.toList.drop (pos + 1))).toArray⟩ : ByteArray).data.toList = nameL (s.data.toList.drop (pos + 1)) := rfl
  rw [hTl] at hT
  have hbd : ∀ m, entOf (nameL (s.data.toList.drop (pos + 1))) = some m → 0 ≤ m := fun m h => (entOf_le _ m h).1
  generalize entOf (nameL (s.data.toList.drop (pos + 1))) = o at *
  have hsemi : ∀ n, (nameL (s.data.toList.drop (pos + 1))).length = n → decide ((s.data.toList.drop (pos + (1 + (nameL (s.data.toList.drop (pos + 1))).length))).head? = some 59) = decide ((s.data.toList.drop (pos + 1 + n)).head? = some 59) := by
    intro n h; rw [h, Nat.add_assoc]
  have HSM := Lib.hid hsemi
  have HBD := Lib.hid hbd
  clear hTl hbd hsemi
  obtain ⟨L, hL0⟩ : ∃ L, L = (nameL (s.data.toList.drop (pos + 1))).length := ⟨_, rfl⟩
  obtain ⟨sm, hS0⟩ : ∃ sm, sm = decide ((s.data.toList.drop (pos + (1 + (nameL (s.data.toList.drop (pos + 1))).length))).head? = some 59) := ⟨_, rfl⟩
  rw [← hS0, ← hL0]
  rw [← hS0] at HSM
  have HL0 := Lib.hid hL0
  clear hS0 hL0
  have hdl : (s.data.toList.drop (pos + 1)).length = s.size - (pos + 1) := by simp
  have hgl : ∀ j (h : j < (s.data.toList.drop (pos + 1)).length) (h2 : pos + 1 + j < s.size), (s.data.toList.drop (pos + 1))[j] = s[pos + 1 + j]'h2 := by
    intro j h h2
    rw [List.getElem_drop]
    rfl
  have HGL := Lib.hid hgl
  have HDL := Lib.hid hdl
  clear hgl hdl
  have hsz1 : (0 : Int) ≤ (pos : Int) + 1 ∧ (pos : Int) + 1 < s.size := by omega
  have hb0 : decide ((pos : Int) < 0) = false := decide_eq_false (by omega)
  have hb1 : decide ((s.size : Int) - pos < 3) = false := decide_eq_false (by omega)
  have hb2 : decide (s.size ≤ pos) = false := decide_eq_false (by omega)
  go_enter Tryd.func17, Tryd.ntmps17
  go_wp2_with fail
  go_loopw [11] (fun vk wr => ∃ n : Nat, vk = .int .i64 ((pos : Int) + 1 + n) ∧ n ≤ 8 ∧ pos + 1 + n ≤ s.size ∧ Hid (∀ j (h : j < (s.data.toList.drop (pos + 1)).length), j < n → (isLet (s.data.toList.drop (pos + 1))[j] || isDig (s.data.toList.drop (pos + 1))[j]) = true) ∧ wr = w) (fun vk _ => s.size - (intOf vk).toNat)
  case atStart => exact ⟨0, by simp, by omega, by omega, fun j h hj => by omega, rfl⟩
  case round =>
    obtain ⟨n, rfl, hn, hns, HA, rfl⟩ := hrel
    have hgo : (pos + 1 + n < s.size ∧ n < 8 ∧ ∃ h : pos + 1 + n < s.size, (isLet (s[pos + 1 + n]'h) || isDig (s[pos + 1 + n]'h)) = true) ∨ (nameL (s.data.toList.drop (pos + 1)) = (s.data.toList.drop (pos + 1)).take n) ∧ (s.size ≤ pos + 1 + n ∨ pos + 1 + n < s.size ∧ n = 8 ∨ n < 8 ∧ ∃ h : pos + 1 + n < s.size, isLet (s[pos + 1 + n]'h) = false ∧ isDig (s[pos + 1 + n]'h) = false) := by
      by_cases h1 : n < 8
      · by_cases h2 : pos + 1 + n < s.size
        · by_cases h3 : (isLet (s[pos + 1 + n]'h2) || isDig (s[pos + 1 + n]'h2)) = true
          · exact .inl ⟨h2, h1, h2, h3⟩
          · have hl : n < (s.data.toList.drop (pos + 1)).length := by have := HDL.out; omega
            exact .inr ⟨nameL_take _ n hn HA.out (.inr (.inr ⟨hl, by rw [HGL.out n hl h2]; simpa using h3⟩)), .inr (.inr ⟨h1, h2, by simpa using h3⟩)⟩
        · exact .inr ⟨nameL_take _ n hn HA.out (.inr (.inl (by have := HDL.out; omega))), .inl (by omega)⟩
      · by_cases h2 : pos + 1 + n < s.size
        · exact .inr ⟨nameL_take _ n hn HA.out (.inl (by omega)), .inr (.inl ⟨h2, by omega⟩)⟩
        · exact .inr ⟨nameL_take _ n hn HA.out (.inl (by omega)), .inl (by omega)⟩
    rcases hgo with ⟨hlt, hn8, hlt2, hok⟩ | ⟨hdone, hwhy⟩
    · have hin : (0 : Int) ≤ (pos : Int) + 1 + n ∧ (pos : Int) + 1 + n < s.size := by omega
      have h8 : (pos : Int) + 1 + n - pos ≤ 8 := by omega
      have hl := Lib.hid (fun w => hL.out (s[pos + 1 + n]'hlt) w)
      have hd := Lib.hid (fun w => hD.out (s[pos + 1 + n]'hlt) w)
      have hnext : ∀ j (h : j < (s.data.toList.drop (pos + 1)).length), j < n + 1 → (isLet (s.data.toList.drop (pos + 1))[j] || isDig (s.data.toList.drop (pos + 1))[j]) = true := by
        intro j h hj
        by_cases hjn : j < n
        · exact HA.out j h hjn
        · have : j = n := by omega
          subst this
          rw [HGL.out j h hlt]; exact hok
      have HNX := Lib.hid hnext
      clear hnext
      by_cases hle : isLet (s[pos + 1 + n]'hlt) = true
      · rw [hle] at hl
        clear hok hle
        go_wp2_with (first | (go_at_call 46; refine (hl.out _).mono ?_; rintro e w' ⟨rfl, rfl⟩) | (go_at_call 47; refine (hd.out _).mono ?_; rintro e w' ⟨rfl, rfl⟩))
        go_roundw
        case rel => exact ⟨n + 1, by simp; omega, by omega, by omega, HNX, by first | rfl | trivial⟩
        case measure => simp [intOf]; omega
      · have hle2 : isLet (s[pos + 1 + n]'hlt) = false := by simpa using hle
        rw [hle2] at hl hok
        rw [Bool.false_or] at hok
        rw [hok] at hd
        clear hok hle hle2
        go_wp2_with (first | (go_at_call 46; refine (hl.out _).mono ?_; rintro e w' ⟨rfl, rfl⟩) | (go_at_call 47; refine (hd.out _).mono ?_; rintro e w' ⟨rfl, rfl⟩))
        go_roundw
        case rel => exact ⟨n + 1, by simp; omega, by omega, by omega, HNX, by first | rfl | trivial⟩
        case measure => simp [intOf]; omega
    · have hnl : (nameL (s.data.toList.drop (pos + 1))).length = n := by
        rw [hdone, List.length_take]; have := HDL.out; omega
      have hx : s.extract (pos + 1) (pos + 1 + n) = ⟨(nameL (s.data.toList.drop (pos + 1))).toArray⟩ := by
        rw [slice_list, hdone, show pos + 1 + n - (pos + 1) = n by omega]
      rw [← hx] at hT
      have hLn : L = n := by rw [HL0.out, hnl]
      have hsm := HSM.out n hnl
      have hcell : (∃ h : pos + 1 + n < s.size, sm = decide (s[pos + 1 + n]'h = 59)) ∨ (s.size ≤ pos + 1 + n ∧ sm = false) := by
        by_cases h : pos + 1 + n < s.size
        · refine .inl ⟨h, ?_⟩
          rw [hsm, drop_head s _ h]; simp
        · refine .inr ⟨by omega, ?_⟩
          rw [hsm, drop_head_none s _ h]; rfl
      subst hLn
      clear hx hnl hdone hsm HSM HL0
      have hsm : o = none ∨ ∃ m, o = some m ∧ 0 ≤ m := by
        cases o with
        | none => exact .inl rfl
        | some m => exact .inr ⟨m, rfl, HBD.out m rfl⟩
      clear HBD
      have hsl : (0 : Int) ≤ (pos : Int) + 1 ∧ (pos : Int) + 1 ≤ pos + 1 + L ∧ (pos : Int) + 1 + L ≤ s.size := by omega
      have hfin : (∃ h : pos + 1 + L < s.size, s[pos + 1 + L]'h = 59 ∧ sm = true) ∨ (∃ h : pos + 1 + L < s.size, s[pos + 1 + L]'h ≠ 59 ∧ sm = false) ∨ (s.size ≤ pos + 1 + L ∧ sm = false) := by
        rcases hcell with ⟨h, h2⟩ | h
        · by_cases h3 : s[pos + 1 + L]'h = 59
          · exact .inl ⟨h, h3, by rw [h2]; exact decide_eq_true h3⟩
          · exact .inr (.inl ⟨h, h3, by rw [h2]; exact decide_eq_false h3⟩)
        · exact .inr (.inr h)
      clear hcell
      have hlow : (s.size ≤ pos + 1 + L) ∨ (∃ h : pos + 1 + L < s.size, decide ((pos : Int) + 1 + L - pos ≤ 8) = false) ∨ (∃ h : pos + 1 + L < s.size, (pos : Int) + 1 + L - pos ≤ 8 ∧ isLet (s[pos + 1 + L]'h) = false ∧ isDig (s[pos + 1 + L]'h) = false) := by
        rcases hwhy with h | ⟨h, h2⟩ | ⟨h, h2, h3⟩
        · exact .inl h
        · exact .inr (.inl ⟨h, decide_eq_false (by omega)⟩)
        · exact .inr (.inr ⟨h2, by omega, h3⟩)
      clear hwhy HA
      rcases hfin with ⟨hr, h59, rfl⟩ | ⟨hr, h59, rfl⟩ | ⟨hr, rfl⟩
      · have e59 := neq_u8_pos _ 59 (by decide) h59
        clear h59
        have hri : (0 : Int) ≤ (pos : Int) + 1 + L ∧ (pos : Int) + 1 + L < s.size := by omega
        rcases hsm with rfl | ⟨m, rfl, hm0⟩
        · rcases hlow with hw | ⟨_, hw⟩ | ⟨_, hw, hl0, hd0⟩
          · omega
          all_goals
            go_wp2_with (first | (go_at_call 46; refine (hL.out _ _).mono ?_; rintro e w' ⟨rfl, rfl⟩) | (go_at_call 47; refine (hD.out _ _).mono ?_; rintro e w' ⟨rfl, rfl⟩) | (go_at_call 48; refine (hT.out _).mono ?_; rintro e w' ⟨rfl, hb⟩))
            go_ret2
            exact ⟨rfl, hb⟩
        · have hC := Lib.hid (fun w => refChar_any m hm0 w)
          rcases hlow with hw | ⟨_, hw⟩ | ⟨_, hw, hl0, hd0⟩
          · omega
          all_goals
            go_wp2_with (first | (go_at_call 46; refine (hL.out _ _).mono ?_; rintro e w' ⟨rfl, rfl⟩) | (go_at_call 47; refine (hD.out _ _).mono ?_; rintro e w' ⟨rfl, rfl⟩) | (go_at_call 48; refine (hT.out _).mono ?_; rintro e w' ⟨rfl, hb⟩) | (go_at_call 45; refine (hC.out _).mono ?_; rintro e w2 ⟨rfl, hb2⟩))
            go_ret2
            exact ⟨ret_v (by show Value.tuple #[_, .int .i64 _] = _; simp only [named, if_true]; congr 4; simp; omega), hb.trans (hb2.mono hb.size)⟩
      · have e59 := neq_u8 _ 59 (by decide) h59
        clear h59
        have hri : (0 : Int) ≤ (pos : Int) + 1 + L ∧ (pos : Int) + 1 + L < s.size := by omega
        rcases hsm with rfl | ⟨m, rfl, hm0⟩
        all_goals
          rcases hlow with hw | ⟨_, hw⟩ | ⟨_, hw, hl0, hd0⟩
          · omega
          all_goals
            go_wp2_with (first | (go_at_call 46; refine (hL.out _ _).mono ?_; rintro e w' ⟨rfl, rfl⟩) | (go_at_call 47; refine (hD.out _ _).mono ?_; rintro e w' ⟨rfl, rfl⟩) | (go_at_call 48; refine (hT.out _).mono ?_; rintro e w' ⟨rfl, hb⟩))
            go_ret2
            exact ⟨rfl, hb⟩
      · have hri : (s.size : Int) ≤ (pos : Int) + 1 + L := by omega
        clear hlow
        rcases hsm with rfl | ⟨m, rfl, hm0⟩
        all_goals
            go_wp2_with (first | (go_at_call 46; refine (hL.out _ _).mono ?_; rintro e w' ⟨rfl, rfl⟩) | (go_at_call 47; refine (hD.out _ _).mono ?_; rintro e w' ⟨rfl, rfl⟩) | (go_at_call 48; refine (hT.out _).mono ?_; rintro e w' ⟨rfl, hb⟩))
            go_ret2
            exact ⟨rfl, hb⟩

theorem refEntity_at (s : ByteArray) (at' : Int) (w : World) (hs : s.size ≤ 140737488351232) :
    Calls Tryd.prog 17 #[.string s, .int .i64 at'] w fun e w' => e = .returned (.tuple #[.string ⟨(entAt s at').1.toArray⟩, .int .i64 (entAt s at').2]) ∧ Below w.heap.size w w' := by
  have wk : ∀ (r : List UInt8 × Nat), r = ([], 0) → (Calls Tryd.prog 17 #[.string s, .int .i64 at'] w fun e w' => e = .returned (.tuple #[.string ⟨#[]⟩, .int .i64 0]) ∧ w = w') → Calls Tryd.prog 17 #[.string s, .int .i64 at'] w fun e w' => e = .returned (.tuple #[.string ⟨r.1.toArray⟩, .int .i64 r.2]) ∧ Below w.heap.size w w' := by
    intro r hr h
    subst hr
    refine h.mono ?_
    rintro e w' ⟨rfl, rfl⟩
    exact ⟨rfl, Below.refl _ _⟩
  unfold entAt
  by_cases h : 0 ≤ at' ∧ at' < s.size
  · rw [if_pos h]
    obtain ⟨pos, rfl⟩ := Int.eq_ofNat_of_zero_le h.1
    have hp : pos < s.size := by omega
    rw [Int.toNat_natCast]
    by_cases h3 : s.size - pos < 3
    · exact wk _ (entL_short _ (by simpa using h3)) (refEntity_no s pos w hp hs (.inr h3))
    · by_cases h38 : s[pos]'hp = 38
      · by_cases h35 : s[pos + 1]'(by omega) = 35
        · by_cases hx : s[pos + 2]'(by omega) = 120 ∨ s[pos + 2]'(by omega) = 88
          · exact refEntity_hex s pos w (by omega) hs h38 h35 hx
          · exact refEntity_dec s pos w (by omega) hs h38 h35 (not_or.1 hx)
        · exact refEntity_name s pos w (by omega) hs h38 h35
      · refine wk _ ?_ (refEntity_no s pos w hp hs (.inl h38))
        unfold entL
        rw [drop_head s pos hp, if_neg (by simpa using h38)]
  · rw [if_neg h]
    exact wk _ rfl (refEntity_out s at' w h)
end Go.Proofs.YtghiboknhjnlkaaDoor
