/- That escape.Entity finds the entity at a place of a text. -/
import Derived.Test.YtghiboknhjnlkaaDoorNumeric
import Derived.Test.YtghiboknhjnlkaaDoorEntAt
import Derived.Test.YtghiboknhjnlkaaDoorDropS
set_option linter.unusedVariables false
set_option linter.unusedSimpArgs false
namespace Go.Proofs.YtghiboknhjnlkaaDoor
open Go.RowKit

theorem cut_one (l : List UInt8) (c : UInt8) : Lib.trimPrefix l [c] = (if l.head? = some c then l.drop 1 else l) ∧ Lib.hasPrefix l [c] = decide (l.head? = some c) := by
  have h := hp_one ⟨l.toArray⟩ c
  have h' : Lib.hasPrefix l [c] = decide (l.head? = some c) := h
  refine ⟨?_, h'⟩
  unfold Lib.trimPrefix
  rw [h']
  by_cases hc : l.head? = some c <;> simp [hc]

theorem cut_any (l : List UInt8) (c : UInt8) (w : World) :
    Calls Tryd.prog 38 #[.string ⟨l.toArray⟩, .string ⟨#[c]⟩] w fun e w' => e = .returned (.tuple #[.string ⟨(if l.head? = some c then l.drop 1 else l).toArray⟩, .bool (decide (l.head? = some c))]) ∧ w' = w := by
  have h := Tryd.strings_CutPrefix ⟨l.toArray⟩ ⟨#[c]⟩ w
  have h1 := (cut_one l c).1
  have h2 := (cut_one l c).2
  have e1 : (⟨l.toArray⟩ : ByteArray).data.toList = l := rfl
  have e2 : (⟨#[c]⟩ : ByteArray).data.toList = [c] := rfl
  rw [e1, e2, h1, h2] at h
  exact h

theorem numericL_le (l : List UInt8) : (numericL l).2 ≤ 100 := by
  have h1 := frontL_len hexS 6 (l.drop 1)
  have h2 := frontL_len digS 7 l
  unfold numericL
  by_cases hx : l.head? = some 120 ∨ l.head? = some 88
  · simp only [hx, if_true]
    split
    · exact Nat.zero_le _
    · show 1 + _ + 1 ≤ 100; omega
  · simp only [hx, if_false]
    split
    · exact Nat.zero_le _
    · show 0 + _ + 1 ≤ 100; omega

theorem ba_list (s : ByteArray) : s = ⟨s.data.toList.toArray⟩ := by
  apply ByteArray.ext; simp

set_option maxHeartbeats 2000000 in
set_option maxRecDepth 100000 in
theorem entity_out (s : ByteArray) (at' : Int) (w : World) (hat : ¬ (0 ≤ at' ∧ at' < s.size)) :
    Calls Tryd.prog 16 #[.string s, .int .i64 at'] w fun e w' => e = .returned (.tuple #[.string ⟨#[]⟩, .int .i64 0]) ∧ w = w' := by
  by_cases h0 : 0 ≤ at'
  · have h1 : (s.size : Int) ≤ at' := by omega
    go_enter Tryd.func16, Tryd.ntmps16
    go_wp2_with fail
    go_ret2
    exact ⟨rfl, rfl⟩
  · have h1 : at' < 0 := by omega
    go_enter Tryd.func16, Tryd.ntmps16
    go_wp2_with fail
    go_ret2
    exact ⟨rfl, rfl⟩

set_option maxHeartbeats 4000000 in
set_option maxRecDepth 100000 in
theorem entity_in (s : ByteArray) (pos : Nat) (w : World) (hp : pos < s.size) (hs : s.size ≤ 140737488351232) (hE : EnvS w) :
    Calls Tryd.prog 16 #[.string s, .int .i64 pos] w fun e w' => e = .returned (.tuple #[.string ⟨(entL (s.data.toList.drop pos)).1.toArray⟩, .int .i64 (entL (s.data.toList.drop pos)).2]) ∧ Below w.heap.size w w' := by
  have hx : s.extract pos s.size = ⟨(s.data.toList.drop pos).toArray⟩ := extract_list s pos
  have hxl : (s.data.toList.drop pos).length ≤ 140737488351232 := by simp; have : s.data.size = s.size := rfl; omega
  generalize s.data.toList.drop pos = l at *
  have HX := Lib.hid hx
  have hC1 := Lib.hid (fun w => cut_any l 38 w)
  have hC2 := Lib.hid (fun w => cut_any (l.drop 1) 35 w)
  rw [← hx] at hC1
  clear hx
  by_cases h38 : l.head? = some 38
  · simp only [h38, if_true, decide_true] at hC1
    by_cases h35 : (l.drop 1).head? = some 35
    · simp only [h35, if_true, decide_true] at hC2
      have hN := Lib.hid (fun w => numeric_any ⟨((l.drop 1).drop 1).toArray⟩ w (by rw [size_list]; simp; omega))
      have e1 : (⟨((l.drop 1).drop 1).toArray⟩ : ByteArray).data.toList = l.drop 2 := by simp
      rw [e1] at hN
      have hent : entL l = (if (numericL (l.drop 2)).2 = 0 then ([], 0) else ((numericL (l.drop 2)).1, (numericL (l.drop 2)).2 + 2)) := by
        unfold entL; rw [if_pos h38, if_pos h35]
      rw [hent]
      have hnb := numericL_le (l.drop 2)
      clear hent h38 h35 e1 HX
      generalize numericL (l.drop 2) = r at *
      obtain ⟨c, n⟩ := r
      simp only at *
      generalize (l.drop 1).drop 1 = l2 at *
      generalize l.drop 1 = l1 at *
      obtain ⟨m, hm⟩ : ∃ m : Int, m = n := ⟨_, rfl⟩
      rw [← hm] at hN
      by_cases hn : n = 0
      · have hm0 : m = 0 := by omega
        subst hm0
        rw [if_pos hn]
        clear hm hn hnb
        go_enter Tryd.func16, Tryd.ntmps16
        go_wp2_with fail
        refine (hC1.out _).mono ?_
        rintro e w1 ⟨rfl, rfl⟩
        go_wp2_with fail
        refine (hC2.out _).mono ?_
        rintro e w1 ⟨rfl, rfl⟩
        go_wp2_with fail
        refine (hN.out _ hE).mono ?_
        rintro e w2 ⟨rfl, hb⟩
        go_wp2_with fail
        go_ret2
        exact ⟨rfl, hb⟩
      · rw [if_neg hn]
        have hmn : (m == 0) = false := beq_eq_false_iff_ne.mpr (by omega)
        have hm2 : ((n + 2 : Nat) : Int) = m + 2 := by omega
        have hm1 : m ≤ 1000 := by omega
        have hm3 : 0 ≤ m := by omega
        simp only [hm2]
        clear hm hn hnb hm2
        go_enter Tryd.func16, Tryd.ntmps16
        go_wp2_with fail
        refine (hC1.out _).mono ?_
        rintro e w1 ⟨rfl, rfl⟩
        go_wp2_with fail
        refine (hC2.out _).mono ?_
        rintro e w1 ⟨rfl, rfl⟩
        go_wp2_with fail
        refine (hN.out _ hE).mono ?_
        rintro e w2 ⟨rfl, hb⟩
        go_wp2_with fail
        go_ret2
        exact ⟨rfl, hb⟩
    · simp only [h35, if_false, decide_false, Bool.false_eq_true] at hC2
      have hF := Lib.hid (fun w => frontL_any (letS ++ digS) ascii_let (by decide) ⟨(l.drop 1).toArray⟩ 8 8 rfl w (by rw [size_list]; simp; omega) (by decide))
      have e1 : (⟨(l.drop 1).toArray⟩ : ByteArray).data.toList = l.drop 1 := rfl
      rw [e1] at hF
      have hfl := frontL_len (letS ++ digS) 8 (l.drop 1)
      have hfl2 := frontL_le (letS ++ digS) 8 (l.drop 1)
      have hent : entL l = (match entOf (frontL (letS ++ digS) 8 (l.drop 1)) with
          | none => ([], 0)
          | some n => if (l.drop (1 + (frontL (letS ++ digS) 8 (l.drop 1)).length)).head? = some 59 then (charB n, (frontL (letS ++ digS) 8 (l.drop 1)).length + 2) else ([], 0)) := by
        unfold entL; rw [if_pos h38, if_neg h35]
        rfl
      rw [hent]
      have hE1 := Lib.hid (fun w => entity_any ⟨(frontL (letS ++ digS) 8 (l.drop 1)).toArray⟩ w)
      have e2 : (⟨(frontL (letS ++ digS) 8 (l.drop 1)).toArray⟩ : ByteArray).data.toList = frontL (letS ++ digS) 8 (l.drop 1) := rfl
      rw [e2] at hE1
      have hH := Lib.hid (fun w => Tryd.strings_HasPrefix ⟨((l.drop 1).drop (frontL (letS ++ digS) 8 (l.drop 1)).length).toArray⟩ ⟨#[59]⟩ w)
      have e3 : ((⟨((l.drop 1).drop (frontL (letS ++ digS) 8 (l.drop 1)).length).toArray⟩ : ByteArray).data.toList) = l.drop (1 + (frontL (letS ++ digS) 8 (l.drop 1)).length) := by
        show (l.drop 1).drop _ = _
        rw [List.drop_drop]
      rw [e3] at hH
      have e4 : Lib.hasPrefix (l.drop (1 + (frontL (letS ++ digS) 8 (l.drop 1)).length)) (⟨#[59]⟩ : ByteArray).data.toList = decide ((l.drop (1 + (frontL (letS ++ digS) 8 (l.drop 1)).length)).head? = some 59) := (cut_one _ 59).2
      rw [e4] at hH
      have hbd : ∀ n, entOf (frontL (letS ++ digS) 8 (l.drop 1)) = some n → 0 ≤ n ∧ n ≤ 1114111 := fun n h => entOf_le _ n h
      clear hent h38 h35 e1 e2 e3 e4 HX
      generalize entOf (frontL (letS ++ digS) 8 (l.drop 1)) = o at *
      generalize frontL (letS ++ digS) 8 (l.drop 1) = name at *
      generalize (l.drop (1 + name.length)).head? = hd at *
      have hll : (l.drop 1).length ≤ 140737488351232 := by simp; omega
      generalize l.drop 1 = l1 at *
      have hx2 : (⟨l1.toArray⟩ : ByteArray).extract name.length l1.length = ⟨(l1.drop name.length).toArray⟩ := by
        have := extract_list ⟨l1.toArray⟩ name.length
        rw [size_list] at this
        exact this
      rw [← hx2] at hH
      clear hx2
      cases o with
      | none =>
        simp only [Option.getD_none, Option.isSome_none] at hE1
        show Calls _ _ _ _ fun e w' => e = .returned (.tuple #[.string ⟨#[]⟩, .int .i64 0]) ∧ _
        clear hbd
        go_enter Tryd.func16, Tryd.ntmps16
        go_wp2_with fail
        refine (hC1.out _).mono ?_
        rintro e w1 ⟨rfl, rfl⟩
        go_wp2_with fail
        refine (hC2.out _).mono ?_
        rintro e w1 ⟨rfl, rfl⟩
        go_wp2_with fail
        refine (hF.out _).mono ?_
        rintro e w1 ⟨rfl, hb⟩
        go_wp2_with fail
        refine (hE1.out _).mono ?_
        rintro e w2 ⟨rfl, hb2⟩
        go_wp2_with fail
        go_ret2
        exact ⟨rfl, hb.trans (hb2.mono hb.size)⟩
      | some n =>
        obtain ⟨hn0, hn1⟩ := hbd n rfl
        have hCh := Lib.hid (fun w => char_any n w hn0 (by omega))
        simp only [Option.getD_some, Option.isSome_some] at hE1
        by_cases h59 : hd = some 59
        · simp only [h59, decide_true] at hH
          simp only [h59, if_true]
          clear hbd h59 hn0 hn1
          go_enter Tryd.func16, Tryd.ntmps16
          go_wp2_with fail
          refine (hC1.out _).mono ?_
          rintro e w1 ⟨rfl, rfl⟩
          go_wp2_with fail
          refine (hC2.out _).mono ?_
          rintro e w1 ⟨rfl, rfl⟩
          go_wp2_with fail
          refine (hF.out _).mono ?_
          rintro e w1 ⟨rfl, hb⟩
          go_wp2_with fail
          refine (hE1.out _).mono ?_
          rintro e w2 ⟨rfl, hb2⟩
          go_wp2_with fail
          refine (hH.out _).mono ?_
          rintro e w3 ⟨rfl, rfl⟩
          go_wp2_with fail
          refine (hCh.out _).mono ?_
          rintro e w3 ⟨rfl, rfl⟩
          go_wp2_with fail
          go_ret2
          exact ⟨ret_v (by show Value.tuple #[_, .int .i64 _] = _; congr 4), hb.trans (hb2.mono hb.size)⟩
        · simp only [h59, decide_false] at hH
          simp only [h59, if_false]
          clear hbd h59 hn0 hn1
          go_enter Tryd.func16, Tryd.ntmps16
          go_wp2_with fail
          refine (hC1.out _).mono ?_
          rintro e w1 ⟨rfl, rfl⟩
          go_wp2_with fail
          refine (hC2.out _).mono ?_
          rintro e w1 ⟨rfl, rfl⟩
          go_wp2_with fail
          refine (hF.out _).mono ?_
          rintro e w1 ⟨rfl, hb⟩
          go_wp2_with fail
          refine (hE1.out _).mono ?_
          rintro e w2 ⟨rfl, hb2⟩
          go_wp2_with fail
          refine (hH.out _).mono ?_
          rintro e w3 ⟨rfl, rfl⟩
          go_wp2_with fail
          go_ret2
          exact ⟨rfl, hb.trans (hb2.mono hb.size)⟩
  · simp only [h38, if_false, decide_false, Bool.false_eq_true] at hC1
    have hent : entL l = ([], 0) := by unfold entL; rw [if_neg h38]
    rw [hent]
    clear hent h38 hC2 HX
    go_enter Tryd.func16, Tryd.ntmps16
    go_wp2_with fail
    refine (hC1.out _).mono ?_
    rintro e w1 ⟨rfl, rfl⟩
    go_wp2_with fail
    go_ret2
    exact ⟨rfl, Below.refl _ _⟩

theorem entity_at (s : ByteArray) (at' : Int) (w : World) (hs : s.size ≤ 140737488351232) (hE : EnvS w) :
    Calls Tryd.prog 16 #[.string s, .int .i64 at'] w fun e w' => e = .returned (.tuple #[.string ⟨(entAt s at').1.toArray⟩, .int .i64 (entAt s at').2]) ∧ Below w.heap.size w w' := by
  unfold entAt
  by_cases h : 0 ≤ at' ∧ at' < s.size
  · rw [if_pos h]
    obtain ⟨pos, rfl⟩ := Int.eq_ofNat_of_zero_le h.1
    exact entity_in s pos w (by omega) hs hE
  · rw [if_neg h]
    refine (entity_out s at' w h).mono ?_
    rintro e w' ⟨rfl, rfl⟩
    exact ⟨rfl, Below.refl _ _⟩
end Go.Proofs.YtghiboknhjnlkaaDoor
