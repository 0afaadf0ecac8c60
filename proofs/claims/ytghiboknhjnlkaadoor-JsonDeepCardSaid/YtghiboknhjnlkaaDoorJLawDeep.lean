/- The law JsonDeep: arrays or objects within each other are read up to 64 of them. -/
import Derived.Test.YtghiboknhjnlkaaDoorJAlive
import Derived.Test.YtghiboknhjnlkaaDoorJDeepP
set_option linter.unusedVariables false
set_option linter.unusedSimpArgs false
set_option linter.unnecessarySimpa false
namespace Go.Proofs.YtghiboknhjnlkaaDoor
open Go.RowKit

theorem list_ba (s : ByteArray) : (⟨s.data.toList.toArray⟩ : ByteArray) = s := by cases s; simp

theorem size_app (S B : ByteArray) (n m : Nat) (h : S.size ≤ n) (hB : B.size ≤ m) : (S ++ B).size ≤ n + m := by rw [ByteArray.size_append]; omega

theorem deep_join {S T : ByteArray} {o : Bool} {k : Nat} (h1 : S.data.toList = (List.replicate k (dpB o)).flatten) (h2 : T.data.toList = 49 :: List.replicate k (dpE o)) : (S ++ T).data.toList = dpText o k [] := by
  unfold dpText
  rw [ByteArray.data_append, Array.toList_append, h1, h2, List.append_nil]

theorem deep_S {S B : ByteArray} {o : Bool} {i : Nat} (h1 : S.data.toList = (List.replicate i (dpB o)).flatten) (hB : B.data.toList = dpB o) : (S ++ B).data.toList = (List.replicate (i + 1) (dpB o)).flatten := by
  rw [ByteArray.data_append, Array.toList_append, h1, hB, List.replicate_succ', List.flatten_append]
  simp

theorem deep_T {T E : ByteArray} {o : Bool} {i : Nat} (h1 : T.data.toList = 49 :: List.replicate i (dpE o)) (hE : E.data.toList = [dpE o]) : (T ++ E).data.toList = 49 :: List.replicate (i + 1) (dpE o) := by
  rw [ByteArray.data_append, Array.toList_append, h1, hE, List.replicate_succ']
  simp

set_option maxHeartbeats 4000000 in
set_option maxRecDepth 100000 in
theorem lawDeep_any (n : Int) (o : Bool) (w : World) (hU : EnvU w) :
    Calls Tryd.prog 13 #[.int .i64 n, .bool o] w fun e w' => e = .returned (.bool true) ∧ Below w.heap.size w w' := by
  have HA := alive17_any w hU
  by_cases h1 : n < 1
  · go_enter Tryd.func13, Tryd.ntmps13
    go_wp2_with fail
    refine HA.mono ?_
    rintro e w1 ⟨rfl, b1⟩
    go_wp2_with fail
    go_ret
    exact ⟨rfl, b1⟩
  by_cases h2 : 500 < n
  · go_enter Tryd.func13, Tryd.ntmps13
    go_wp2_with fail
    refine HA.mono ?_
    rintro e w1 ⟨rfl, b1⟩
    go_wp2_with fail
    go_ret
    exact ⟨rfl, b1⟩
  obtain ⟨k, rfl⟩ : ∃ k : Nat, n = k := ⟨n.toNat, by omega⟩
  have hk0 : 0 < k := by omega
  have hk5 : k ≤ 500 := by omega
  have RB := Lib.hid (fun (S : ByteArray) (hS : S.data.toList = dpText o k []) (h : 64 < k) w hU => read_bad S (64 * dpL o) 41 (by rw [hS]; exact deep_bad o k h hk5) w hU)
  have RO := Lib.hid (fun (h : k ≤ 64) => deep_ok o k hk0 h)
  cases o
  · simp only [dpL, Bool.false_eq_true, if_false, if_true, Nat.reduceMul] at RB
    go_enter Tryd.func13, Tryd.ntmps13
    go_wp2_with fail
    refine HA.mono ?_
    rintro e w1 ⟨rfl, b1⟩
    go_wp2_with fail
    go_loop [7, 8, 9] (fun v7 v8 v9 => ∃ (i : Nat) (S T : ByteArray), v7 = .string S ∧ v8 = .string T ∧ v9 = .int .i64 i ∧ i ≤ k ∧ S.size ≤ 5 * i ∧ T.size ≤ i + 1 ∧ Hid (S.data.toList = (List.replicate i (dpB false)).flatten) ∧ Hid (T.data.toList = 49 :: List.replicate i (dpE false))) (fun _ _ v9 => k - (intOf v9).toNat)
    case atStart => exact ⟨0, _, _, rfl, rfl, rfl, Nat.zero_le _, by decide, by decide, rfl, rfl⟩
    case round =>
      obtain ⟨i, S, T, rfl, rfl, rfl, hi, hz1, hz2, HS, HT⟩ := hrel
      by_cases hlt : i < k
      · have HS2 := Lib.hid (deep_S (B := ⟨#[91]⟩) HS.out rfl)
        have HT2 := Lib.hid (deep_T (E := ⟨#[93]⟩) HT.out rfl)
        have HZ1 := Lib.hid (Nat.le_trans (size_app S ⟨#[91]⟩ _ 5 hz1 (by decide)) (show 5 * i + 5 ≤ 5 * (i + 1) by omega))
        have HZ2 := Lib.hid (size_app T ⟨#[93]⟩ _ 1 hz2 (by decide))
        go_wp2_with fail
        go_round
        case rel => exact ⟨i + 1, _, _, rfl, rfl, by go_num, by omega, HZ1.out, HZ2.out, HS2, HT2⟩
        case measure => simp [intOf]; omega
      · have hik : i = k := by omega
        have HST := Lib.hid (deep_join (o := false) (k := k) (by rw [← hik]; exact HS.out) (by rw [← hik]; exact HT.out))
        clear hik
        by_cases h64 : 64 < k
        · have K := Lib.hid (RB.out (S ++ T) HST.out h64)
          go_wp2_with fail
          refine (K.out _ (hU.below b1)).mono ?_
          rintro e w2 ⟨rfl, b2⟩
          go_wp2_with fail
          go_ret
          exact ⟨rfl, (bthen b1 b2).alloc (bthen b1 b2).size _⟩
        · obtain ⟨v, hv, hvk⟩ := RO.out (by omega)
          have K := Lib.hid (fun w hU => read_ok (S ++ T) v (by rw [HST.out]; exact hv) w hU)
          simp only [hvk] at K
          clear hvk hv
          go_wp2_with fail
          refine (K.out _ (hU.below b1)).mono ?_
          rintro e w2 ⟨a1, c1, a2, c2, rfl, -, b2⟩
          go_wp2_with fail
          go_ret
          exact ⟨rfl, (bthen b1 b2).alloc (bthen b1 b2).size _⟩
  · simp only [dpL, Bool.false_eq_true, if_false, if_true, Nat.reduceMul] at RB
    go_enter Tryd.func13, Tryd.ntmps13
    go_wp2_with fail
    refine HA.mono ?_
    rintro e w1 ⟨rfl, b1⟩
    go_wp2_with fail
    go_loop [7, 8, 9] (fun v7 v8 v9 => ∃ (i : Nat) (S T : ByteArray), v7 = .string S ∧ v8 = .string T ∧ v9 = .int .i64 i ∧ i ≤ k ∧ S.size ≤ 5 * i ∧ T.size ≤ i + 1 ∧ Hid (S.data.toList = (List.replicate i (dpB true)).flatten) ∧ Hid (T.data.toList = 49 :: List.replicate i (dpE true))) (fun _ _ v9 => k - (intOf v9).toNat)
    case atStart => exact ⟨0, _, _, rfl, rfl, rfl, Nat.zero_le _, by decide, by decide, rfl, rfl⟩
    case round =>
      obtain ⟨i, S, T, rfl, rfl, rfl, hi, hz1, hz2, HS, HT⟩ := hrel
      by_cases hlt : i < k
      · have HS2 := Lib.hid (deep_S (B := ⟨#[123, 34, 97, 34, 58]⟩) HS.out rfl)
        have HT2 := Lib.hid (deep_T (E := ⟨#[125]⟩) HT.out rfl)
        have HZ1 := Lib.hid (Nat.le_trans (size_app S ⟨#[123, 34, 97, 34, 58]⟩ _ 5 hz1 (by decide)) (show 5 * i + 5 ≤ 5 * (i + 1) by omega))
        have HZ2 := Lib.hid (size_app T ⟨#[125]⟩ _ 1 hz2 (by decide))
        go_wp2_with fail
        go_round
        case rel => exact ⟨i + 1, _, _, rfl, rfl, by go_num, by omega, HZ1.out, HZ2.out, HS2, HT2⟩
        case measure => simp [intOf]; omega
      · have hik : i = k := by omega
        have HST := Lib.hid (deep_join (o := true) (k := k) (by rw [← hik]; exact HS.out) (by rw [← hik]; exact HT.out))
        clear hik
        by_cases h64 : 64 < k
        · have K := Lib.hid (RB.out (S ++ T) HST.out h64)
          go_wp2_with fail
          refine (K.out _ (hU.below b1)).mono ?_
          rintro e w2 ⟨rfl, b2⟩
          go_wp2_with fail
          go_ret
          exact ⟨rfl, (bthen b1 b2).alloc (bthen b1 b2).size _⟩
        · obtain ⟨v, hv, hvk⟩ := RO.out (by omega)
          have K := Lib.hid (fun w hU => read_ok (S ++ T) v (by rw [HST.out]; exact hv) w hU)
          simp only [hvk] at K
          clear hvk hv
          go_wp2_with fail
          refine (K.out _ (hU.below b1)).mono ?_
          rintro e w2 ⟨a1, c1, a2, c2, rfl, -, b2⟩
          go_wp2_with fail
          go_ret
          exact ⟨rfl, (bthen b1 b2).alloc (bthen b1 b2).size _⟩
end Go.Proofs.YtghiboknhjnlkaaDoor
