/- json's reader: four. -/
import Derived.Test.YtghiboknhjnlkaaDoorJNum
import Derived.StillTailTactics
set_option linter.unusedVariables false
set_option linter.unusedSimpArgs false
set_option linter.unnecessarySimpa false
namespace Go.Proofs.YtghiboknhjnlkaaDoor
open Go.RowKit

theorem u8_all (P : UInt8 → Prop) [DecidablePred P] (h : ∀ n : Fin 256, P (UInt8.ofNat n.val)) : ∀ c, P c := fun c => by
  have := h ⟨c.toNat, c.toNat_lt⟩
  simpa using this

theorem hexv : ∀ c : UInt8, hexS.contains c = decide (dval c < 16) := u8_all _ (by decide +kernel)

theorem jhas_hex (l : List UInt8) (p : Nat) : jHas l p hexS = (l[p]?).any fun c => decide (dval c < 16) := by
  unfold jHas
  congr 1
  funext c
  exact hexv c

set_option maxHeartbeats 1000000 in
set_option maxRecDepth 100000 in
theorem parseUintP_any (s : ByteArray) (base : Nat) (B : Int) (hb : base = 10 ∧ B = 10 ∨ base = 16 ∧ B = 16) (bits : Int) (hbits : bits = 32 ∨ bits = 64) (w : World) (hne : s.size ≠ 0) (hs : s.size ≤ 7) (hd : ∀ c ∈ s.data.toList, dval c < base) :
    Calls Tryd.prog 123 #[.string s, .int .i64 B, .int .i64 bits] w fun e w' => e = .returned (.tuple #[.int .u64 (numVal base s.data.toList), .nilIface]) ∧ Below w.heap.size w w' := by
  have hP := Lib.hid (fun w => parseUint_any s base B hb bits hbits w hne hs hd)
  clear hb hne hs hd hbits
  go_enter Tryd.func123, Tryd.ntmps123
  go_wp2_with (go_at_call 109; refine (hP.out _).mono ?_; rintro e w' ⟨rfl, hb⟩)
  go_ret2
  exact ⟨rfl, hb⟩

/-- how four ends -/
def FourE (s : ByteArray) (r p : Nat) (R : Except Nat Nat) (e : Ending) (w' : World) : Prop :=
  match R with
  | .ok v => e = .returned (.int .i32 v) ∧ Rd s r (p + 4) w' ∧ p + 4 ≤ s.size ∧ v < 65536
  | .error q => e = Wr q 40 ∧ q ≤ s.size

theorem take_snoc_at (l : List UInt8) (p k : Nat) (c : UInt8) (h : l[p + k]? = some c) : (l.drop p).take (k + 1) = (l.drop p).take k ++ [c] := by
  have h2 : (l.drop p)[k]? = some c := by rw [List.getElem?_drop]; exact h
  rw [List.take_add_one, h2]
  rfl

set_option maxHeartbeats 2000000 in
set_option maxRecDepth 100000 in
theorem four_any (s : ByteArray) (r p : Nat) (w : World) (hR : Rd s r p w) (hp : p ≤ s.size) (hs : s.size ≤ 140737488351232) :
    Calls Tryd.prog 114 #[RP r] w fun e w' => FourE s r p (jFour s.data.toList p) e w' ∧ Kx (· = r) w w' := by
  have hO := Lib.hid (fun (q : Nat) w h hq => one_any s r q hexS w h hq hs)
  generalize hRR : jFour s.data.toList p = RR
  have HRR := Lib.hid hRR
  have c1 := hR.c1
  clear hRR
  go_enter Tryd.func114, Tryd.ntmps114
  go_wp2
  go_loopw [10] (fun v wr => ∃ k : Nat, v = .int .i64 k ∧ k ≤ 4 ∧ Rd s r (p + k) wr ∧ p + k ≤ s.size ∧ Hid (jHex s.data.toList (4 - k) (p + k) (numVal 16 ((s.data.toList.drop p).take k)) = RR) ∧ Hid (∀ c ∈ (s.data.toList.drop p).take k, dval c < 16) ∧ Kx (· = r) w wr) (fun v _ => 4 - (intOf v).toNat)
  case atStart => exact ⟨0, rfl, by omega, hR, hp, HRR.out, by intro c hc; simp at hc, Kx.refl _ _⟩
  case round =>
    obtain ⟨k, rfl, hk, hRk, hpk, HJ, HD, hK⟩ := hrel
    by_cases hlt : k < 4
    · have hone := hO.out (p + k) wr hRk hpk
      rw [jhas_hex] at hone
      have hj := HJ.out
      obtain ⟨m, hm⟩ : ∃ m, 4 - k = m + 1 := ⟨3 - k, by omega⟩
      rw [hm] at hj
      unfold jHex at hj
      by_cases hc : ∃ c, s.data.toList[p + k]? = some c ∧ dval c < 16
      · obtain ⟨c, hc1, hc2⟩ := hc
        have hlt2 : p + k < s.size := by
          rcases Nat.lt_or_ge (p + k) s.size with h | h
          · exact h
          · rw [data_none s _ (by omega)] at hc1; cases hc1
        rw [hc1] at hj hone
        simp only [hc2, if_true, Option.any_some, decide_true] at hj hone
        have hsn := take_snoc_at _ _ _ _ hc1
        have hj2 : Hid (jHex s.data.toList (4 - (k + 1)) (p + (k + 1)) (numVal 16 ((s.data.toList.drop p).take (k + 1))) = RR) := by
          show _ = _
          rw [hsn, numVal_snoc, show 4 - (k + 1) = m by omega]
          exact hj
        have hd2 : Hid (∀ c ∈ (s.data.toList.drop p).take (k + 1), dval c < 16) := by
          intro b hb
          rw [hsn, List.mem_append] at hb
          rcases hb with hb | hb
          · exact HD.out b hb
          · obtain rfl : b = c := by simpa using hb
            exact hc2
        have HO := Lib.hid hone
        have HKK := Lib.hid hK
        clear hone hj hsn hc1 hc2 hK hO HJ HD
        go_wp2_with fail
        refine HO.out.mono ?_
        rintro e w2 ⟨rfl, hR2, k2⟩
        go_wp2_with fail
        refine (need_ok r _).mono ?_
        rintro e w3 ⟨rfl, rfl⟩
        go_wp2_with fail
        exact ⟨⟨k + 1, by go_num, by omega, hR2, by omega, hj2, hd2, HKK.out.trans k2⟩, by simp [intOf]; omega⟩
      · have hf : ((s.data.toList[p + k]?).any fun c => decide (dval c < 16)) = false := by
          cases h : s.data.toList[p + k]? with
          | none => rfl
          | some c =>
            simp only [Option.any_some, decide_eq_false_iff_not]
            intro h2
            exact hc ⟨c, h, h2⟩
        rw [hf] at hone
        have hj2 : (Except.error (p + k) : Except Nat Nat) = RR := by
          rw [← hj]
          cases h : s.data.toList[p + k]? with
          | none => rfl
          | some c =>
            simp only
            rw [if_neg (fun h2 => hc ⟨c, h, h2⟩)]
        have HO := Lib.hid hone
        have HJ2 := Lib.hid hj2
        have HKK := Lib.hid hK
        clear hone hj hj2 hc hf hK hO HJ HD
        go_wp2_with fail
        refine HO.out.mono ?_
        rintro e w2 ⟨rfl, hR2, k2⟩
        rw [if_neg (by simp)] at hR2
        go_wp2_with fail
        refine (need_bad s r _ _ hR2).mono ?_
        rintro e w3 ⟨rfl, rfl⟩
        go_wp2_with fail
        refine ⟨rfl, ?_, HKK.out.trans k2⟩
        rw [← HJ2.out]
        exact ⟨rfl, hpk⟩
    · have hke : k = 4 := by omega
      subst hke
      have hj := HJ.out
      unfold jHex at hj
      have hex : (s.extract p (p + 4)).data.toList = (s.data.toList.drop p).take 4 := by simp [List.take_drop]
      have hsz : (s.extract p (p + 4)).size = 4 := by rw [extract_size]; omega
      have HP := Lib.hid (fun w => parseUintP_any (s.extract p (p + 4)) 16 16 (.inr ⟨rfl, rfl⟩) 32 (.inl rfl) w (by omega) (by omega) (by rw [hex]; exact HD.out))
      rw [hex] at HP
      have hlt2 := numVal_lt 16 _ HD.out
      have hl4 : ((s.data.toList.drop p).take 4).length ≤ 4 := List.length_take_le _ _
      have hpow : 16 ^ ((s.data.toList.drop p).take 4).length ≤ 16 ^ 4 := Nat.pow_le_pow_right (by omega) hl4
      generalize numVal 16 ((s.data.toList.drop p).take 4) = v at *
      have hv : (v : Int) < 65536 := by omega
      have HJ2 := Lib.hid hj
      have HKK := Lib.hid hK
      clear hj hex hsz hl4 hpow hlt2 HJ HD hO hK
      have hq4 : p ≤ p + 4 := by omega
      have hfin : ∀ w', Rd s r (p + 4) w' → FourE s r p RR (.returned (.int .i32 v)) w' := by
        intro w' h
        rw [← HJ2.out]
        exact ⟨rfl, h, hpk, by omega⟩
      have HFIN := Lib.hid hfin
      clear hfin HJ2
      generalize p + 4 = q at *
      have d0 := hRk.c0
      have d1 := hRk.c1
      have hsl : (0 : Int) ≤ (p : Int) ∧ (p : Int) ≤ (q : Int) ∧ (q : Int) ≤ s.size := by omega
      go_wp2_with fail
      go_region_with (first | (go_at_call 123; refine (HP.out _).mono ?_; rintro e w2 ⟨rfl, b2⟩))
      all_goals go_wp2
      all_goals go_ret
      all_goals exact ⟨HFIN.out _ (hRk.below (bthen (Below.refl _ _).drew b2)), HKK.out.trans (Kx.of_below (bthen (Below.refl _ _).drew b2))⟩
end Go.Proofs.YtghiboknhjnlkaaDoor
