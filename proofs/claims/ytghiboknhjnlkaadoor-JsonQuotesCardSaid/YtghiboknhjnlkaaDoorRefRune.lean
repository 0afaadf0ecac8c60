/- That stetref01.Rune reads the character at a place as utf8 does. -/
import Derived.Test.YtghiboknhjnlkaaDoorRefRuneP
import Derived.Test.YtghiboknhjnlkaaDoorRefChar
import Derived.Test.YtghiboknhjnlkaaDoorClean
set_option linter.unusedVariables false
set_option linter.unusedSimpArgs false
set_option linter.unnecessarySimpa false
namespace Go.Proofs.YtghiboknhjnlkaaDoor
open Go.RowKit

def dB (s : ByteArray) (i j : Nat) : Nat := (s.get! (i + j)).toNat

theorem dB_eq (s : ByteArray) (i j : Nat) (h : i + j < s.size) : dB s i j = (s[i + j]'h).toNat := by
  unfold dB
  show (s.data[i + j]!).toNat = _
  rw [getElem!_pos s.data (i + j) h]
  rfl

theorem dB_lt (s : ByteArray) (i j : Nat) : dB s i j < 256 := UInt8.toNat_lt _

theorem dec_dB (s : ByteArray) (i : Nat) : Utf8.decode s i = Lib.decodeN (s.size - i) (dB s i 0) (dB s i 1) (dB s i 2) (dB s i 3) := Lib.decode_at s i

theorem pvv_bd (B : Nat → Nat) (v0 k : Nat) (h0 : v0 < 32) (hk : 1 ≤ k ∧ k ≤ 3) (hb : ∀ j, 1 ≤ j → j < k → 128 ≤ B j ∧ B j < 192) : 0 ≤ pvv B v0 k ∧ pvv B v0 k < 200000 := by
  have : k = 1 ∨ k = 2 ∨ k = 3 := by omega
  rcases this with rfl | rfl | rfl
  · show 0 ≤ (v0 : Int) ∧ (v0 : Int) < 200000; omega
  · have := hb 1 (by omega) (by omega)
    show 0 ≤ (v0 : Int) * 64 + B 1 - 128 ∧ (v0 : Int) * 64 + B 1 - 128 < 200000; omega
  · have := hb 1 (by omega) (by omega)
    have := hb 2 (by omega) (by omega)
    show 0 ≤ ((v0 : Int) * 64 + B 1 - 128) * 64 + B 2 - 128 ∧ ((v0 : Int) * 64 + B 1 - 128) * 64 + B 2 - 128 < 200000; omega

theorem pvv_next (B : Nat → Nat) (v0 k : Nat) (hk : 1 ≤ k) : pvv B v0 (k + 1) = pvv B v0 k * 64 + B k - 128 := by
  obtain ⟨m, rfl⟩ : ∃ m, k = m + 1 := ⟨k - 1, by omega⟩
  rfl

set_option maxHeartbeats 4000000 in
set_option maxRecDepth 100000 in
theorem refRune_any (s : ByteArray) (pos : Nat) (w : World) (hp : pos < s.size) (hs : s.size ≤ 140737488351232) :
    Calls Tryd.prog 68 #[.string s, .int .i64 pos] w fun e w' => e = .returned (.tuple #[.int .i64 (Utf8.decode s pos).1, .int .i64 (Utf8.decode s pos).2]) ∧ Below w.heap.size w w' := by
  rw [dec_dB]
  have hall : ∀ j (h : pos + j < s.size), dB s pos j = (s[pos + j]'h).toNat := fun j h => dB_eq s pos j h
  have h0 : dB s pos 0 = (s[pos]'hp).toNat := dB_eq s pos 0 hp
  have hlt := dB_lt s pos 0
  generalize dB s pos = B at *
  have HALL := Lib.hid hall
  clear hall
  have h256 : ((s[pos]'hp).toNat : Int) < 256 := by omega
  have h00 : (0 : Int) ≤ ((s[pos]'hp).toNat : Int) := by omega
  by_cases ha : B 0 < 128
  · rw [dec_ascii _ _ _ _ _ ha]
    have hc : ((s[pos]'hp).toNat : Int) < 128 := by omega
    rw [h0]
    clear h0 ha hlt
    go_enter Tryd.func68, Tryd.ntmps68
    go_wp2
    go_ret2
    exact ⟨rfl, Below.refl _ _⟩
  have hge : (128 : Int) ≤ ((s[pos]'hp).toNat : Int) := by omega
  by_cases hn1 : B 0 < 192
  · rw [dec_none _ _ _ _ _ (by omega) (.inl hn1)]
    have hc2 : ((s[pos]'hp).toNat : Int) < 192 := by omega
    clear h0 ha hlt hn1
    go_enter Tryd.func68, Tryd.ntmps68
    go_wp2
    go_ret2
    exact ⟨rfl, Below.refl _ _⟩
  by_cases hn2 : 248 ≤ B 0
  · rw [dec_none _ _ _ _ _ (by omega) (.inr hn2)]
    have hc2 : 248 ≤ ((s[pos]'hp).toNat : Int) := by omega
    clear h0 ha hlt hn1 hn2
    go_enter Tryd.func68, Tryd.ntmps68
    go_wp2
    go_ret2
    exact ⟨rfl, Below.refl _ _⟩
  by_cases hx2 : B 0 < 224
  · have hc2 : 192 ≤ ((s[pos]'hp).toNat : Int) := by omega
    have hc3 : ((s[pos]'hp).toNat : Int) < 224 := by omega
    have hcls : Cls (B 0) 2 (B 0 - 192) := by unfold Cls; omega
    have hv0 : ((B 0 - 192 : Nat) : Int) = ((s[pos]'hp).toNat : Int) - 192 := by omega
    have hv32 : B 0 - 192 < 32 := by omega
    generalize B 0 - 192 = v0 at *
    by_cases hN : s.size - pos < 2
    · rw [dec_short _ _ 2 v0 _ _ _ hcls hN]
      have hc4 : (s.size : Int) - (pos : Int) < 2 := by omega
      clear h0 ha hlt hn1 hn2 hcls hv0 hN hv32
      go_enter Tryd.func68, Tryd.ntmps68
      go_wp2
      go_ret2
      exact ⟨rfl, Below.refl _ _⟩
    · have hc4 : 2 ≤ (s.size : Int) - (pos : Int) := by omega
      have HBAD := Lib.hid (fun k hk hb => dec_bad (s.size - pos) (B 0) 2 v0 B hcls k hk hb)
      have HGOOD := Lib.hid (fun hb => dec_good (s.size - pos) (B 0) 2 v0 B hcls (by omega) hb)
      have HV0 := Lib.hid hv0
      generalize Lib.decodeN (s.size - pos) (B 0) (B 1) (B 2) (B 3) = D at *
      clear h0 ha hlt hn1 hn2 hcls hv0
      go_enter Tryd.func68, Tryd.ntmps68
      go_wp2_with fail
      go_loopw [8, 9] (fun v i wr => ∃ k : Nat, i = .int .i64 k ∧ 1 ≤ k ∧ k ≤ 2 ∧ v = .int .i64 (pvv B v0 k) ∧ Hid (∀ j, 1 ≤ j → j < k → 128 ≤ B j ∧ B j < 192) ∧ wr = w) (fun _ i _ => 2 - (intOf i).toNat)
      case atStart => exact ⟨1, rfl, by omega, by omega, by show _ = Value.int .i64 (v0 : Int); rw [HV0.out], fun j h1 h2 => by omega, rfl⟩
      case round =>
        obtain ⟨k, rfl, hk1, hkn, rfl, hcont, rfl⟩ := hrel
        by_cases hlt : k < 2
        · have hin : pos + k < s.size := by omega
          have hBk := HALL.out k hin
          have q1 : (pos : Int) + (k : Int) < s.size := by omega
          have q256 : ((s[pos + k]'hin).toNat : Int) < 256 := by have := UInt8.toNat_lt (s[pos + k]'hin); omega
          have q0 : (0 : Int) ≤ ((s[pos + k]'hin).toNat : Int) := by omega
          have hbd := pvv_bd B v0 k hv32 ⟨hk1, by omega⟩ hcont.out
          have HNX := Lib.hid (pvv_next B v0 k hk1)
          have HBK := Lib.hid hBk
          have hk8 : (k : Int) < 2 := by omega
          by_cases hb1 : (s[pos + k]'hin).toNat < 128
          · have q2 : ((s[pos + k]'hin).toNat : Int) < 128 := by omega
            have HD := Lib.hid (HBAD.out k ⟨hk1, hlt⟩ (by omega))
            clear hBk hb1
            generalize pvv B v0 k = v at *
            go_wp2
            go_ret2
            exact ⟨by rw [HD.out]; rfl, Below.refl _ _⟩
          have q2 : (128 : Int) ≤ ((s[pos + k]'hin).toNat : Int) := by omega
          by_cases hb2 : 192 ≤ (s[pos + k]'hin).toNat
          · have q3 : (192 : Int) ≤ ((s[pos + k]'hin).toNat : Int) := by omega
            have HD := Lib.hid (HBAD.out k ⟨hk1, hlt⟩ (by omega))
            clear hBk hb1 hb2
            generalize pvv B v0 k = v at *
            go_wp2
            go_ret2
            exact ⟨by rw [HD.out]; rfl, Below.refl _ _⟩
          have q3 : ((s[pos + k]'hin).toNat : Int) < 192 := by omega
          have HC2 := Lib.hid (show ∀ j, 1 ≤ j → j < k + 1 → 128 ≤ B j ∧ B j < 192 from fun j h1 h2 => by
            by_cases hj : j < k
            · exact hcont.out j h1 hj
            · obtain rfl : j = k := by omega
              omega)
          clear hBk hb1 hb2
          obtain ⟨v, hv⟩ : ∃ v, v = pvv B v0 k := ⟨_, rfl⟩
          rw [← hv] at hbd HNX ⊢
          have HV := Lib.hid hv
          clear hv
          go_wp2
          go_roundw
          case rel =>
            simp
            refine ⟨_, _, _, _, ⟨k + 1, by go_num, by omega, by omega, ?_, HC2.out⟩, rfl, rfl, rfl, rfl, hp, fun h => by omega⟩
            rw [HNX.out, HBK.out]
          case measure => simp [intOf]; omega
        · have hke : k = 2 := by omega
          subst hke
          have hg := HGOOD.out hcont.out
          have hle : least 2 = 128 := rfl
          rw [hle] at hg
          have hvb : pvv B v0 2 < 20000000 := by
            have h3 := pvv_bd B v0 1 hv32 (by omega) (fun j h1 h2 => hcont.out j h1 (by omega))
            have h4 := pvv_next B v0 1 (by omega)
            have h5 := hcont.out 1 (by omega) (by omega)
            simp only [show 1 + 1 = 2 from rfl] at h4
            omega
          generalize pvv B v0 2 = v at *
          obtain ⟨hg0, hg1⟩ := hg
          have hcs : v < 128 ∨ (128 ≤ v ∧ 1114111 < v) ∨ (128 ≤ v ∧ v ≤ 1114111 ∧ 55296 ≤ v ∧ v < 57344) ∨ (128 ≤ v ∧ v ≤ 1114111 ∧ v < 55296) ∨ (128 ≤ v ∧ v ≤ 1114111 ∧ 55296 ≤ v ∧ 57344 ≤ v) := by omega
          rcases hcs with g1 | ⟨g1, g2⟩ | ⟨g1, g2, g3, g4⟩ | ⟨g1, g2, g3⟩ | ⟨g1, g2, g3, g4⟩
          all_goals first | (exfalso; omega) | skip
          all_goals
            first
            | (rw [if_pos (by omega)] at hg1)
            | (rw [if_neg (by omega)] at hg1)
            have HD := Lib.hid hg1
            clear hg1
            go_wp2
            go_ret2
            exact ⟨by rw [HD.out]; first | rfl | (simp only []; rw [Int.toNat_of_nonneg hg0]; rfl), (Below.refl _ _).alloc (Nat.le_refl _) _⟩
  by_cases hx3 : B 0 < 240
  · have hc2 : 224 ≤ ((s[pos]'hp).toNat : Int) := by omega
    have hc3 : ((s[pos]'hp).toNat : Int) < 240 := by omega
    have hcls : Cls (B 0) 3 (B 0 - 224) := by unfold Cls; omega
    have hv0 : ((B 0 - 224 : Nat) : Int) = ((s[pos]'hp).toNat : Int) - 224 := by omega
    have hv32 : B 0 - 224 < 32 := by omega
    generalize B 0 - 224 = v0 at *
    by_cases hN : s.size - pos < 3
    · rw [dec_short _ _ 3 v0 _ _ _ hcls hN]
      have hc4 : (s.size : Int) - (pos : Int) < 3 := by omega
      clear h0 ha hlt hn1 hn2 hcls hv0 hN hv32
      go_enter Tryd.func68, Tryd.ntmps68
      go_wp2
      go_ret2
      exact ⟨rfl, Below.refl _ _⟩
    · have hc4 : 3 ≤ (s.size : Int) - (pos : Int) := by omega
      have HBAD := Lib.hid (fun k hk hb => dec_bad (s.size - pos) (B 0) 3 v0 B hcls k hk hb)
      have HGOOD := Lib.hid (fun hb => dec_good (s.size - pos) (B 0) 3 v0 B hcls (by omega) hb)
      have HV0 := Lib.hid hv0
      generalize Lib.decodeN (s.size - pos) (B 0) (B 1) (B 2) (B 3) = D at *
      clear h0 ha hlt hn1 hn2 hcls hv0
      go_enter Tryd.func68, Tryd.ntmps68
      go_wp2_with fail
      go_loopw [8, 9] (fun v i wr => ∃ k : Nat, i = .int .i64 k ∧ 1 ≤ k ∧ k ≤ 3 ∧ v = .int .i64 (pvv B v0 k) ∧ Hid (∀ j, 1 ≤ j → j < k → 128 ≤ B j ∧ B j < 192) ∧ wr = w) (fun _ i _ => 3 - (intOf i).toNat)
      case atStart => exact ⟨1, rfl, by omega, by omega, by show _ = Value.int .i64 (v0 : Int); rw [HV0.out], fun j h1 h2 => by omega, rfl⟩
      case round =>
        obtain ⟨k, rfl, hk1, hkn, rfl, hcont, rfl⟩ := hrel
        by_cases hlt : k < 3
        · have hin : pos + k < s.size := by omega
          have hBk := HALL.out k hin
          have q1 : (pos : Int) + (k : Int) < s.size := by omega
          have q256 : ((s[pos + k]'hin).toNat : Int) < 256 := by have := UInt8.toNat_lt (s[pos + k]'hin); omega
          have q0 : (0 : Int) ≤ ((s[pos + k]'hin).toNat : Int) := by omega
          have hbd := pvv_bd B v0 k hv32 ⟨hk1, by omega⟩ hcont.out
          have HNX := Lib.hid (pvv_next B v0 k hk1)
          have HBK := Lib.hid hBk
          have hk8 : (k : Int) < 3 := by omega
          by_cases hb1 : (s[pos + k]'hin).toNat < 128
          · have q2 : ((s[pos + k]'hin).toNat : Int) < 128 := by omega
            have HD := Lib.hid (HBAD.out k ⟨hk1, hlt⟩ (by omega))
            clear hBk hb1
            generalize pvv B v0 k = v at *
            go_wp2
            go_ret2
            exact ⟨by rw [HD.out]; rfl, Below.refl _ _⟩
          have q2 : (128 : Int) ≤ ((s[pos + k]'hin).toNat : Int) := by omega
          by_cases hb2 : 192 ≤ (s[pos + k]'hin).toNat
          · have q3 : (192 : Int) ≤ ((s[pos + k]'hin).toNat : Int) := by omega
            have HD := Lib.hid (HBAD.out k ⟨hk1, hlt⟩ (by omega))
            clear hBk hb1 hb2
            generalize pvv B v0 k = v at *
            go_wp2
            go_ret2
            exact ⟨by rw [HD.out]; rfl, Below.refl _ _⟩
          have q3 : ((s[pos + k]'hin).toNat : Int) < 192 := by omega
          have HC2 := Lib.hid (show ∀ j, 1 ≤ j → j < k + 1 → 128 ≤ B j ∧ B j < 192 from fun j h1 h2 => by
            by_cases hj : j < k
            · exact hcont.out j h1 hj
            · obtain rfl : j = k := by omega
              omega)
          clear hBk hb1 hb2
          obtain ⟨v, hv⟩ : ∃ v, v = pvv B v0 k := ⟨_, rfl⟩
          rw [← hv] at hbd HNX ⊢
          have HV := Lib.hid hv
          clear hv
          go_wp2
          go_roundw
          case rel =>
            refine ⟨k + 1, by go_num, by omega, by omega, ?_, HC2.out, by trivial⟩
            rw [HNX.out, HBK.out]
          case measure => simp [intOf]; omega
        · have hke : k = 3 := by omega
          subst hke
          have hg := HGOOD.out hcont.out
          have hle : least 3 = 2048 := rfl
          rw [hle] at hg
          have hvb : pvv B v0 3 < 20000000 := by
            have h3 := pvv_bd B v0 2 hv32 (by omega) (fun j h1 h2 => hcont.out j h1 (by omega))
            have h4 := pvv_next B v0 2 (by omega)
            have h5 := hcont.out 2 (by omega) (by omega)
            simp only [show 2 + 1 = 3 from rfl] at h4
            omega
          generalize pvv B v0 3 = v at *
          obtain ⟨hg0, hg1⟩ := hg
          have hcs : v < 2048 ∨ (2048 ≤ v ∧ 1114111 < v) ∨ (2048 ≤ v ∧ v ≤ 1114111 ∧ 55296 ≤ v ∧ v < 57344) ∨ (2048 ≤ v ∧ v ≤ 1114111 ∧ v < 55296) ∨ (2048 ≤ v ∧ v ≤ 1114111 ∧ 55296 ≤ v ∧ 57344 ≤ v) := by omega
          rcases hcs with g1 | ⟨g1, g2⟩ | ⟨g1, g2, g3, g4⟩ | ⟨g1, g2, g3⟩ | ⟨g1, g2, g3, g4⟩
          all_goals first | (exfalso; omega) | skip
          all_goals
            first
            | (rw [if_pos (by omega)] at hg1)
            | (rw [if_neg (by omega)] at hg1)
            have HD := Lib.hid hg1
            clear hg1
            go_wp2
            go_ret2
            exact ⟨by rw [HD.out]; first | rfl | (simp only []; rw [Int.toNat_of_nonneg hg0]; rfl), (Below.refl _ _).alloc (Nat.le_refl _) _⟩
  by_cases hx4 : B 0 < 248
  · have hc2 : 240 ≤ ((s[pos]'hp).toNat : Int) := by omega
    have hc3 : ((s[pos]'hp).toNat : Int) < 248 := by omega
    have hcls : Cls (B 0) 4 (B 0 - 240) := by unfold Cls; omega
    have hv0 : ((B 0 - 240 : Nat) : Int) = ((s[pos]'hp).toNat : Int) - 240 := by omega
    have hv32 : B 0 - 240 < 32 := by omega
    generalize B 0 - 240 = v0 at *
    by_cases hN : s.size - pos < 4
    · rw [dec_short _ _ 4 v0 _ _ _ hcls hN]
      have hc4 : (s.size : Int) - (pos : Int) < 4 := by omega
      clear h0 ha hlt hn1 hn2 hcls hv0 hN hv32
      go_enter Tryd.func68, Tryd.ntmps68
      go_wp2
      go_ret2
      exact ⟨rfl, Below.refl _ _⟩
    · have hc4 : 4 ≤ (s.size : Int) - (pos : Int) := by omega
      have HBAD := Lib.hid (fun k hk hb => dec_bad (s.size - pos) (B 0) 4 v0 B hcls k hk hb)
      have HGOOD := Lib.hid (fun hb => dec_good (s.size - pos) (B 0) 4 v0 B hcls (by omega) hb)
      have HV0 := Lib.hid hv0
      generalize Lib.decodeN (s.size - pos) (B 0) (B 1) (B 2) (B 3) = D at *
      clear h0 ha hlt hn1 hn2 hcls hv0
      go_enter Tryd.func68, Tryd.ntmps68
      go_wp2_with fail
      go_loopw [8, 9] (fun v i wr => ∃ k : Nat, i = .int .i64 k ∧ 1 ≤ k ∧ k ≤ 4 ∧ v = .int .i64 (pvv B v0 k) ∧ Hid (∀ j, 1 ≤ j → j < k → 128 ≤ B j ∧ B j < 192) ∧ wr = w) (fun _ i _ => 4 - (intOf i).toNat)
      case atStart => exact ⟨1, rfl, by omega, by omega, by show _ = Value.int .i64 (v0 : Int); rw [HV0.out], fun j h1 h2 => by omega, rfl⟩
      case round =>
        obtain ⟨k, rfl, hk1, hkn, rfl, hcont, rfl⟩ := hrel
        by_cases hlt : k < 4
        · have hin : pos + k < s.size := by omega
          have hBk := HALL.out k hin
          have q1 : (pos : Int) + (k : Int) < s.size := by omega
          have q256 : ((s[pos + k]'hin).toNat : Int) < 256 := by have := UInt8.toNat_lt (s[pos + k]'hin); omega
          have q0 : (0 : Int) ≤ ((s[pos + k]'hin).toNat : Int) := by omega
          have hbd := pvv_bd B v0 k hv32 ⟨hk1, by omega⟩ hcont.out
          have HNX := Lib.hid (pvv_next B v0 k hk1)
          have HBK := Lib.hid hBk
          have hk8 : (k : Int) < 4 := by omega
          by_cases hb1 : (s[pos + k]'hin).toNat < 128
          · have q2 : ((s[pos + k]'hin).toNat : Int) < 128 := by omega
            have HD := Lib.hid (HBAD.out k ⟨hk1, hlt⟩ (by omega))
            clear hBk hb1
            generalize pvv B v0 k = v at *
            go_wp2
            go_ret2
            exact ⟨by rw [HD.out]; rfl, Below.refl _ _⟩
          have q2 : (128 : Int) ≤ ((s[pos + k]'hin).toNat : Int) := by omega
          by_cases hb2 : 192 ≤ (s[pos + k]'hin).toNat
          · have q3 : (192 : Int) ≤ ((s[pos + k]'hin).toNat : Int) := by omega
            have HD := Lib.hid (HBAD.out k ⟨hk1, hlt⟩ (by omega))
            clear hBk hb1 hb2
            generalize pvv B v0 k = v at *
            go_wp2
            go_ret2
            exact ⟨by rw [HD.out]; rfl, Below.refl _ _⟩
          have q3 : ((s[pos + k]'hin).toNat : Int) < 192 := by omega
          have HC2 := Lib.hid (show ∀ j, 1 ≤ j → j < k + 1 → 128 ≤ B j ∧ B j < 192 from fun j h1 h2 => by
            by_cases hj : j < k
            · exact hcont.out j h1 hj
            · obtain rfl : j = k := by omega
              omega)
          clear hBk hb1 hb2
          obtain ⟨v, hv⟩ : ∃ v, v = pvv B v0 k := ⟨_, rfl⟩
          rw [← hv] at hbd HNX ⊢
          have HV := Lib.hid hv
          clear hv
          go_wp2
          go_roundw
          case rel =>
            refine ⟨k + 1, by go_num, by omega, by omega, ?_, HC2.out, by trivial⟩
            rw [HNX.out, HBK.out]
          case measure => simp [intOf]; omega
        · have hke : k = 4 := by omega
          subst hke
          have hg := HGOOD.out hcont.out
          have hle : least 4 = 65536 := rfl
          rw [hle] at hg
          have hvb : pvv B v0 4 < 20000000 := by
            have h3 := pvv_bd B v0 3 hv32 (by omega) (fun j h1 h2 => hcont.out j h1 (by omega))
            have h4 := pvv_next B v0 3 (by omega)
            have h5 := hcont.out 3 (by omega) (by omega)
            simp only [show 3 + 1 = 4 from rfl] at h4
            omega
          generalize pvv B v0 4 = v at *
          obtain ⟨hg0, hg1⟩ := hg
          have hcs : v < 65536 ∨ (65536 ≤ v ∧ 1114111 < v) ∨ (65536 ≤ v ∧ v ≤ 1114111 ∧ 55296 ≤ v ∧ v < 57344) ∨ (65536 ≤ v ∧ v ≤ 1114111 ∧ v < 55296) ∨ (65536 ≤ v ∧ v ≤ 1114111 ∧ 55296 ≤ v ∧ 57344 ≤ v) := by omega
          rcases hcs with g1 | ⟨g1, g2⟩ | ⟨g1, g2, g3, g4⟩ | ⟨g1, g2, g3⟩ | ⟨g1, g2, g3, g4⟩
          all_goals first | (exfalso; omega) | skip
          all_goals
            first
            | (rw [if_pos (by omega)] at hg1)
            | (rw [if_neg (by omega)] at hg1)
            have HD := Lib.hid hg1
            clear hg1
            go_wp2
            go_ret2
            exact ⟨by rw [HD.out]; first | rfl | (simp only []; rw [Int.toNat_of_nonneg hg0]; rfl), (Below.refl _ _).alloc (Nat.le_refl _) _⟩
  exfalso; omega
end Go.Proofs.YtghiboknhjnlkaaDoor
