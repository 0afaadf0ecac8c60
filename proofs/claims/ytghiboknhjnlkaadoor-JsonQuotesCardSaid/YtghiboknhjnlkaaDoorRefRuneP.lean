/- Plain laws: how the document reads a character, byte by byte. No program. -/
import Derived.Test.YtghiboknhjnlkaaDoorTxtR
import Derived.Lib.TrimUEq
set_option linter.unusedVariables false
set_option linter.unusedSimpArgs false
set_option linter.unnecessarySimpa false
namespace Go.Proofs.YtghiboknhjnlkaaDoor
open Go.Lib (decodeN)

/-- a first byte: how many bytes its character has, and the first bits -/
def Cls (b0 n v0 : Nat) : Prop := (192 ≤ b0 ∧ b0 < 224 ∧ n = 2 ∧ v0 = b0 - 192) ∨ (224 ≤ b0 ∧ b0 < 240 ∧ n = 3 ∧ v0 = b0 - 224) ∨ (240 ≤ b0 ∧ b0 < 248 ∧ n = 4 ∧ v0 = b0 - 240)

/-- the number, byte by byte -/
def pvv (B : Nat → Nat) (v0 : Nat) : Nat → Int
  | 0 => v0
  | 1 => v0
  | k + 2 => pvv B v0 (k + 1) * 64 + B (k + 1) - 128

def least (n : Nat) : Int := if n = 2 then 128 else if n = 3 then 2048 else 65536

theorem dec_ascii (N b0 b1 b2 b3 : Nat) (h : b0 < 128) : decodeN N b0 b1 b2 b3 = (b0, 1) := by unfold decodeN; rw [if_pos h]
theorem dec_none (N b0 b1 b2 b3 : Nat) (h : 128 ≤ b0) (h2 : b0 < 192 ∨ 248 ≤ b0) : decodeN N b0 b1 b2 b3 = (65533, 1) := by
  unfold decodeN
  rw [if_neg (by omega), if_neg (by omega), if_neg (by omega), if_neg (by omega)]
theorem dec_short (N b0 n v0 b1 b2 b3 : Nat) (h : Cls b0 n v0) (h2 : N < n) : decodeN N b0 b1 b2 b3 = (65533, 1) := by
  unfold decodeN
  rcases h with h | h | h <;> rw [if_neg (by omega), if_neg (by omega), if_neg (by omega), if_neg (by omega)]
theorem dec_bad (N b0 n v0 : Nat) (B : Nat → Nat) (h : Cls b0 n v0) (k : Nat) (hk : 1 ≤ k ∧ k < n) (hb : ¬ (128 ≤ B k ∧ B k < 192)) : decodeN N b0 (B 1) (B 2) (B 3) = (65533, 1) := by
  have hk3 : k = 1 ∨ k = 2 ∨ k = 3 := by rcases h with h | h | h <;> omega
  unfold decodeN
  rcases hk3 with rfl | rfl | rfl <;> rcases h with h | h | h <;> first | (exfalso; omega) | rw [if_neg (by omega), if_neg (by omega), if_neg (by omega), if_neg (by omega)]

theorem dec_good (N b0 n v0 : Nat) (B : Nat → Nat) (h : Cls b0 n v0) (hN : n ≤ N) (hb : ∀ j, 1 ≤ j → j < n → 128 ≤ B j ∧ B j < 192) :
    0 ≤ pvv B v0 n ∧ decodeN N b0 (B 1) (B 2) (B 3) = if pvv B v0 n < least n ∨ 1114111 < pvv B v0 n ∨ 55296 ≤ pvv B v0 n ∧ pvv B v0 n < 57344 then (65533, 1) else ((pvv B v0 n).toNat, n) := by
  unfold Cls at h
  rcases h with ⟨h1, h2, rfl, h4⟩ | ⟨h1, h2, rfl, h4⟩ | ⟨h1, h2, rfl, h4⟩
  · have k1 := hb 1 (by omega) (by omega)
    rw [show pvv B v0 2 = (v0 : Int) * 64 + B 1 - 128 from rfl, show least 2 = 128 from rfl]
    generalize B 1 = x1 at *
    generalize B 2 = x2 at *
    generalize B 3 = x3 at *
    refine ⟨by omega, ?_⟩
    unfold decodeN
    rw [if_neg (by omega), if_pos (by omega)]
    by_cases hc : b0 % 32 * 64 + x1 % 64 ≥ 128
    · rw [if_pos hc, if_neg (by omega), Prod.mk.injEq]; exact ⟨by omega, rfl⟩
    · rw [if_neg hc, if_pos (by omega)]
  · have k1 := hb 1 (by omega) (by omega)
    have k2 := hb 2 (by omega) (by omega)
    rw [show pvv B v0 3 = ((v0 : Int) * 64 + B 1 - 128) * 64 + B 2 - 128 from rfl, show least 3 = 2048 from rfl]
    generalize B 1 = x1 at *
    generalize B 2 = x2 at *
    generalize B 3 = x3 at *
    refine ⟨by omega, ?_⟩
    unfold decodeN
    rw [if_neg (by omega), if_neg (by omega), if_pos (by omega)]
    by_cases hc : b0 % 16 * 4096 + x1 % 64 * 64 + x2 % 64 ≥ 2048 ∧ (b0 % 16 * 4096 + x1 % 64 * 64 + x2 % 64 < 55296 ∨ (57344 ≤ b0 % 16 * 4096 + x1 % 64 * 64 + x2 % 64 ∧ b0 % 16 * 4096 + x1 % 64 * 64 + x2 % 64 ≤ 1114111))
    · rw [if_pos hc, if_neg (by omega), Prod.mk.injEq]; exact ⟨by omega, rfl⟩
    · rw [if_neg hc, if_pos (by omega)]
  · have k1 := hb 1 (by omega) (by omega)
    have k2 := hb 2 (by omega) (by omega)
    have k3 := hb 3 (by omega) (by omega)
    rw [show pvv B v0 4 = (((v0 : Int) * 64 + B 1 - 128) * 64 + B 2 - 128) * 64 + B 3 - 128 from rfl, show least 4 = 65536 from rfl]
    generalize B 1 = x1 at *
    generalize B 2 = x2 at *
    generalize B 3 = x3 at *
    refine ⟨by omega, ?_⟩
    unfold decodeN
    rw [if_neg (by omega), if_neg (by omega), if_neg (by omega), if_pos (by omega)]
    by_cases hc : b0 % 8 * 262144 + x1 % 64 * 4096 + x2 % 64 * 64 + x3 % 64 ≥ 65536 ∧ (b0 % 8 * 262144 + x1 % 64 * 4096 + x2 % 64 * 64 + x3 % 64 < 55296 ∨ (57344 ≤ b0 % 8 * 262144 + x1 % 64 * 4096 + x2 % 64 * 64 + x3 % 64 ∧ b0 % 8 * 262144 + x1 % 64 * 4096 + x2 % 64 * 64 + x3 % 64 ≤ 1114111))
    · rw [if_pos hc, if_neg (by omega), Prod.mk.injEq]; exact ⟨by omega, rfl⟩
    · rw [if_neg hc, if_pos (by omega)]
end Go.Proofs.YtghiboknhjnlkaaDoor
