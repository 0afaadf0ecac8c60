/- That strconv.ParseUint and ParseInt read up to seven digits to the base 10 or 16. -/
import Derived.Test.YtghiboknhjnlkaaDoorBk
import Derived.Test.YtghiboknhjnlkaaDoorProg
import Derived.Test.YtghiboknhjnlkaaDoorShelf
import Derived.Lib.ConvBytes
set_option linter.unusedVariables false
set_option linter.unusedSimpArgs false
namespace Go.Proofs.YtghiboknhjnlkaaDoor
open Go.RowKit

/-- a digit's value; 99: it is none -/
def dval (c : UInt8) : Nat :=
  if 48 ≤ c.toNat ∧ c.toNat ≤ 57 then c.toNat - 48 else if 65 ≤ c.toNat ∧ c.toNat ≤ 70 then c.toNat - 55 else if 97 ≤ c.toNat ∧ c.toNat ≤ 102 then c.toNat - 87 else 99

def numVal (base : Nat) (l : List UInt8) : Nat := l.foldl (fun n c => n * base + dval c) 0

theorem numVal_snoc (base : Nat) (l : List UInt8) (c : UInt8) : numVal base (l ++ [c]) = numVal base l * base + dval c := by simp [numVal]

theorem numVal_lt (base : Nat) (l : List UInt8) (h : ∀ c ∈ l, dval c < base) : numVal base l < base ^ l.length := by
  suffices ∀ n (l : List UInt8), l.length = n → (∀ c ∈ l, dval c < base) → numVal base l < base ^ n from this _ l rfl h
  intro n
  induction n with
  | zero => intro l hl _; rw [List.eq_nil_of_length_eq_zero hl]; simp [numVal]
  | succ n ih =>
    intro l hl h
    have hne : l ≠ [] := by intro e; simp [e] at hl
    rw [← List.dropLast_concat_getLast hne] at h ⊢
    have hl2 : l.dropLast.length = n := by simp [hl]
    rw [numVal_snoc, Nat.pow_succ]
    have h1 := ih l.dropLast hl2 fun x hx => h x (by simp [hx])
    have h2 := h (l.getLast hne) (by simp)
    have h3 : (numVal base l.dropLast + 1) * base ≤ base ^ n * base := Nat.mul_le_mul_right _ h1
    rw [Nat.add_mul] at h3
    omega

theorem numVal_le (base : Nat) (d : List UInt8) (hb : base ≤ 16) (hs : d.length ≤ 7) (hd : ∀ c ∈ d, dval c < base) : numVal base d < 268435456 :=
  Nat.lt_of_lt_of_le (numVal_lt base d hd) (Nat.le_trans (Nat.pow_le_pow_left hb _) (Nat.pow_le_pow_right (by omega) hs))

/-- internal/strconv.lower of a byte -/
def low (c : Int) : Int := Go.bits .or .u8 c 32

theorem lower_any (c : Int) (w : World) : Calls Tryd.prog 118 #[.int .u8 c] w fun e w' => e = .returned (.int .u8 (low c)) ∧ w = w' := by
  unfold low
  go_enter Tryd.func118, Tryd.ntmps118
  go_wp2
  go_ret
  exact ⟨rfl, rfl⟩

theorem low_big : ∀ c : Fin 6, low (65 + c.val : Int) = 97 + c.val := by decide +kernel
theorem low_small : ∀ c : Fin 6, low (97 + c.val : Int) = 97 + c.val := by decide +kernel

theorem low_digit (c : UInt8) (h : 10 ≤ dval c ∧ dval c < 16) : low c.toNat = (dval c + 87 : Nat) ∧ 58 ≤ c.toNat ∧ c.toNat ≠ 95 := by
  unfold dval at *
  split at h
  · omega
  · split at h
    · rename_i h1 h2
      rw [if_neg h1, if_pos h2]
      have := low_big ⟨c.toNat - 65, by omega⟩
      simp only at this
      rw [show (65 + ((c.toNat - 65 : Nat) : Int)) = c.toNat by omega] at this
      rw [this]
      omega
    · split at h
      · rename_i h1 h2 h3
        rw [if_neg h1, if_neg h2, if_pos h3]
        have := low_small ⟨c.toNat - 97, by omega⟩
        simp only at this
        rw [show (97 + ((c.toNat - 97 : Nat) : Int)) = c.toNat by omega] at this
        rw [this]
        omega
      · omega

theorem ret_u {a : Int} {n : Nat} {v : Value} (h : a = n) : Ending.returned (.tuple #[.int .u64 a, v]) = Ending.returned (.tuple #[.int .u64 n, v]) := by rw [h]

set_option maxHeartbeats 4000000 in
set_option maxRecDepth 100000 in
theorem parseUint_any (s : ByteArray) (base : Nat) (B : Int) (hb : base = 10 ∧ B = 10 ∨ base = 16 ∧ B = 16) (bits : Int) (hbits : bits = 32 ∨ bits = 64) (w : World) (hne : s.size ≠ 0) (hs : s.size ≤ 7) (hd : ∀ c ∈ s.data.toList, dval c < base) :
    Calls Tryd.prog 109 #[.string s, .int .i64 B, .int .i64 bits] w fun e w' => e = .returned (.tuple #[.int .u64 (numVal base s.data.toList), .nilIface]) ∧ Below w.heap.size w w' := by
  have hcv := fun w => Lib.run_convert_string_bytes (P := Tryd.prog) w 9 28 5 s Tryd.underlying9 Tryd.underlying28 Tryd.underlying5
  have hemp : s.toList.isEmpty = false := by
    rw [Lib.toList_data]
    cases h : s.data.toList with
    | nil => exact absurd (by rw [Lib.size_eq, h]; rfl) hne
    | cons c r => rfl
  have hlow := fun wx => Lib.bytesWorld_at_new wx 5 s
  have hnd : ∀ k (h : k < s.size), numVal base (s.data.toList.take (k + 1)) = numVal base (s.data.toList.take k) * base + dval (s[k]'h) := by
    intro k h
    rw [List.take_succ_eq_append_getElem (by simpa using h), numVal_snoc]
    rfl
  have hnl : ∀ k, numVal base (s.data.toList.take k) < 268435456 := by
    intro k
    have h1 := numVal_lt base (s.data.toList.take k) (fun c hc => hd c (List.mem_of_mem_take hc))
    have h2 : base ^ (s.data.toList.take k).length ≤ 16 ^ 7 := by
      have : (s.data.toList.take k).length ≤ 7 := by have := List.length_take_le k s.data.toList; have h3 : s.data.toList.length = s.size := by simp; 
                                                     rw [List.length_take]; omega
      exact Nat.le_trans (Nat.pow_le_pow_left (by omega) _) (Nat.pow_le_pow_right (by omega) this)
    exact Nat.lt_of_lt_of_le h1 h2
  have hdk : ∀ k (h : k < s.size), dval (s[k]'h) < base := fun k h => hd _ (List.getElem_mem (l := s.data.toList) (n := k) (by simpa using h))
  have hcell : ∀ wx j (h : j < s.size), (Lib.bytesWorld wx 5 s).cell? ⟨wx.heap.size, j, none⟩ = some (.int .u8 (s[j]'h).toNat) := by
    intro wx j h
    rw [Lib.bytesWorld_cell wx 5 s j h]
    rw [Lib.getD_at s j h]
  have HND := Lib.hid hnd
  have HNL := Lib.hid hnl
  have HDK := Lib.hid hdk
  have HCell := Lib.hid hcell
  clear hnd hnl hdk hcell hd hlow
  have hbw : Below w.heap.size w (Lib.bytesWorld w 5 s) := ⟨rfl, rfl, rfl, by rw [Lib.bytesWorld_size]; omega, fun k hk => Lib.bytesWorld_at_old w _ _ k hk⟩
  have hB : (10 : Int) ≤ B ∧ B ≤ 16 ∧ B = base := by omega
  obtain ⟨hB1, hB2, hB3⟩ := hB
  obtain ⟨B0, hB0⟩ : ∃ B0 : Int, B0 = B := ⟨_, rfl⟩
  have HB0 := Lib.hid hB0
  clear hB0
  have HB := Lib.hid hB3
  clear hB3
  have hmm : ∀ x : Int, 0 ≤ x → x < 268435456 → IntKind.u64.wrap x = x := fun x h0 h1 => by rw [IntKind.wrap_u64]; omega
  have HMM := Lib.hid hmm
  clear hmm
  rcases hb with ⟨hb1, rfl⟩ | ⟨hb1, rfl⟩
  all_goals
    clear hb1 hB1 hB2
    rcases hbits with rfl | rfl
  all_goals
    go_enter Tryd.func109, Tryd.ntmps109
    go_wp2_with fail
    have hC1 : (268435456 : Int) ≤ 1152921504606846976 := by decide
    have hC2 : (268435456 : Int) ≤ 1844674407370955162 := by decide
    have hM1 : (268435456 : Int) ≤ IntKind.u64.wrap (IntKind.u64.wrap 18446744073709551616 - 1) := by decide
    have hM2 : (268435456 : Int) ≤ 4294967295 := by decide
    generalize (1152921504606846976 : Int) = C1 at *
    generalize (1844674407370955162 : Int) = C2 at *
    generalize IntKind.u64.wrap (IntKind.u64.wrap 18446744073709551616 - 1) = M1 at *
    generalize (4294967295 : Int) = M2 at *
    go_loopw [12, 13, 101] (fun vu vn vi wr => ∃ (k : Nat) (a : Int), vu = .bool false ∧ vn = .int .u64 a ∧ vi = .int .i64 k ∧ k ≤ s.size ∧ 0 ≤ a ∧ a < 268435456 ∧ Hid (a = (numVal base (s.data.toList.take k) : Nat)) ∧ wr = Lib.bytesWorld w 5 s) (fun _ _ vi _ => s.size - (intOf vi).toNat)
    case atStart => exact ⟨0, 0, rfl, rfl, rfl, by omega, by omega, by omega, rfl, rfl⟩
    case round =>
      obtain ⟨k, a, rfl, rfl, rfl, hk, h0, h1, HA, rfl⟩ := hrel
      by_cases hlt : k < s.size
      · have hc := HCell.out w k hlt
        have hn := HND.out k hlt
        have hn1 := HNL.out (k + 1)
        have hdv := HDK.out k hlt
        have hdv0 : (dval (s[k]'hlt) : Int) < base := by omega
        rw [← HB.out] at hdv0
        have h256 := (s[k]'hlt).toNat_lt
        have hlowc := low_digit (s[k]'hlt)
        generalize s[k]'hlt = c at *
        have hfin : ∀ a' : Int, a' = a * base + dval c → a' = (numVal base (s.data.toList.take (k + 1)) : Nat) ∧ 0 ≤ a' ∧ a' < 268435456 := by
          intro a' h
          have e2 := HA.out
          subst e2
          rw [hn]
          rw [hn] at hn1
          refine ⟨by rw [h]; simp, by rw [h]; omega, by rw [h]; omega⟩
        rw [← HB.out] at hfin
        have HF := Lib.hid hfin
        clear hfin hn
        by_cases hdig : 48 ≤ c.toNat ∧ c.toNat ≤ 57
        · have hdc : (dval c : Int) = c.toNat - 48 := by unfold dval; rw [if_pos hdig]; omega
          rw [hdc] at HF hdv0
          have hbd := (HF.out _ rfl).2.2
          have hd0 : (48 : Int) ≤ c.toNat := by omega
          have hd1 : (c.toNat : Int) ≤ 57 := by omega
          clear hlowc hdc hdv hn1 hdig h256
          generalize (c.toNat : Int) = ci at *
          go_wp2
          obtain ⟨f1, f2, f3⟩ := HF.out _ rfl
          go_roundw
          case rel => exact ⟨k + 1, _, rfl, rfl, by go_num, by omega, f2, f3, f1, by first | rfl | trivial⟩
          case measure => simp [intOf]; omega
        · have hd10 : 10 ≤ dval c := by unfold dval; rw [if_neg hdig]; repeat' split
                                        all_goals omega
          obtain ⟨hL, h58, h95⟩ := hlowc ⟨hd10, by omega⟩
          have hl := fun w => lower_any c.toNat w
          have hL1 : (97 : Int) ≤ low c.toNat := by omega
          have hL2 : low c.toNat < 103 := by omega
          have hL3 : low c.toNat - 97 + 10 < B0 := by rw [HB0.out]; omega
          have hL4 := HB0.out
          have h58i : (58 : Int) ≤ c.toNat := by omega
          have h95i : ((c.toNat : Int) == 95) = false := beq_eq_false_iff_ne.mpr (by omega)
          have hdc : (dval c : Int) = low c.toNat - 97 + 10 := by omega
          rw [hdc] at HF
          have hbd := (HF.out _ rfl).2.2
          have HLO := Lib.hid hl
          clear hlowc hdc hdv hn1 hdig h256 hL hl hd10 h58 hdv0 h95
          generalize low (c.toNat : Int) = L at *
          generalize (c.toNat : Int) = ci at *
          go_wp2_with (go_at_call 118; refine (HLO.out _).mono ?_; rintro e w' ⟨rfl, rfl⟩)
          all_goals (
            obtain ⟨f1, f2, f3⟩ := HF.out _ rfl
            go_roundw
            case rel => exact ⟨k + 1, _, rfl, rfl, by go_num, by omega, f2, f3, f1, by first | rfl | trivial⟩
            case measure => simp [intOf]; omega)
      · have hke : k = s.size := by omega
        subst hke
        have hA := HA.out
        rw [show s.data.toList.take s.size = s.data.toList from List.take_of_length_le (by simp)] at hA
        go_wp2
        go_ret2
        exact ⟨ret_u hA, hbw⟩
end Go.Proofs.YtghiboknhjnlkaaDoor
