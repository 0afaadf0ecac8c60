/- That escape.Plain gives the text without backslashes and entities. -/
import Derived.Test.YtghiboknhjnlkaaDoorEntW
import Derived.Test.YtghiboknhjnlkaaDoorBuild
import Derived.Test.YtghiboknhjnlkaaDoorMark
import Derived.Test.YtghiboknhjnlkaaDoorClean
import Derived.Test.YtghiboknhjnlkaaDoorDropS
set_option linter.unusedVariables false
set_option linter.unusedSimpArgs false
namespace Go.Proofs.YtghiboknhjnlkaaDoor
open Go.RowKit

/-- the text without backslashes and entities; the number: bytes that are read already -/
def plainG : Nat → List UInt8 → List UInt8
  | _, [] => []
  | k + 1, _ :: l => plainG k l
  | 0, c :: l =>
    if 0 < (entL (c :: l)).2 then (entL (c :: l)).1 ++ plainG ((entL (c :: l)).2 - 1) l
    else if c = 92 ∧ l.head?.any isMark = true then l.headD 0 :: plainG 1 l
    else c :: plainG 0 l

def plain (l : List UInt8) : List UInt8 := plainG 0 l

theorem plainG_drop : ∀ (k : Nat) (l : List UInt8), plainG k l = plain (l.drop k)
  | 0, l => rfl
  | k + 1, [] => by simp [plainG, plain]
  | k + 1, b :: l => by rw [plainG, plainG_drop k l]; rfl

theorem plain_ent (c : UInt8) (l : List UInt8) (h : 0 < (entL (c :: l)).2) : plain (c :: l) = (entL (c :: l)).1 ++ plain ((c :: l).drop (entL (c :: l)).2) := by
  rw [plain, plainG, if_pos h, plainG_drop]
  obtain ⟨m, hm⟩ : ∃ m, (entL (c :: l)).2 = m + 1 := ⟨_, (Nat.succ_pred_eq_of_pos h).symm⟩
  rw [hm]
  rfl

theorem plain_esc (m : UInt8) (l : List UInt8) (h : ¬ 0 < (entL (92 :: m :: l)).2) (hm : isMark m = true) : plain (92 :: m :: l) = m :: plain l := by
  rw [plain, plainG, if_neg h, if_pos ⟨rfl, by simpa using hm⟩, plainG_drop]
  rfl

theorem plain_byte (c : UInt8) (l : List UInt8) (h : ¬ 0 < (entL (c :: l)).2) (hm : ¬ (c = 92 ∧ l.head?.any isMark = true)) : plain (c :: l) = c :: plain l := by
  rw [plain, plainG, if_neg h, if_neg hm, plainG_drop]
  rfl

theorem charB_len (n : Int) : (charB n).length ≤ 4 := (encodeRune_len _).2

theorem numericL_len (l : List UInt8) : (numericL l).1.length ≤ 4 := by
  unfold numericL
  by_cases hx : l.head? = some 120 ∨ l.head? = some 88
  · simp only [hx, if_true]
    split
    · exact Nat.zero_le _
    · exact charB_len _
  · simp only [hx, if_false]
    split
    · exact Nat.zero_le _
    · exact charB_len _

theorem entL_le (l : List UInt8) : (entL l).2 ≤ 200 ∧ (entL l).1.length ≤ 4 := by
  unfold entL
  split
  · split
    · split
      · exact ⟨Nat.zero_le _, Nat.zero_le _⟩
      · have := numericL_le (l.drop 2)
        exact ⟨by show _ + 2 ≤ 200; omega, numericL_len _⟩
    · simp only
      split
      · exact ⟨Nat.zero_le _, Nat.zero_le _⟩
      · split
        · have := frontL_len (letS ++ digS) 8 (l.drop 1)
          exact ⟨by show _ + 2 ≤ 200; omega, charB_len _⟩
        · exact ⟨Nat.zero_le _, Nat.zero_le _⟩
  · exact ⟨Nat.zero_le _, Nat.zero_le _⟩

set_option maxHeartbeats 4000000 in
set_option maxRecDepth 100000 in
theorem plainText_any (s : ByteArray) (w : World) (hs : s.size ≤ 4398046511104) (hE : EnvS w) :
    Calls Tryd.prog 18 #[.string s] w fun e w' => e = .returned (.string ⟨(plain s.data.toList).toArray⟩) ∧ Below w.heap.size w w' := by
  go_enter Tryd.func18, Tryd.ntmps18
  go_wp2
  go_loopw [4] (fun v wr => ∃ (pos : Nat) (acc : List UInt8), v = .int .i64 pos ∧ Bld w.heap.size w.heap.size acc wr ∧ Below w.heap.size w wr ∧ Hid (acc ++ plain (s.data.toList.drop pos) = plain s.data.toList) ∧ acc.length ≤ 4 * pos ∧ pos ≤ s.size + 200) (fun v _ => s.size - (intOf v).toNat)
  case atStart => exact ⟨0, [], rfl, BldG.fresh 57 5 w.heap.size w, (Below.refl _ w).alloc (Nat.le_refl _) _, rfl, by simp, by omega⟩
  case round =>
    obtain ⟨pos, acc, rfl, hI, hbw, hacc, hal, hps⟩ := hrel
    have hwsz := hbw.size
    by_cases hp : pos < s.size
    · have hEnt := Lib.hid (entity_in s pos wr hp (by omega) (hE.below hbw))
      have hdc := drop_cons s pos hp
      have hle := entL_le (s.data.toList.drop pos)
      rw [hdc] at hEnt hle
      have hacc2 := hacc.out
      rw [hdc] at hacc2
      have HA := Lib.hid hacc2
      have hpe := plain_ent (s[pos]'hp) (s.data.toList.drop (pos + 1))
      have hpb := plain_byte (s[pos]'hp) (s.data.toList.drop (pos + 1))
      have hdr : ∀ n, (s[pos]'hp :: s.data.toList.drop (pos + 1)).drop n = s.data.toList.drop (pos + n) := by
        intro n; rw [← hdc, List.drop_drop]
      by_cases hn : 0 < (entL (s[pos]'hp :: s.data.toList.drop (pos + 1))).2
      · have h1 := hpe hn
        rw [hdr] at h1
        have HP := Lib.hid h1
        clear hacc2 hpe hpb h1 hdr hacc hdc
        generalize entL (s[pos]'hp :: s.data.toList.drop (pos + 1)) = E at *
        obtain ⟨cs, n⟩ := E
        simp only at *
        obtain ⟨m, hm⟩ : ∃ m : Int, m = n := ⟨_, rfl⟩
        rw [← hm] at hEnt
        have hm0 : 0 < m := by omega
        have hm1 : m ≤ 200 := by omega
        have hsz : (⟨cs.toArray⟩ : ByteArray).size ≤ 4 := by rw [size_list]; exact hle.2
        have HM := Lib.hid hm
        clear hm hn hle
        go_wp2_with (first | (go_at_call 16; refine hEnt.out.mono ?_; rintro e w1 ⟨rfl, hb⟩) | (go_at_call 49; refine (writeString _ _ _ _ _ (hI.below hb) (by omega) (by have := hb.size; omega)).mono ?_; rintro e w2 ⟨rfl, h1, k1⟩))
        have hwn : w.heap.size ≤ w1.heap.size := by have := hb.size; omega
        refine ⟨⟨pos + n, acc ++ cs, ?_, h1, (hbw.trans (hb.mono hwsz)).trans (k1.below hwn (Nat.le_refl _) (Nat.le_refl _)), ?_, ?_, ?_⟩, ?_⟩
        · have := HM.out; rw [show (pos : Int) + (m - 1) + 1 = ((pos + n : Nat) : Int) by omega]
        · show _ = _
          rw [← HA.out, HP.out, List.append_assoc]
        · have := HM.out; rw [size_list] at hsz; simp; omega
        · have := HM.out; omega
        · have := HM.out; simp [intOf]; omega
      · have hn0 : (entL (s[pos]'hp :: s.data.toList.drop (pos + 1))).2 = 0 := by omega
        rw [hn0] at hEnt
        generalize (entL (s[pos]'hp :: s.data.toList.drop (pos + 1))).1 = cs at *
        have hm : ∃ m : Int, m = ((0 : Nat) : Int) := ⟨_, rfl⟩
        obtain ⟨m, hm⟩ := hm
        rw [← hm] at hEnt
        have hm0 : m = 0 := by omega
        subst hm0
        clear hm hpe hdr hdc hacc hle
        by_cases hesc : s[pos]'hp = 92 ∧ ∃ h : pos + 1 < s.size, isMark (s[pos + 1]'h) = true
        · obtain ⟨h92, h1s, hmk⟩ := hesc
          have hdc2 := drop_cons s (pos + 1) h1s
          rw [h92, hdc2] at hn
          have hp1 := plain_esc (s[pos + 1]'h1s) (s.data.toList.drop (pos + 1 + 1)) hn hmk
          rw [h92, hdc2, hp1] at hacc2
          have HA2 := Lib.hid hacc2
          have e92 := beq_u8_pos _ 92 (by decide) h92
          have hMk := Lib.hid (fun w => plain_any (s[pos + 1]'h1s) w)
          rw [hmk] at hMk
          have hr1 : (0 : Int) ≤ (pos : Int) + 1 ∧ (pos : Int) + 1 < s.size := by omega
          clear HA hacc2 hpb hdc2 hp1 hn hn0 h92 hmk
          go_wp2_with (first | (go_at_call 16; refine hEnt.out.mono ?_; rintro e w1 ⟨rfl, hb⟩) | (go_at_call 24; refine (hMk.out _).mono ?_; rintro e w2 ⟨rfl, hb2⟩) | (go_at_call 50; refine (writeByte _ _ _ _ _ ((hI.below hb).below hb2) (by omega) (by have := hb.size; have := hb2.size; omega)).mono ?_; rintro e w3 ⟨rfl, h1, k1⟩))
          have hwn : w.heap.size ≤ w2.heap.size := by have := hb.size; have := hb2.size; omega
          refine ⟨⟨pos + 1 + 1, acc ++ [s[pos + 1]'h1s], by go_num, h1, ((hbw.trans (hb.mono hwsz)).trans (hb2.mono (by have := hb.size; omega))).trans (k1.below hwn (Nat.le_refl _) (Nat.le_refl _)), ?_, by simp; omega, by omega⟩, by simp [intOf]; omega⟩
          show _ = _
          rw [← HA2.out]; simp
        · have hpm : ¬ (s[pos]'hp = 92 ∧ (s.data.toList.drop (pos + 1)).head?.any isMark = true) := by
            rintro ⟨h1, h2⟩
            apply hesc
            refine ⟨h1, ?_⟩
            by_cases h : pos + 1 < s.size
            · rw [drop_head s _ h] at h2; exact ⟨h, by simpa using h2⟩
            · rw [drop_head_none s _ h] at h2; simp at h2
          rw [hpb hn hpm] at hacc2
          have HA2 := Lib.hid hacc2
          clear HA hacc2 hpb hn hn0 hpm
          have hfin : ∀ w1 w3 : World, Below wr.heap.size wr w1 → Bld w.heap.size w.heap.size (acc ++ [s[pos]'hp]) w3 → BK w.heap.size w.heap.size w1 w3 → (∃ (pos_1 : Nat) (acc : List UInt8), Value.int IntKind.i64 ((pos : Int) + 1) = .int .i64 pos_1 ∧ Bld w.heap.size w.heap.size acc w3 ∧ Below w.heap.size w w3 ∧ Hid (acc ++ plain (s.data.toList.drop pos_1) = plain s.data.toList) ∧ acc.length ≤ 4 * pos_1 ∧ pos_1 ≤ s.size + 200) ∧ s.size - (intOf (Value.int IntKind.i64 ((pos : Int) + 1))).toNat < s.size - (intOf (Value.int IntKind.i64 (pos : Int))).toNat := by
            intro w1 w3 hb h1 k1
            refine ⟨⟨pos + 1, acc ++ [s[pos]'hp], by go_num, h1, (hbw.trans (hb.mono hwsz)).trans (k1.below (by have := hb.size; omega) (Nat.le_refl _) (Nat.le_refl _)), ?_, by simp; omega, by omega⟩, by simp [intOf]; omega⟩
            show _ = _
            rw [← HA2.out]; simp
          have HFIN := Lib.hid hfin
          clear hfin
          by_cases h92 : s[pos]'hp = 92
          · have e92 := beq_u8_pos _ 92 (by decide) h92
            by_cases h1s : pos + 1 < s.size
            · have hmk : isMark (s[pos + 1]'h1s) = false := by
                cases h : isMark (s[pos + 1]'h1s) with
                | false => rfl
                | true => exact absurd ⟨h92, h1s, h⟩ hesc
              have hMk := Lib.hid (fun w => plain_any (s[pos + 1]'h1s) w)
              rw [hmk] at hMk
              have hr1 : (0 : Int) ≤ (pos : Int) + 1 ∧ (pos : Int) + 1 < s.size := by omega
              clear hesc h92 hmk
              go_wp2_with (first | (go_at_call 16; refine hEnt.out.mono ?_; rintro e w1 ⟨rfl, hb⟩) | (go_at_call 24; refine (hMk.out _).mono ?_; rintro e w2 ⟨rfl, hb2⟩) | (go_at_call 50; refine (writeByte _ _ _ _ _ ((hI.below hb).below hb2) (by omega) (by have := hb.size; have := hb2.size; omega)).mono ?_; rintro e w3 ⟨rfl, h1, k1⟩))
              exact HFIN.out w2 w3 (hb.trans (hb2.mono hb.size)) h1 k1
            · have hr1 : (s.size : Int) ≤ (pos : Int) + 1 := by omega
              clear hesc h92
              go_wp2_with (first | (go_at_call 16; refine hEnt.out.mono ?_; rintro e w1 ⟨rfl, hb⟩) | (go_at_call 50; refine (writeByte _ _ _ _ _ (hI.below hb) (by omega) (by have := hb.size; omega)).mono ?_; rintro e w3 ⟨rfl, h1, k1⟩))
              exact HFIN.out w1 w3 hb h1 k1
          · have e92 := beq_u8 _ 92 (by decide) h92
            clear hesc h92
            go_wp2_with (first | (go_at_call 16; refine hEnt.out.mono ?_; rintro e w1 ⟨rfl, hb⟩) | (go_at_call 50; refine (writeByte _ _ _ _ _ (hI.below hb) (by omega) (by have := hb.size; omega)).mono ?_; rintro e w3 ⟨rfl, h1, k1⟩))
            exact HFIN.out w1 w3 hb h1 k1
    · have hfull := hacc.out
      rw [List.drop_of_length_le (by simp; omega)] at hfull
      rw [show plain ([] : List UInt8) = [] from rfl, List.append_nil] at hfull
      have HF := Lib.hid hfull
      clear hfull
      go_wp2_with (go_at_call 51; refine (toString_any w.heap.size w.heap.size acc _ hI w.heap.size (Nat.le_refl _) (Nat.le_refl _) (by omega)).mono ?_; rintro e w1 ⟨rfl, b1⟩)
      go_ret
      exact ⟨ret_str HF.out, hbw.trans b1⟩
end Go.Proofs.YtghiboknhjnlkaaDoor
