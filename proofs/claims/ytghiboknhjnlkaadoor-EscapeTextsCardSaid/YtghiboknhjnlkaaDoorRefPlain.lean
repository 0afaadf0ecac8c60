/- That stetref07.Plain gives the same plain text. -/
import Derived.Test.YtghiboknhjnlkaaDoorRefEntN
import Derived.Test.YtghiboknhjnlkaaDoorPlainW
import Derived.Test.YtghiboknhjnlkaaDoorBufL
set_option linter.unusedVariables false
set_option linter.unusedSimpArgs false
set_option linter.unnecessarySimpa false
namespace Go.Proofs.YtghiboknhjnlkaaDoor
open Go.RowKit

set_option maxHeartbeats 4000000 in
set_option maxRecDepth 100000 in
theorem refPlainText_any (s : ByteArray) (w : World) (hs : s.size ≤ 4398046511104) :
    Calls Tryd.prog 19 #[.string s] w fun e w' => e = .returned (.string ⟨(plain s.data.toList).toArray⟩) ∧ Below w.heap.size w w' := by
  have HEnt := Lib.hid (fun pos w => refEntity_at s pos w (by omega))
  go_enter Tryd.func19, Tryd.ntmps19
  go_wp2_with fail
  go_loopw [3, 4] (fun b v wr => ∃ (pos : Nat) (acc : List UInt8), v = .int .i64 pos ∧ Buf w.heap.size b acc w wr ∧ Hid (acc ++ plain (s.data.toList.drop pos) = plain s.data.toList) ∧ acc.length ≤ 4 * pos ∧ pos ≤ s.size + 200) (fun _ v _ => s.size - (intOf v).toNat)
  case atStart => exact ⟨0, [], rfl, Buf.nil (Below.refl _ _) (Nat.le_refl _), rfl, by simp, by omega⟩
  case round =>
    obtain ⟨pos, acc, rfl, hI, hacc, hal, hps⟩ := hrel
    have hbw := hI.frame
    have hwsz := hI.low
    by_cases hp : pos < s.size
    · have heq : entAt s (pos : Int) = entL (s.data.toList.drop pos) := by unfold entAt; rw [if_pos (by omega)]; rfl
      have hEnt0 := HEnt.out pos wr
      rw [heq] at hEnt0
      have hEnt := Lib.hid hEnt0
      clear hEnt0 heq
      have hdc := drop_cons s pos hp
      have hle := entL_le (s.data.toList.drop pos)
      rw [hdc] at hEnt hle
      have hacc2 := hacc.out
      rw [hdc] at hacc2
      have HA := Lib.hid hacc2
      have hpe := plain_ent (s[pos]'hp) (s.data.toList.drop (pos + 1))
      have hpb := plain_byte (s[pos]'hp) (s.data.toList.drop (pos + 1))
      have hdr : ∀ n, (s[pos]'hp :: s.data.toList.drop (pos + 1)).drop n = s.data.toList.drop (pos + n) := by
        intro n; rw [← hdc, List.drop_drop]
      by_cases hn : 0 < (entL (s[pos]'hp :: s.data.toList.drop (pos + 1))).2
      · have h1 := hpe hn
        rw [hdr] at h1
        have HP := Lib.hid h1
        clear hacc2 hpe hpb h1 hdr hacc hdc
        generalize entL (s[pos]'hp :: s.data.toList.drop (pos + 1)) = E at *
        obtain ⟨cs, n⟩ := E
        simp only at *
        obtain ⟨m, hm⟩ : ∃ m : Int, m = n := ⟨_, rfl⟩
        rw [← hm] at hEnt
        have hm0 : 0 < m := by omega
        have hm1 : m ≤ 200 := by omega
        have hsz : (⟨cs.toArray⟩ : ByteArray).size ≤ 4 := by rw [size_list]; exact hle.2
        have HM := Lib.hid hm
        clear hm hn hle
        go_wp2_with (first | (go_at_call 17; refine hEnt.out.mono ?_; rintro e w1 ⟨rfl, hb⟩) | (at_builtin; refine wp_text rfl _ _ rfl rfl (hI.below hb) ⟨cs.toArray⟩ rfl (by omega) ?_; intro v' w2 h1))
        refine ⟨⟨pos + n, acc ++ cs, ?_, h1, ?_, ?_, ?_⟩, ?_⟩
        · have := HM.out; rw [show (pos : Int) + m = ((pos + n : Nat) : Int) by omega]
        · show _ = _
          rw [← HA.out, HP.out, List.append_assoc]
        · have := HM.out; rw [size_list] at hsz; simp; omega
        · have := HM.out; omega
        · have := HM.out; simp [intOf]; omega
      · have hn0 : (entL (s[pos]'hp :: s.data.toList.drop (pos + 1))).2 = 0 := by omega
        rw [hn0] at hEnt
        generalize (entL (s[pos]'hp :: s.data.toList.drop (pos + 1))).1 = cs at *
        have hm : ∃ m : Int, m = ((0 : Nat) : Int) := ⟨_, rfl⟩
        obtain ⟨m, hm⟩ := hm
        rw [← hm] at hEnt
        have hm0 : m = 0 := by omega
        subst hm0
        clear hm hpe hdr hdc hacc hle
        by_cases hesc : s[pos]'hp = 92 ∧ ∃ h : pos + 1 < s.size, isMark (s[pos + 1]'h) = true
        · obtain ⟨h92, h1s, hmk⟩ := hesc
          have hdc2 := drop_cons s (pos + 1) h1s
          rw [h92, hdc2] at hn
          have hp1 := plain_esc (s[pos + 1]'h1s) (s.data.toList.drop (pos + 1 + 1)) hn hmk
          rw [h92, hdc2, hp1] at hacc2
          have HA2 := Lib.hid hacc2
          have e92 := beq_u8_pos _ 92 (by decide) h92
          have hMk := Lib.hid (fun w => refPlain_any (s[pos + 1]'h1s) w)
          rw [hmk] at hMk
          have hr1 : (0 : Int) ≤ (pos : Int) + 1 ∧ (pos : Int) + 1 < s.size := by omega
          clear HA hacc2 hpb hdc2 hp1 hn hn0 h92 hmk
          go_wp2_with (first | (go_at_call 17; refine hEnt.out.mono ?_; rintro e w1 ⟨rfl, hb⟩) | (go_at_call 52; refine (hMk.out _).mono ?_; rintro e w2 ⟨rfl, rfl⟩) | (at_builtin; refine wp_byte rfl _ _ rfl rfl (s[pos + 1]'h1s) _ rfl (hI.below hb) rfl (by omega) ?_; intro v' w3 h1))
          refine ⟨⟨pos + 1 + 1, acc ++ [s[pos + 1]'h1s], by go_num, h1, ?_, by simp; omega, by omega⟩, by simp [intOf]; omega⟩
          show _ = _
          rw [← HA2.out]; simp
        · have hpm : ¬ (s[pos]'hp = 92 ∧ (s.data.toList.drop (pos + 1)).head?.any isMark = true) := by
            rintro ⟨h1, h2⟩
            apply hesc
            refine ⟨h1, ?_⟩
            by_cases h : pos + 1 < s.size
            · rw [drop_head s _ h] at h2; exact ⟨h, by simpa using h2⟩
            · rw [drop_head_none s _ h] at h2; simp at h2
          rw [hpb hn hpm] at hacc2
          have HA2 := Lib.hid hacc2
          clear HA hacc2 hpb hn hn0 hpm
          have hfin : ∀ (v' : Value) (w3 : World), Buf w.heap.size v' (acc ++ [s[pos]'hp]) w w3 → (∃ (pos_1 : Nat) (acc : List UInt8), Value.int IntKind.i64 ((pos : Int) + 1) = .int .i64 pos_1 ∧ Buf w.heap.size v' acc w w3 ∧ Hid (acc ++ plain (s.data.toList.drop pos_1) = plain s.data.toList) ∧ acc.length ≤ 4 * pos_1 ∧ pos_1 ≤ s.size + 200) ∧ s.size - (intOf (Value.int IntKind.i64 ((pos : Int) + 1))).toNat < s.size - (intOf (Value.int IntKind.i64 (pos : Int))).toNat := by
            intro v' w3 h1
            refine ⟨⟨pos + 1, acc ++ [s[pos]'hp], by go_num, h1, ?_, by simp; omega, by omega⟩, by simp [intOf]; omega⟩
            show _ = _
            rw [← HA2.out]; simp
          have HFIN := Lib.hid hfin
          clear hfin
          by_cases h92 : s[pos]'hp = 92
          · have e92 := beq_u8_pos _ 92 (by decide) h92
            by_cases h1s : pos + 1 < s.size
            · have hmk : isMark (s[pos + 1]'h1s) = false := by
                cases h : isMark (s[pos + 1]'h1s) with
                | false => rfl
                | true => exact absurd ⟨h92, h1s, h⟩ hesc
              have hMk := Lib.hid (fun w => refPlain_any (s[pos + 1]'h1s) w)
              rw [hmk] at hMk
              have hr1 : (0 : Int) ≤ (pos : Int) + 1 ∧ (pos : Int) + 1 < s.size := by omega
              clear hesc h92 hmk
              go_wp2_with (first | (go_at_call 17; refine hEnt.out.mono ?_; rintro e w1 ⟨rfl, hb⟩) | (go_at_call 52; refine (hMk.out _).mono ?_; rintro e w2 ⟨rfl, rfl⟩) | (at_builtin; refine wp_byte rfl _ _ rfl rfl (s[pos]'hp) _ rfl (hI.below hb) rfl (by omega) ?_; intro v' w3 h1))
              exact HFIN.out v' w3 h1
            · have hr1 : (s.size : Int) ≤ (pos : Int) + 1 := by omega
              clear hesc h92
              go_wp2_with (first | (go_at_call 17; refine hEnt.out.mono ?_; rintro e w1 ⟨rfl, hb⟩) | (at_builtin; refine wp_byte rfl _ _ rfl rfl (s[pos]'hp) _ rfl (hI.below hb) rfl (by omega) ?_; intro v' w3 h1))
              exact HFIN.out v' w3 h1
          · have e92 := beq_u8 _ 92 (by decide) h92
            clear hesc h92
            go_wp2_with (first | (go_at_call 17; refine hEnt.out.mono ?_; rintro e w1 ⟨rfl, hb⟩) | (at_builtin; refine wp_byte rfl _ _ rfl rfl (s[pos]'hp) _ rfl (hI.below hb) rfl (by omega) ?_; intro v' w3 h1))
            exact HFIN.out v' w3 h1
    · have hfull := hacc.out
      rw [List.drop_of_length_le (by simp; omega)] at hfull
      rw [show plain ([] : List UInt8) = [] from rfl, List.append_nil] at hfull
      have HF := Lib.hid hfull
      clear hfull
      have hstr := hI.str
      go_wp2
      go_ret
      exact ⟨ret_str HF.out, hbw⟩
end Go.Proofs.YtghiboknhjnlkaaDoor
