/- That stetref01.Clean gives the clean text. -/
import Derived.Test.YtghiboknhjnlkaaDoorRefRune
import Derived.Test.YtghiboknhjnlkaaDoorRunes
import Derived.Test.YtghiboknhjnlkaaDoorBufL
set_option linter.unusedVariables false
set_option linter.unusedSimpArgs false
set_option linter.unnecessarySimpa false
namespace Go.Proofs.YtghiboknhjnlkaaDoor
open Go.RowKit

theorem ext_part (s : ByteArray) (pos n : Nat) (m : Int) (hm : m = n) : (s.extract pos ((pos : Int) + m).toNat).data.toList = (s.data.toList.drop pos).take n := by
  rw [show ((pos : Int) + m).toNat = pos + n by omega]
  simp [List.take_drop]

set_option maxHeartbeats 4000000 in
set_option maxRecDepth 100000 in
theorem refClean_any (s : ByteArray) (w : World) (hs : s.size ≤ 35184372088832) :
    Calls Tryd.prog 53 #[.string s] w fun e w' => e = .returned (.string ⟨(clean s.data.toList).toArray⟩) ∧ Below w.heap.size w w' := by
  have HR := Lib.hid (fun pos w (hp : pos < s.size) => refRune_any s pos w hp (by omega))
  go_enter Tryd.func53, Tryd.ntmps53
  go_wp2_with fail
  go_loopw [3, 4] (fun b v wr => ∃ (pos : Nat) (acc : List UInt8), v = .int .i64 pos ∧ pos ≤ s.size ∧ Buf w.heap.size b acc w wr ∧ Hid (acc ++ clean (s.data.toList.drop pos) = clean s.data.toList) ∧ acc.length ≤ 4 * pos) (fun _ v _ => s.size - (intOf v).toNat)
  case atStart => exact ⟨0, [], rfl, Nat.zero_le _, Buf.nil (Below.refl _ _) (Nat.le_refl _), by show _ = _; rfl, by simp⟩
  case round =>
    obtain ⟨pos, acc, rfl, hpos, hB, hacc, hal⟩ := hrel
    by_cases hp : pos < s.size
    · have hst := clean_at s pos hp
      have hle := decode_le_size s pos hp
      have hwd : 1 ≤ (Utf8.decode s pos).2 := by rw [decode_drop s pos hp]; exact Lib.decodeL_width _
      have hHR := HR.out pos
      have hsc := decode_sc (s.data.toList.drop pos)
      have hev := fun hv => Lib.encode_decode (s.data.toList.drop pos) (by intro e; have := congrArg List.length e; simp at this; omega) hv
      rw [← decode_drop s pos hp] at hsc hev
      have hw4 := encodeRune_len (fixN (Utf8.decode s pos).1)
      generalize Utf8.decode s pos = dc at *
      obtain ⟨r, n⟩ := dc
      dsimp only at hst hle hwd hHR hsc hev hw4
      obtain ⟨rz, hrz⟩ : ∃ rz : Int, rz = r := ⟨_, rfl⟩
      obtain ⟨nz, hnz⟩ : ∃ nz : Int, nz = n := ⟨_, rfl⟩
      rw [← hrz, ← hnz] at hHR
      have hn4 : n ≤ 4 := by
        have := hw4
        by_cases hv : r = 65533 ∧ n = 1
        · omega
        · have he := congrArg List.length (hev hv)
          have := (encodeRune_len (r : Int)).2
          rw [he] at this
          simp at this
          omega
      by_cases hbad : r = 0 ∨ r = 65533 ∧ n = 1
      · have hfx : fixN r = 65533 := by unfold fixN; split <;> omega
        rw [hfx] at hst
        have hen : Lib.encodeRune ((65533 : Nat) : Int) = [239, 191, 189] := by decide +kernel
        rw [hen] at hst
        have HA := Lib.hid hst
        have hH := Lib.hid hHR
        have hb2 : rz = 0 ∨ rz = 65533 ∧ nz = 1 := by omega
        have hz1 : 1 ≤ nz ∧ nz ≤ 4 := by omega
        have HNZ := Lib.hid hnz
        clear hst hHR hsc hev hw4 hen hfx hbad hrz hnz
        rcases hb2 with hb2 | ⟨hb2, hb3⟩
        · subst hb2
          go_wp2_with (first | (go_at_call 68; refine (hH.out _ hp).mono ?_; rintro e w2 ⟨rfl, b2⟩) | (at_builtin; refine wp_bytes rfl _ _ rfl rfl [239, 191, 189] _ _ rfl (hB.below b2) 3 rfl rfl (by simp; omega) ?_; intro v' w3 hB3))
          have hz := HNZ.out
          refine ⟨⟨pos + n, acc ++ [239, 191, 189], ?_, hle, hB3, ?_, by simp; omega⟩, by simp [intOf]; omega⟩
          · first | rw [show (pos : Int) + nz = ((pos + n : Nat) : Int) by omega] | rw [show (pos : Int) + 1 = ((pos + n : Nat) : Int) by omega]
          · show _ = _
            rw [← hacc.out, HA.out, List.append_assoc]
        · subst hb2
          have hone : (nz == 1) = true := by rw [hb3]; rfl
          go_wp2_with (first | (go_at_call 68; refine (hH.out _ hp).mono ?_; rintro e w2 ⟨rfl, b2⟩) | (at_builtin; refine wp_bytes rfl _ _ rfl rfl [239, 191, 189] _ _ rfl (hB.below b2) 3 rfl rfl (by simp; omega) ?_; intro v' w3 hB3))
          have hz := HNZ.out
          refine ⟨⟨pos + n, acc ++ [239, 191, 189], ?_, hle, hB3, ?_, by simp; omega⟩, by simp [intOf]; omega⟩
          · first | rw [show (pos : Int) + nz = ((pos + n : Nat) : Int) by omega] | rw [show (pos : Int) + 1 = ((pos + n : Nat) : Int) by omega]
          · show _ = _
            rw [← hacc.out, HA.out, List.append_assoc]
      · have hfx : fixN r = r := by unfold fixN; split <;> omega
        rw [hfx] at hst
        have hen := hev (by omega)
        rw [hen] at hst
        have HA := Lib.hid hst
        have hH := Lib.hid hHR
        have HNZ := Lib.hid hnz
        have hr0 : (rz == 0) = false := by rw [beq_eq_false_iff_ne]; omega
        have hrn : ((rz == 65533) && (nz == 1)) = false := by
          rw [Bool.and_eq_false_iff, beq_eq_false_iff_ne, beq_eq_false_iff_ne]; omega
        have hz1 : 1 ≤ nz ∧ nz ≤ 4 := by omega
        have hsl : (pos : Int) ≤ (pos : Int) + nz ∧ (pos : Int) + nz ≤ s.size := by omega
        have hor : ¬ rz = 65533 ∨ rz = 65533 ∧ ¬ nz = 1 := by omega
        clear hst hHR hsc hev hw4 hen hfx hbad hrz hnz
        rcases hor with hor | ⟨hor, hor2⟩
        · have hq := beq_eq_false_iff_ne.mpr hor
          go_wp2_with (first | (go_at_call 68; refine (hH.out _ hp).mono ?_; rintro e w2 ⟨rfl, b2⟩) | (at_builtin; refine wp_text rfl _ _ rfl rfl (hB.below b2) _ rfl ?hlen ?_; rotate_left; intro v' w3 hB3; rotate_right))
          case hlen =>
            have := congrArg List.length (ext_part s pos n nz HNZ.out)
            simp at this
            rw [show (s.extract pos ((pos : Int) + nz).toNat).size = (s.extract pos ((pos : Int) + nz).toNat).data.toList.length from rfl, ext_part s pos n nz HNZ.out]
            simp; omega
          have hz := HNZ.out
          refine ⟨⟨pos + n, _, ?_, hle, hB3, ?_, ?_⟩, by simp [intOf]; omega⟩
          · rw [show (pos : Int) + nz = ((pos + n : Nat) : Int) by omega]
          · show _ = _
            rw [ext_part s pos n nz HNZ.out, ← hacc.out, HA.out, List.append_assoc]
          · rw [ext_part s pos n nz HNZ.out]; simp; omega
        · have hq := beq_eq_false_iff_ne.mpr hor2
          go_wp2_with (first | (go_at_call 68; refine (hH.out _ hp).mono ?_; rintro e w2 ⟨rfl, b2⟩) | (at_builtin; refine wp_text rfl _ _ rfl rfl (hB.below b2) _ rfl ?hlen ?_; rotate_left; intro v' w3 hB3; rotate_right))
          case hlen =>
            have := congrArg List.length (ext_part s pos n nz HNZ.out)
            simp at this
            rw [show (s.extract pos ((pos : Int) + nz).toNat).size = (s.extract pos ((pos : Int) + nz).toNat).data.toList.length from rfl, ext_part s pos n nz HNZ.out]
            simp; omega
          have hz := HNZ.out
          refine ⟨⟨pos + n, _, ?_, hle, hB3, ?_, ?_⟩, by simp [intOf]; omega⟩
          · rw [show (pos : Int) + nz = ((pos + n : Nat) : Int) by omega]
          · show _ = _
            rw [ext_part s pos n nz HNZ.out, ← hacc.out, HA.out, List.append_assoc]
          · rw [ext_part s pos n nz HNZ.out]; simp; omega
    · have hfull := hacc.out
      rw [List.drop_of_length_le (by simp; omega)] at hfull
      rw [clean_nil, List.append_nil] at hfull
      have HF := Lib.hid hfull
      clear hfull
      have hstr := hB.str
      go_wp2
      go_ret
      exact ⟨ret_str HF.out, hB.frame⟩
end Go.Proofs.YtghiboknhjnlkaaDoor
