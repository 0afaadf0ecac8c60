/- The law EscapeMarks: a text whose plain marks all have a backslash ahead is itself again. -/
import Derived.Test.YtghiboknhjnlkaaDoorAlive
import Derived.Test.YtghiboknhjnlkaaDoorMarksLaw
import Derived.Test.YtghiboknhjnlkaaDoorBufL
set_option linter.unusedVariables false
set_option linter.unusedSimpArgs false
set_option linter.unnecessarySimpa false
namespace Go.Proofs.YtghiboknhjnlkaaDoor
open Go.RowKit

set_option maxHeartbeats 4000000 in
set_option maxRecDepth 100000 in
theorem lawMarks_any (s : ByteArray) (w : World) (hE : EnvS w) :
    Calls Tryd.prog 5 #[.string s] w fun e w' => e = .returned (.bool true) ∧ Below w.heap.size w w' := by
  have HA := Lib.hid (fun w h => alive_any w h)
  by_cases hs : s.size ≤ 20000
  · have hs2 : decide (20000 < (s.size : Int)) = false := by simp; omega
    have HP := Lib.hid (fun c w => plain_any c w)
    have hl := escB_lens s.data.toList
    have e1 : s.data.toList.length = s.size := rfl
    rw [e1] at hl
    have hpl := plain_escB s.data.toList
    have HQ := Lib.hid (fun w h => plainText_any ⟨(s.data.toList.flatMap escB).toArray⟩ w (by rw [size_list]; omega) h)
    simp only [hpl] at HQ
    clear hpl
    go_enter Tryd.func5, Tryd.ntmps5
    go_wp2_with (first | (go_at_call 15; refine (HA.out _ hE).mono ?_; rintro e w1 ⟨rfl, b1⟩) | fail)
    go_loopw [3, 4] (fun b v wr => ∃ k : Nat, v = .int .i64 k ∧ k ≤ s.size ∧ Buf w.heap.size b ((s.data.toList.take k).flatMap escB) w wr) (fun _ v _ => s.size - (intOf v).toNat)
    case atStart => exact ⟨0, rfl, Nat.zero_le _, Buf.nil b1 b1.size⟩
    case round =>
      obtain ⟨k, rfl, hk, hB⟩ := hrel
      by_cases hlt : k < s.size
      · have hn : (s.data.toList.take (k + 1)).flatMap escB = (s.data.toList.take k).flatMap escB ++ escB (s[k]'hlt) := by
          rw [List.take_succ_eq_append_getElem (by simpa using hlt), List.flatMap_append]; simp; rfl
        have hkl := escB_lens (s.data.toList.take k)
        have hkl2 := List.length_take_le k s.data.toList
        have HPk := Lib.hid (HP.out (s[k]'hlt))
        have HN := Lib.hid hn
        clear hn
        generalize (s.data.toList.take k).flatMap escB = acc at *
        by_cases hm : isMark (s[k]'hlt) = true
        · rw [hm] at HPk
          have he : escB (s[k]'hlt) = [92] ++ [s[k]'hlt] := by unfold escB; rw [if_pos hm]; rfl
          rw [he] at HN
          clear he hm
          go_wp2_with (first | (go_at_call 24; refine (HPk.out _).mono ?_; rintro e w2 ⟨rfl, b2⟩) | (at_builtin; refine wp_byte rfl _ _ rfl rfl 92 92 rfl (hB.below b2) rfl (by omega) ?_; intro v' w3 hB3) | (at_builtin; refine wp_byte rfl _ _ rfl rfl (s[k]'hlt) _ rfl hB3 rfl (by simp; omega) ?_; intro v'' w4 hB4))
          refine ⟨⟨k + 1, by go_num, by omega, ?_⟩, by simp [intOf]; omega⟩
          rw [HN.out]
          first | exact hB4 | (rw [← List.append_assoc]; exact hB4)
        · have hm' : isMark (s[k]'hlt) = false := by simpa using hm
          rw [hm'] at HPk
          have he : escB (s[k]'hlt) = [s[k]'hlt] := by unfold escB; rw [if_neg hm]
          rw [he] at HN
          clear he hm hm'
          go_wp2_with (first | (go_at_call 24; refine (HPk.out _).mono ?_; rintro e w2 ⟨rfl, b2⟩) | (at_builtin; refine wp_byte rfl _ _ rfl rfl (s[k]'hlt) _ rfl (hB.below b2) rfl (by omega) ?_; intro v'' w4 hB4))
          refine ⟨⟨k + 1, by go_num, by omega, ?_⟩, by simp [intOf]; omega⟩
          rw [HN.out]
          first | exact hB4 | (rw [← List.append_assoc]; exact hB4)
      · have hke : k = s.size := by omega
        subst hke
        rw [List.take_of_length_le (by simp)] at hB
        have hstr := hB.str
        generalize s.data.toList.flatMap escB = acc at *
        go_wp2_with (go_at_call 18; refine (HQ.out _ (hE.below hB.frame)).mono ?_; rintro e w5 ⟨rfl, b5⟩)
        go_ret
        exact ⟨rfl, hB.frame.trans (b5.mono hB.low)⟩
  · have hs2 : decide (20000 < (s.size : Int)) = true := by simp; omega
    go_enter Tryd.func5, Tryd.ntmps5
    go_wp2_with (go_at_call 15; refine (HA.out _ hE).mono ?_; rintro e w1 ⟨rfl, b1⟩)
    go_ret
    exact ⟨rfl, b1⟩
end Go.Proofs.YtghiboknhjnlkaaDoor
