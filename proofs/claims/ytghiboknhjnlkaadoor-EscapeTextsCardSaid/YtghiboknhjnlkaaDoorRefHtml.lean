/- That stetref07.Html gives the same HTML. -/
import Derived.Test.YtghiboknhjnlkaaDoorRefClean
import Derived.Test.YtghiboknhjnlkaaDoorHtml
import Derived.Test.YtghiboknhjnlkaaDoorLawParts
import Derived.Lib.SlBytesConst
set_option linter.unusedVariables false
set_option linter.unusedSimpArgs false
set_option linter.unnecessarySimpa false
namespace Go.Proofs.YtghiboknhjnlkaaDoor
open Go.RowKit

set_option maxHeartbeats 4000000 in
set_option maxRecDepth 100000 in
theorem refHtml_any (s : ByteArray) (w : World) (hs : s.size ≤ 4398046511104) :
    Calls Tryd.prog 21 #[.string s] w fun e w' => e = .returned (.string ⟨(html s.data.toList).toArray⟩) ∧ Below w.heap.size w w' := by
  have HC := Lib.hid (fun w => refClean_any s w (by omega))
  have hl := clean_len s.data.toList
  unfold html
  generalize clean s.data.toList = t at *
  have ht : t.length ≤ 17592186044416 := by simp at hl; have : s.data.size = s.size := rfl; omega
  clear hl
  go_enter Tryd.func21, Tryd.ntmps21
  go_wp2_with (go_at_call 53; refine (HC.out _).mono ?_; rintro e w1 ⟨rfl, b1⟩)
  go_loopw [4, 5] (fun b v wr => ∃ k : Nat, v = .int .i64 k ∧ k ≤ t.length ∧ Buf w.heap.size b ((t.take k).flatMap escH) w wr) (fun _ v _ => t.length - (intOf v).toNat)
  case atStart => exact ⟨0, rfl, Nat.zero_le _, Buf.nil b1 b1.size⟩
  case round =>
    obtain ⟨k, rfl, hk, hB⟩ := hrel
    have hcv := fun (wx : World) (C : Array Value) (n c : Nat) => Lib.run_convert_bytes_const (P := Tryd.prog) wx 28 5 C n c Tryd.underlying28 Tryd.underlying5
    by_cases hlt : k < t.length
    · have hn : (t.take (k + 1)).flatMap escH = (t.take k).flatMap escH ++ escH t[k] := by
        rw [List.take_succ_eq_append_getElem hlt, List.flatMap_append]; simp
      have hkl := escH_lens (t.take k)
      have hkl2 := List.length_take_le k t
      have HN := Lib.hid hn
      clear hn
      generalize (t.take k).flatMap escH = acc at *
      have FIN : ∀ (v' : Value) (w3 : World), Buf w.heap.size v' ((t.take (k + 1)).flatMap escH) w w3 → (∃ k_1 : Nat, Value.int IntKind.i64 ((k : Int) + 1) = .int .i64 k_1 ∧ k_1 ≤ t.length ∧ Buf w.heap.size v' ((t.take k_1).flatMap escH) w w3) ∧ t.length - (intOf (Value.int IntKind.i64 ((k : Int) + 1))).toNat < t.length - (intOf (Value.int IntKind.i64 (k : Int))).toNat := by
        intro v' w3 h
        exact ⟨⟨k + 1, by go_num, by omega, h⟩, by simp [intOf]; omega⟩
      by_cases h38 : t[k] = 38
      · have e38 : ((((⟨t.toArray⟩ : ByteArray)[k]'(by rw [size_list]; exact hlt)).toNat : Int) == 38) = true := beq_u8_pos _ 38 (by decide) h38
        have he : escH t[k] = [38, 97, 109, 112, 59] := by rw [h38]; rfl
        rw [he] at HN
        clear he h38
        go_wp2_with (at_builtin; refine wp_bytes rfl _ _ rfl rfl [38, 97, 109, 112, 59] _ _ rfl hB 5 rfl rfl (by simp; omega) ?_; intro v' w3 hB3)
        exact FIN v' w3 (by rw [HN.out]; exact hB3)
      have e38 : ((((⟨t.toArray⟩ : ByteArray)[k]'(by rw [size_list]; exact hlt)).toNat : Int) == 38) = false := beq_u8 _ 38 (by decide) h38
      by_cases h60 : t[k] = 60
      · have e60 : ((((⟨t.toArray⟩ : ByteArray)[k]'(by rw [size_list]; exact hlt)).toNat : Int) == 60) = true := beq_u8_pos _ 60 (by decide) h60
        have he : escH t[k] = [38, 108, 116, 59] := by rw [h60]; rfl
        rw [he] at HN
        clear he h60
        go_wp2_with (at_builtin; refine wp_bytes rfl _ _ rfl rfl [38, 108, 116, 59] _ _ rfl hB 4 rfl rfl (by simp; omega) ?_; intro v' w3 hB3)
        exact FIN v' w3 (by rw [HN.out]; exact hB3)
      have e60 : ((((⟨t.toArray⟩ : ByteArray)[k]'(by rw [size_list]; exact hlt)).toNat : Int) == 60) = false := beq_u8 _ 60 (by decide) h60
      by_cases h62 : t[k] = 62
      · have e62 : ((((⟨t.toArray⟩ : ByteArray)[k]'(by rw [size_list]; exact hlt)).toNat : Int) == 62) = true := beq_u8_pos _ 62 (by decide) h62
        have he : escH t[k] = [38, 103, 116, 59] := by rw [h62]; rfl
        rw [he] at HN
        clear he h62
        go_wp2_with (at_builtin; refine wp_bytes rfl _ _ rfl rfl [38, 103, 116, 59] _ _ rfl hB 4 rfl rfl (by simp; omega) ?_; intro v' w3 hB3)
        exact FIN v' w3 (by rw [HN.out]; exact hB3)
      have e62 : ((((⟨t.toArray⟩ : ByteArray)[k]'(by rw [size_list]; exact hlt)).toNat : Int) == 62) = false := beq_u8 _ 62 (by decide) h62
      by_cases h34 : t[k] = 34
      · have e34 : ((((⟨t.toArray⟩ : ByteArray)[k]'(by rw [size_list]; exact hlt)).toNat : Int) == 34) = true := beq_u8_pos _ 34 (by decide) h34
        have he : escH t[k] = [38, 113, 117, 111, 116, 59] := by rw [h34]; rfl
        rw [he] at HN
        clear he h34
        go_wp2_with (at_builtin; refine wp_bytes rfl _ _ rfl rfl [38, 113, 117, 111, 116, 59] _ _ rfl hB 6 rfl rfl (by simp; omega) ?_; intro v' w3 hB3)
        exact FIN v' w3 (by rw [HN.out]; exact hB3)
      have e34 : ((((⟨t.toArray⟩ : ByteArray)[k]'(by rw [size_list]; exact hlt)).toNat : Int) == 34) = false := beq_u8 _ 34 (by decide) h34
      have he : escH t[k] = [t[k]] := by unfold escH; rw [if_neg h38, if_neg h60, if_neg h62, if_neg h34]
      rw [he] at HN
      clear he h38 h60 h62 h34
      go_wp2_with (at_builtin; refine wp_byte rfl _ _ rfl rfl t[k] _ rfl hB rfl (by omega) ?_; intro v' w3 hB3)
      exact FIN v' w3 (by rw [HN.out]; exact hB3)
    · have hke : k = t.length := by omega
      subst hke
      rw [List.take_length] at hB
      have hstr := hB.str
      go_wp2
      go_ret
      exact ⟨rfl, hB.frame⟩
end Go.Proofs.YtghiboknhjnlkaaDoor
