/- The law EscapeParts: HTML of two clean texts together is theirs, one behind the other. -/
import Derived.Test.YtghiboknhjnlkaaDoorAlive
import Derived.Test.YtghiboknhjnlkaaDoorRunes
set_option linter.unusedVariables false
set_option linter.unusedSimpArgs false
set_option linter.unnecessarySimpa false
namespace Go.Proofs.YtghiboknhjnlkaaDoor
open Go.RowKit

theorem html_parts (a b : List UInt8) : html (clean a ++ clean b) = html (clean a) ++ html (clean b) := by
  unfold html
  rw [clean_parts, clean_twice, clean_twice, List.flatMap_append]

theorem html_len (l : List UInt8) : (html l).length ≤ 24 * l.length := by
  unfold html
  have := escH_lens (clean l)
  have := clean_len l
  omega

theorem cat_list (a b : List UInt8) : (⟨a.toArray⟩ : ByteArray) ++ ⟨b.toArray⟩ = ⟨(a ++ b).toArray⟩ := by
  apply ByteArray.ext; simp

set_option maxHeartbeats 4000000 in
set_option maxRecDepth 100000 in
theorem lawParts_any (s t : ByteArray) (w : World) (hE : EnvS w) :
    Calls Tryd.prog 8 #[.string s, .string t] w fun e w' => e = .returned (.bool true) ∧ Below w.heap.size w w' := by
  have HA := Lib.hid (fun w h => alive_any w h)
  by_cases hs : s.size ≤ 10000
  · have hs2 : decide (10000 < (s.size : Int)) = false := by simp; omega
    by_cases ht : t.size ≤ 10000
    · have ht2 : decide (10000 < (t.size : Int)) = false := by simp; omega
      have C1 := Lib.hid (fun w => clean_any s w (by omega))
      have C2 := Lib.hid (fun w => clean_any t w (by omega))
      have hl1 := clean_len s.data.toList
      have hl2 := clean_len t.data.toList
      have e1 : s.data.toList.length = s.size := rfl
      have e2 : t.data.toList.length = t.size := rfl
      rw [e1] at hl1
      rw [e2] at hl2
      have hp := html_parts s.data.toList t.data.toList
      generalize clean s.data.toList = a at *
      generalize clean t.data.toList = b at *
      have H1 := Lib.hid (fun w => html_any ⟨(a ++ b).toArray⟩ w (by rw [size_list]; simp; omega))
      have H2 := Lib.hid (fun w => html_any ⟨a.toArray⟩ w (by rw [size_list]; omega))
      have H3 := Lib.hid (fun w => html_any ⟨b.toArray⟩ w (by rw [size_list]; omega))
      simp only [hp] at H1
      have hla := html_len a
      have hlb := html_len b
      generalize html a = ha at *
      generalize html b = hb at *
      clear hp
      go_enter Tryd.func8, Tryd.ntmps8
      go_wp2_with (first | (go_at_call 15; refine (HA.out _ hE).mono ?_; rintro e w1 ⟨rfl, b1⟩) | fail)
      go_at_call 25
      refine (C1.out _).mono ?_
      rintro e w2 ⟨rfl, b2⟩
      go_wp2_with fail
      go_at_call 25
      refine (C2.out _).mono ?_
      rintro e w3 ⟨rfl, b3⟩
      go_wp2_with fail
      rw [cat_list]
      go_at_call 20
      refine (H1.out _).mono ?_
      rintro e w4 ⟨rfl, b4⟩
      go_wp2_with fail
      go_at_call 20
      refine (H2.out _).mono ?_
      rintro e w5 ⟨rfl, b5⟩
      go_wp2_with fail
      go_at_call 20
      refine (H3.out _).mono ?_
      rintro e w6 ⟨rfl, b6⟩
      go_wp2_with fail
      go_ret
      have hq : (ha ++ hb == ((⟨ha.toArray⟩ : ByteArray) ++ ⟨hb.toArray⟩).toList) = true := by rw [cat_list, ByteArray.toList_eq]; simp
      exact ⟨ret_v (congrArg Value.bool hq), bnx (bnx (bnx (bnx (bnx b1 b2) b3) b4) b5) b6⟩
    · have ht2 : decide (10000 < (t.size : Int)) = true := by simp; omega
      go_enter Tryd.func8, Tryd.ntmps8
      go_wp2_with (go_at_call 15; refine (HA.out _ hE).mono ?_; rintro e w1 ⟨rfl, b1⟩)
      go_ret
      exact ⟨rfl, b1⟩
  · have hs2 : decide (10000 < (s.size : Int)) = true := by simp; omega
    go_enter Tryd.func8, Tryd.ntmps8
    go_wp2_with (go_at_call 15; refine (HA.out _ hE).mono ?_; rintro e w1 ⟨rfl, b1⟩)
    go_ret
    exact ⟨rfl, b1⟩
end Go.Proofs.YtghiboknhjnlkaaDoor
