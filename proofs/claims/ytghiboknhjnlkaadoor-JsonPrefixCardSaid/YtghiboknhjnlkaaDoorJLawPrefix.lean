/- The law JsonPrefix: what stands ahead of a wrong byte is the beginning of some JSON text. -/
import Derived.Test.YtghiboknhjnlkaaDoorJAlive
import Derived.Test.YtghiboknhjnlkaaDoorJPfx2
set_option linter.unusedVariables false
set_option linter.unusedSimpArgs false
set_option linter.unnecessarySimpa false
namespace Go.Proofs.YtghiboknhjnlkaaDoor
open Go.RowKit

set_option maxHeartbeats 4000000 in
set_option maxRecDepth 100000 in
theorem lawPrefix_any (s : ByteArray) (w : World) (hU : EnvU w) :
    Calls Tryd.prog 12 #[.string s] w fun e w' => e = .returned (.bool true) ∧ Below w.heap.size w w' := by
  have HA := alive17_any w hU
  by_cases hs : s.size ≤ 3000
  · have hs2 : decide (3000 < (s.size : Int)) = false := by simp; omega
    have H1 := Lib.hid (fun J h w hU => read_ok s J h w hU)
    have H2 := Lib.hid (fun p er h w hU => read_bad s p er h w hU)
    have HP := Lib.hid (fun p h => read_prefix s.data.toList p h)
    generalize hRR : jRead s.data.toList = RR at *
    cases RR with
    | ok J =>
      have H := Lib.hid (H1.out J rfl)
      clear H1 H2 HP hRR
      go_enter Tryd.func12, Tryd.ntmps12
      go_wp2_with fail
      refine HA.mono ?_
      rintro e w1 ⟨rfl, b1⟩
      go_wp2_with fail
      refine (H.out _ (hU.below b1)).mono ?_
      rintro e w2 ⟨a1, c1, a2, c2, rfl, -, b2⟩
      go_wp2_with fail
      go_ret
      exact ⟨rfl, (bthen b1 b2).alloc (bthen b1 b2).size _⟩
    | error pe =>
      obtain ⟨p, er⟩ := pe
      have H := Lib.hid (H2.out p er rfl)
      by_cases he : er = 40
      · subst he
        obtain ⟨hp, hc⟩ := HP.out p rfl
        have hl : s.data.toList.take p = (s.extract 0 p).data.toList := (ext_take s p).symm
        rw [hl] at hc
        have hp2 : p ≤ s.size := by simpa using hp
        have hp3 : (0 : Int) ≤ p ∧ (p : Int) ≤ s.size := by omega
        have hp4 : decide ((p : Int) < 0) = false := by simp
        have hp5 : decide ((s.size : Int) < p) = false := by simp; omega
        clear H1 H2 HP hRR hp hl
        rcases hc with ⟨v, hv⟩ | hv
        · have K := Lib.hid (fun w hU => read_ok (s.extract 0 p) v hv w hU)
          clear hv
          go_enter Tryd.func12, Tryd.ntmps12
          go_wp2_with fail
          refine HA.mono ?_
          rintro e w1 ⟨rfl, b1⟩
          go_wp2_with fail
          refine (H.out _ (hU.below b1)).mono ?_
          rintro e w2 ⟨rfl, b2⟩
          have b12 := (bthen b1 b2).alloc (bthen b1 b2).size (.cells #[.int .i64 0, .string ⟨#[]⟩, .slice none 0 0, .slice none 0 0, .int .i64 0] 34)
          go_wp2_with fail
          refine (K.out _ (hU.below b12)).mono ?_
          rintro e w3 ⟨a1, c1, a2, c2, rfl, -, b3⟩
          go_wp2_with fail
          go_ret
          exact ⟨rfl, (bthen b12 b3).alloc (bthen b12 b3).size _⟩
        · have K := Lib.hid (fun w hU => read_bad (s.extract 0 p) p 40 hv w hU)
          clear hv
          go_enter Tryd.func12, Tryd.ntmps12
          go_wp2_with fail
          refine HA.mono ?_
          rintro e w1 ⟨rfl, b1⟩
          go_wp2_with fail
          refine (H.out _ (hU.below b1)).mono ?_
          rintro e w2 ⟨rfl, b2⟩
          have b12 := (bthen b1 b2).alloc (bthen b1 b2).size (.cells #[.int .i64 0, .string ⟨#[]⟩, .slice none 0 0, .slice none 0 0, .int .i64 0] 34)
          go_wp2_with fail
          refine (K.out _ (hU.below b12)).mono ?_
          rintro e w3 ⟨rfl, b3⟩
          go_wp2_with fail
          go_ret
          exact ⟨rfl, (bthen b12 b3).alloc (bthen b12 b3).size _⟩
      · have hne : (er != 40) = true := by rw [bne_iff_ne]; exact he
        clear H1 H2 HP hRR he
        go_enter Tryd.func12, Tryd.ntmps12
        go_wp2_with fail
        refine HA.mono ?_
        rintro e w1 ⟨rfl, b1⟩
        go_wp2_with fail
        refine (H.out _ (hU.below b1)).mono ?_
        rintro e w2 ⟨rfl, b2⟩
        go_wp2_with fail
        go_ret
        exact ⟨rfl, (bthen b1 b2).alloc (bthen b1 b2).size _⟩
  · have hs2 : decide (3000 < (s.size : Int)) = true := by simp; omega
    go_enter Tryd.func12, Tryd.ntmps12
    go_wp2_with fail
    refine HA.mono ?_
    rintro e w1 ⟨rfl, b1⟩
    go_wp2_with fail
    go_ret
    exact ⟨rfl, b1⟩
end Go.Proofs.YtghiboknhjnlkaaDoor
