/- The law EscapeHtml: HTML of a text has none of < > and the double quote, and is read back as the clean text. -/
import Derived.Test.YtghiboknhjnlkaaDoorAlive
import Derived.Test.YtghiboknhjnlkaaDoorHtmlLaw
import Derived.Test.YtghiboknhjnlkaaDoorBufL
set_option linter.unusedVariables false
set_option linter.unusedSimpArgs false
set_option linter.unnecessarySimpa false
namespace Go.Proofs.YtghiboknhjnlkaaDoor
open Go.RowKit

theorem part_at (t : List UInt8) (j : Nat) (h : j < t.length) : t.flatMap escH = (t.take j).flatMap escH ++ (escH t[j] ++ (t.drop (j + 1)).flatMap escH) := by
  conv => lhs; rw [← List.take_append_drop j t, List.drop_eq_getElem_cons h]
  rw [List.flatMap_append, List.flatMap_cons]

theorem part_next (t : List UInt8) (j : Nat) (h : j < t.length) : (t.take (j + 1)).flatMap escH = (t.take j).flatMap escH ++ escH t[j] := by
  rw [List.take_succ_eq_append_getElem h, List.flatMap_append]; simp

def hpos (t : List UInt8) (j : Nat) : Nat := ((t.take j).flatMap escH).length

theorem escH_pos (c : UInt8) : 0 < (escH c).length := by
  rcases escH_read c [] with ⟨_, h⟩ | ⟨h, _, _⟩
  · exact h
  · rw [h]; simp

set_option maxHeartbeats 4000000 in
set_option maxRecDepth 100000 in
theorem lawHtml_any (s : ByteArray) (w : World) (hE : EnvS w) :
    Calls Tryd.prog 6 #[.string s] w fun e w' => e = .returned (.bool true) ∧ Below w.heap.size w w' := by
  have HA := Lib.hid (fun w h => alive_any w h)
  by_cases hs : s.size ≤ 20000
  · have hs2 : decide (20000 < (s.size : Int)) = false := by simp; omega
    have H1 := Lib.hid (fun w => html_any s w (by omega))
    have H2 := Lib.hid (fun w => clean_any s w (by omega))
    have hl := clean_len s.data.toList
    have e1 : s.data.toList.length = s.size := rfl
    rw [e1] at hl
    unfold html at H1
    generalize clean s.data.toList = t at *
    have HNO := Lib.hid (html_no t)
    have HAT := Lib.hid (part_at t)
    have HNX := Lib.hid (part_next t)
    have hHl := escH_lens t
    obtain ⟨HH, hHH⟩ : ∃ HH, HH = t.flatMap escH := ⟨_, rfl⟩
    rw [← hHH] at H1 HNO hHl
    have HHH := Lib.hid hHH
    have HEn := Lib.hid (fun (pos : Nat) w h (hp : pos < HH.length) => entity_in ⟨HH.toArray⟩ pos w (by rw [size_list]; exact hp) (by rw [size_list]; omega) h)
    clear hHH
    go_enter Tryd.func6, Tryd.ntmps6
    go_wp2_with (first | (go_at_call 15; refine (HA.out _ hE).mono ?_; rintro e w1 ⟨rfl, b1⟩) | (go_at_call 20; refine (H1.out _).mono ?_; rintro e w2 ⟨rfl, b2⟩))
    go_loopw [4] (fun v wr => ∃ k : Nat, v = .int .i64 k ∧ k ≤ HH.length ∧ wr = w2) (fun v _ => HH.length - (intOf v).toNat)
    case atStart => exact ⟨0, rfl, Nat.zero_le _, rfl⟩
    case round =>
      obtain ⟨k, rfl, hk, rfl⟩ := hrel
      by_cases hlt : k < HH.length
      · have hb := HNO.out HH[k] (List.getElem_mem hlt)
        have q3 : ((((⟨HH.toArray⟩ : ByteArray)[k]'(by rw [size_list]; exact hlt)).toNat : Int) == 60) = false := beq_u8 _ 60 (by decide) hb.1
        have q4 : ((((⟨HH.toArray⟩ : ByteArray)[k]'(by rw [size_list]; exact hlt)).toNat : Int) == 62) = false := beq_u8 _ 62 (by decide) hb.2.1
        have q5 : ((((⟨HH.toArray⟩ : ByteArray)[k]'(by rw [size_list]; exact hlt)).toNat : Int) == 34) = false := beq_u8 _ 34 (by decide) hb.2.2
        clear hb
        go_wp2_with fail
        exact ⟨⟨k + 1, by go_num, by omega, by trivial⟩, by simp [intOf]; omega⟩
      · have hke : k = HH.length := by omega
        subst hke
        go_wp2_with fail
        go_loopw [5, 6] (fun b v wr => ∃ j : Nat, v = .int .i64 (hpos t j) ∧ j ≤ t.length ∧ Buf w.heap.size b (t.take j) w wr) (fun _ v _ => HH.length - (intOf v).toNat)
        case atStart => exact ⟨0, rfl, Nat.zero_le _, Buf.nil (bnx b1 b2) (bnx b1 b2).size⟩
        case round =>
          obtain ⟨j, rfl, hj, hB⟩ := hrel
          have hbw := hB.frame
          by_cases hjl : j < t.length
          · have hat := HAT.out j hjl
            have hnx := HNX.out j hjl
            rw [← HHH.out] at hat
            have hrd := escH_read t[j] ((t.drop (j + 1)).flatMap escH)
            have hposi := escH_pos t[j]
            have htk : t.take (j + 1) = t.take j ++ [t[j]] := List.take_succ_eq_append_getElem hjl
            have hHlen : HH.length = ((t.take j).flatMap escH).length + ((escH t[j]).length + ((t.drop (j + 1)).flatMap escH).length) := by rw [hat]; simp
            have hnl : ((t.take (j + 1)).flatMap escH).length = ((t.take j).flatMap escH).length + (escH t[j]).length := by rw [hnx]; simp
            have hEn := HEn.out ((t.take j).flatMap escH).length _ (hE.below hbw) (by omega)
            have hdr : (⟨HH.toArray⟩ : ByteArray).data.toList.drop ((t.take j).flatMap escH).length = escH t[j] ++ (t.drop (j + 1)).flatMap escH := by
              show HH.drop _ = _
              rw [hat, List.drop_left]
            rw [hdr] at hEn
            have hhead : ∀ h : ((t.take j).flatMap escH).length < HH.length, escH t[j] = [t[j]] → HH[((t.take j).flatMap escH).length] = t[j] := by
              intro h e
              have : HH[((t.take j).flatMap escH).length]? = some t[j] := by rw [hat, e, List.getElem?_append_right (Nat.le_refl _)]; simp
              rw [List.getElem?_eq_getElem h] at this
              exact Option.some.inj this
            have htl : (t.take j).length ≤ t.length := List.length_take_le' j t
            have HTK := Lib.hid htk
            have HNL := Lib.hid hnl
            clear hat hnx hdr htk hnl
            have hps : ((t.take j).flatMap escH).length = hpos t j := rfl
            have hps1 : ((t.take (j + 1)).flatMap escH).length = hpos t (j + 1) := rfl
            rw [hps1] at HNL
            simp only [hps] at *
            clear hps hps1
            generalize hpos t j = pos at *
            generalize ((t.drop (j + 1)).flatMap escH) = post at *
            generalize t.take j = acc at *
            have hp : pos < HH.length := by omega
            have HL2 := Lib.hid (show pos + (escH t[j]).length ≤ HH.length by omega)
            clear hHlen
            rcases hrd with ⟨hent, _⟩ | ⟨hsame, hn38, hent⟩
            · rw [hent] at hEn
              obtain ⟨m, hm⟩ : ∃ m : Int, m = (escH t[j]).length := ⟨_, rfl⟩
              rw [← hm] at hEn
              have hm0 : 0 < m := by omega
              have hm6 : m ≤ 6 := by have := escH_len t[j]; omega
              have HM := Lib.hid hm
              have HE := Lib.hid hEn
              clear hm hent hhead hEn
              go_wp2_with (first | (go_at_call 16; refine HE.out.mono ?_; rintro e w3 ⟨rfl, b3⟩) | (at_builtin; refine wp_text rfl _ _ rfl rfl (hB.below b3) ⟨#[t[j]]⟩ rfl (by show _ + 1 ≤ _; omega) ?_; intro v' w4 hB4))
              refine ⟨⟨j + 1, ?_, by omega, ?_⟩, ?_⟩
              · have h1 := HM.out
                have h2 := HNL.out
                rw [show (pos : Int) + m = ((hpos t (j + 1) : Nat) : Int) by omega]
              · rw [HTK.out]; exact hB4
              · have h1 := HM.out
                have h4 := HL2.out
                simp [intOf]; omega
            · have hhd := hhead hp hsame
              have q38 : ((((⟨HH.toArray⟩ : ByteArray)[pos]'(by rw [size_list]; exact hp)).toNat : Int) == 38) = false := beq_u8 _ 38 (by decide) (by show HH[pos] ≠ 38; rw [hhd]; exact hn38)
              have HHD := Lib.hid hhd
              have HL1 := Lib.hid (show (escH t[j]).length = 1 by rw [hsame]; rfl)
              clear hposi
              rw [hent] at hEn
              generalize (entL (escH t[j] ++ post)).1 = cs at *
              obtain ⟨m, hm⟩ : ∃ m : Int, m = ((0 : Nat) : Int) := ⟨_, rfl⟩
              rw [← hm] at hEn
              have hm0 : m = 0 := by omega
              subst hm0
              have HE := Lib.hid hEn
              clear hm hent hhead hEn hhd hsame hn38
              go_wp2_with (first | (go_at_call 16; refine HE.out.mono ?_; rintro e w3 ⟨rfl, b3⟩) | (at_builtin; refine wp_byte rfl _ _ rfl rfl ((⟨HH.toArray⟩ : ByteArray)[pos]'(by rw [size_list]; exact hp)) _ rfl (hB.below b3) rfl (by omega) ?_; intro v' w4 hB4))
              go_roundw
              case rel =>
                refine ⟨j + 1, ?_, by omega, ?_⟩
                · have h2 := HNL.out
                  have h3 := HL1.out
                  rw [show (pos : Int) + 1 = ((hpos t (j + 1) : Nat) : Int) by omega]
                · rw [HTK.out, ← HHD.out]; exact hB4
              case measure => have h4 := HL2.out; have h3 := HL1.out; simp [intOf]; omega
          · have hje : j = t.length := by omega
            subst hje
            have hfull : hpos t t.length = HH.length := by rw [HHH.out, hpos, List.take_length]
            rw [hfull]
            rw [List.take_length] at hB
            have hstr := hB.drew.str
            go_wp2_with fail
            go_region_with (first | (go_at_call 25; refine (H2.out _).mono ?_; rintro e w5 ⟨rfl, b5⟩; have hs5 := (hB.drew.below b5).str))
            all_goals go_wp2
            all_goals go_ret
            all_goals exact ⟨rfl, hB.drew.frame.trans (b5.mono hB.low)⟩
  · have hs2 : decide (20000 < (s.size : Int)) = true := by simp; omega
    go_enter Tryd.func6, Tryd.ntmps6
    go_wp2_with (go_at_call 15; refine (HA.out _ hE).mono ?_; rintro e w1 ⟨rfl, b1⟩)
    go_ret
    exact ⟨rfl, b1⟩
end Go.Proofs.YtghiboknhjnlkaaDoor
