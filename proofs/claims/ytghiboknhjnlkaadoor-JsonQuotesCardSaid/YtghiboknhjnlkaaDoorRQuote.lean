/- stetref17.Quote. -/
import Derived.Test.YtghiboknhjnlkaaDoorJQuote
import Derived.Test.YtghiboknhjnlkaaDoorRefRune
import Derived.Test.YtghiboknhjnlkaaDoorRefChar
import Derived.Test.YtghiboknhjnlkaaDoorBufS
import Derived.Deep.RegionHeld3
set_option linter.unusedVariables false
set_option linter.unusedSimpArgs false
set_option linter.unnecessarySimpa false
namespace Go.Proofs.YtghiboknhjnlkaaDoor
open Go.RowKit

theorem wp_bytesW {ops : Array Oper} {rest : List Oper} {o : Oper} {a : Act} {Q : Exit → Act → World → Prop} (hgd : o.guard = none) (s x : Operand)
    (ho : o.op = .call { callee := .builtin .append, args := #[s, x], argTypes := #[28, 28] })
    {N : Nat} {v : Value} {l : List UInt8} (hs : a.eval s = v) {W0 w0 : World} (cs : List UInt8) (cells : Array Value) (fz : Nat × Nat) (hcells : cells = (Lib.byteCells cs).toArray) (hb : Buf N v l W0 w0)
    (n : Nat) (hn : n = cs.length) (W1 : World) (hW : W1 = w0.alloc (.cells cells 5 fz)) (H : Nat) (hH : H = w0.heap.size) (hx : a.eval x = .slice (some ⟨H, 0, none⟩) n n) (hlen : l.length + cs.length ≤ 140737488355328)
    (h : ∀ v' w', Buf N v' (l ++ cs) W0 w' → wpList Tryd.prog ops Q rest (a.put o.dst v') w') : wpList Tryd.prog ops Q (o :: rest) a W1 := by
  subst hW hH
  exact wp_bytes hgd s x ho hs cs cells fz hcells hb n hn hx hlen h

set_option maxHeartbeats 4000000 in
set_option maxRecDepth 100000 in
theorem rquote_any (s : ByteArray) (w : World) (hs : s.size ≤ 4398046511104) :
    Calls Tryd.prog 36 #[.string s] w fun e w' => e = .returned (.string ⟨(jQuote s.data.toList).toArray⟩) ∧ Below w.heap.size w w' := by
  have HR := Lib.hid (fun pos w (hp : pos < s.size) => refRune_any s pos w hp (by omega))
  have hB0 : Buf w.heap.size (.slice (some ⟨w.heap.size, 0, none⟩) 1 1) [34] w (w.alloc (.cells #[.int .u8 34] 5)) := Buf.new (l := [34]) (Below.refl _ w) (Nat.le_refl _) (by decide)
  have HB0 := Lib.hid hB0
  clear hB0
  go_enter Tryd.func36, Tryd.ntmps36
  go_wp2_with fail
  go_loopw [4, 5] (fun b v wr => ∃ (pos : Nat) (acc : List UInt8), v = .int .i64 pos ∧ pos ≤ s.size ∧ Buf w.heap.size b acc w wr ∧ Hid (acc ++ quoteC (s.data.toList.drop pos) = 34 :: quoteC s.data.toList) ∧ acc.length ≤ 6 * pos + 1) (fun _ v _ => s.size - (intOf v).toNat)
  case atStart => exact ⟨0, [34], rfl, Nat.zero_le _, HB0.out, by show _ = _; rfl, by simp⟩
  case round =>
    obtain ⟨pos, acc, rfl, hpos, hB, hacc, hal⟩ := hrel
    by_cases hp : pos < s.size
    · have hst := quoteC_at s pos hp
      have hle := decode_le_size s pos hp
      have hwd : 1 ≤ (Utf8.decode s pos).2 := by rw [decode_drop s pos hp]; exact Lib.decodeL_width _
      have hHR := HR.out pos
      have hsc := decode_sc (s.data.toList.drop pos)
      rw [← decode_drop s pos hp] at hsc
      have hql := quoteR_len (Utf8.decode s pos).1
      generalize Utf8.decode s pos = dc at *
      obtain ⟨r, n⟩ := dc
      dsimp only at hst hle hwd hHR hsc hql
      obtain ⟨rz, hrz⟩ : ∃ rz : Int, rz = r := ⟨_, rfl⟩
      obtain ⟨nz, hnz⟩ : ∃ nz : Int, nz = n := ⟨_, rfl⟩
      rw [← hrz, ← hnz] at hHR
      have hz1 : 1 ≤ nz ∧ nz ≤ 140737488355328 := by omega
      have hsz : (pos : Int) + nz ≤ s.size := by omega
      have FIN : ∀ (v' : Value) (w3 : World) (acc' : List UInt8), acc' = acc ++ quoteR r → Buf w.heap.size v' acc' w w3 → (∃ (p2 : Nat) (a2 : List UInt8), Value.int .i64 ((pos : Int) + nz) = .int .i64 p2 ∧ p2 ≤ s.size ∧ Buf w.heap.size v' a2 w w3 ∧ Hid (a2 ++ quoteC (s.data.toList.drop p2) = 34 :: quoteC s.data.toList) ∧ a2.length ≤ 6 * p2 + 1) := by
        rintro v' w3 acc' rfl h
        refine ⟨pos + n, _, by rw [hnz]; simp, hle, h, ?_, by simp; omega⟩
        show _ = _
        rw [← hacc.out, hst, List.append_assoc]
      have HFIN := Lib.hid FIN
      have hH := Lib.hid hHR
      have HRZ := Lib.hid hrz
      have hME : s.size - (pos + n) < s.size - pos := by omega
      have HNZ := Lib.hid hnz
      have hbl : acc.length + 6 ≤ 140737488355328 := by omega
      by_cases h34 : r = 34
      · have hq : quoteR r = [92, 34] := by rw [h34]; decide +kernel
        rw [hq] at HFIN
        have e34 : rz = 34 := by omega
        subst e34
        clear FIN hHR hrz hnz hst hsc hql hq h34 hle hwd hME
        go_wp2_with (first | (go_at_call 68; refine (hH.out _ hp).mono ?_; rintro e w2 ⟨rfl, b2⟩) | (at_builtin; refine wp_bytes rfl _ _ rfl rfl [92, 34] _ _ rfl (hB.below b2) 2 rfl rfl (by simp; omega) ?_; intro v' w3 hB3))
        refine ⟨HFIN.out _ _ _ rfl hB3, ?_⟩
        have := HNZ.out
        simp [intOf]; omega
      · by_cases h92 : r = 92
        · have hq : quoteR r = [92, 92] := by rw [h92]; decide +kernel
          rw [hq] at HFIN
          have e92 : rz = 92 := by omega
          subst e92
          clear FIN hHR hrz hnz hst hsc hql hq h92 hle hwd hME
          go_wp2_with (first | (go_at_call 68; refine (hH.out _ hp).mono ?_; rintro e w2 ⟨rfl, b2⟩) | (at_builtin; refine wp_bytes rfl _ _ rfl rfl [92, 92] _ _ rfl (hB.below b2) 2 rfl rfl (by simp; omega) ?_; intro v' w3 hB3))
          refine ⟨HFIN.out _ _ _ rfl hB3, ?_⟩
          have := HNZ.out
          simp [intOf]; omega
        · by_cases h32 : r < 32
          · have hq : quoteR r = [92, 117, 48, 48, hexB (r / 16), hexB (r % 16)] := by unfold quoteR; rw [if_neg (by omega), if_pos h32]
            rw [hq] at HFIN
            have e34 : (rz == 34) = false := by rw [beq_eq_false_iff_ne]; omega
            have e92 : (rz == 92) = false := by rw [beq_eq_false_iff_ne]; omega
            have e32 : decide (rz < 32) = true := by simp; omega
            have hr0 : 0 ≤ rz ∧ rz < 32 := by omega
            have hd1 : (0 : Int) ≤ rz / 16 ∧ rz / 16 < 16 := by omega
            have hd2 : (0 : Int) ≤ rz % 16 ∧ rz % 16 < 16 := by omega
            have hw3 : rz.tmod 16 = rz % 16 := Int.tmod_eq_emod_of_nonneg (by omega)
            have hw4 : rz.tdiv 16 = rz / 16 := Int.tdiv_eq_ediv_of_nonneg (by omega)
            have hw5 : IntKind.i64.wrap (rz / 16) = rz / 16 := by rw [IntKind.wrap_i64]; omega
            have HC1 := Lib.hid (hexZ_at (rz / 16) (r / 16) (by omega) (by omega))
            have HC2 := Lib.hid (hexZ_at (rz % 16) (r % 16) (by omega) (by omega))
            clear FIN hHR hrz hnz hst hsc hql hq h34 h92 h32 hle hwd hME
            go_wp2_with (go_at_call 68; refine (hH.out _ hp).mono ?_; rintro e w2 ⟨rfl, b2⟩)
            have hB2 := hB.below b2
            go_region_held3 (fun _ => True) (trivial) ((refine step_bytes rfl _ _ rfl rfl [92, 117, 48, 48, hexB (r / 16), hexB (r % 16)] (Lib.byteCells [92, 117, 48, 48, hexB (r / 16), hexB (r % 16)]).toArray (0, 0) rfl hB2.drew 6 rfl _ (by rw [← HC1.out, ← HC2.out]; rfl) _ rfl rfl (by simp; omega) ?_; intro v' w3 hB3))
            all_goals go_wp2_with fail
            all_goals refine ⟨HFIN.out _ _ _ rfl hB3, ?_⟩
            all_goals have := HNZ.out
            all_goals (simp [intOf]; omega)
          · have hq : quoteR r = Lib.encodeRune r := by unfold quoteR; rw [if_neg (by omega), if_neg h32]
            rw [hq] at HFIN
            have e34 : (rz == 34) = false := by rw [beq_eq_false_iff_ne]; omega
            have e92 : (rz == 92) = false := by rw [beq_eq_false_iff_ne]; omega
            have e32 : decide (rz < 32) = false := by simp; omega
            have hS : Scalar rz := by
              rw [hrz]
              unfold Scalar
              unfold Sc at hsc
              omega
            have HBY := Lib.hid (fun w => refBytes_any rz hS w)
            have he6 := (encodeRune_len (rz : Int)).2
            rw [← hrz] at HFIN
            generalize Lib.encodeRune rz = er at *
            clear FIN hHR hrz hnz hst hsc hql hq h34 h92 h32 hle hwd hME hS
            go_wp2_with (first | (go_at_call 68; refine (hH.out _ hp).mono ?_; rintro e w2 ⟨rfl, b2⟩) | (go_at_call 69; refine (HBY.out _).mono ?_; rintro e w4 ⟨rfl, rfl⟩) | (at_builtin; refine wp_bytes rfl _ _ rfl rfl er _ _ rfl (hB.below b2) er.length rfl rfl (by omega) ?_; intro v' w3 hB3))
            refine ⟨HFIN.out _ _ _ rfl hB3, ?_⟩
            have := HNZ.out
            simp [intOf]; omega
    · have hfull := hacc.out
      rw [List.drop_of_length_le (by simp; omega)] at hfull
      rw [quoteC_nil, List.append_nil] at hfull
      have HF := Lib.hid hfull
      clear hfull
      go_wp2_with (at_builtin; refine wp_byte rfl _ _ rfl rfl 34 _ rfl hB rfl (by omega) ?_; intro v' w3 hB3; have hstr := hB3.str)
      go_ret
      refine ⟨ret_str ?_, hB3.frame⟩
      rw [HF.out]
      rfl
end Go.Proofs.YtghiboknhjnlkaaDoor
