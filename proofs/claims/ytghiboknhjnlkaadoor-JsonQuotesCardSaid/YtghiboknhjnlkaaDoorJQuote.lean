/- json.Quote. -/
import Derived.Test.YtghiboknhjnlkaaDoorJTextP
set_option linter.unusedVariables false
set_option linter.unusedSimpArgs false
set_option linter.unnecessarySimpa false
namespace Go.Proofs.YtghiboknhjnlkaaDoor
open Go.RowKit

theorem quoteC_at (s : ByteArray) (pos : Nat) (h : pos < s.size) : quoteC (s.data.toList.drop pos) = quoteR (Utf8.decode s pos).1 ++ quoteC (s.data.toList.drop (pos + (Utf8.decode s pos).2)) := by
  rw [quoteC_step _ (by intro e; have := congrArg List.length e; simp at this; omega), ← decode_drop s pos h, List.drop_drop]

theorem hexB_at (i : Nat) (h : i < 16) : (⟨#[48, 49, 50, 51, 52, 53, 54, 55, 56, 57, 97, 98, 99, 100, 101, 102]⟩ : ByteArray)[i]'h = hexB i := by
  have : ∀ i : Fin 16, (⟨#[48, 49, 50, 51, 52, 53, 54, 55, 56, 57, 97, 98, 99, 100, 101, 102]⟩ : ByteArray)[i.1]'i.2 = hexB i.1 := by decide
  exact this ⟨i, h⟩

theorem and15 (rz : Int) (h0 : 0 ≤ rz) (h1 : rz < 32) : bits BinOp.and IntKind.i32 rz 15 = rz % 16 := by
  have : ∀ n : Fin 32, bits BinOp.and IntKind.i32 ((n.1 : Nat) : Int) 15 = ((n.1 : Nat) : Int) % 16 := by decide
  have h := this ⟨rz.toNat, by omega⟩
  simp only at h
  rwa [show ((rz.toNat : Nat) : Int) = rz by omega] at h

theorem hexZ_at (i : Int) (k : Nat) (hk : i = k) (hlt : k < 16) : ∀ hp, (⟨#[48, 49, 50, 51, 52, 53, 54, 55, 56, 57, 97, 98, 99, 100, 101, 102]⟩ : ByteArray)[i.toNat]'hp = hexB k := by
  subst hk
  intro hp
  exact hexB_at k hlt

theorem quoteR_len (r : Nat) : (quoteR r).length ≤ 6 := by
  have := (encodeRune_len (r : Int)).2
  unfold quoteR
  repeat' split
  all_goals simp
  all_goals omega

set_option maxHeartbeats 1000000 in
set_option maxRecDepth 100000 in
theorem jquote_any (s : ByteArray) (w : World) (hs : s.size ≤ 4398046511104) :
    Calls Tryd.prog 35 #[.string s] w fun e w' => e = .returned (.string ⟨(jQuote s.data.toList).toArray⟩) ∧ Below w.heap.size w w' := by
  have hB0 := BldG.fresh 57 5 w.heap.size w
  go_enter Tryd.func35, Tryd.ntmps35
  go_wp2_with fail
  refine (writeByte w.heap.size w.heap.size [] 34 _ hB0 (by simp) (by simp)).mono ?_
  rintro e W1 ⟨rfl, hI1, k1⟩
  have hb1 : Below w.heap.size w W1 := ((Below.refl _ w).alloc (Nat.le_refl _) _).trans (k1.below (by simp) (Nat.le_refl _) (Nat.le_refl _))
  go_wp2
  go_loopw [] (fun wr => ∃ (pos : Nat) (acc : List UInt8), Bld w.heap.size w.heap.size acc wr ∧ wr.heap[W1.heap.size]? = some (.stringIter s pos) ∧ Below w.heap.size w wr ∧ Hid (acc ++ quoteC (s.data.toList.drop pos) = 34 :: quoteC s.data.toList) ∧ pos ≤ s.size ∧ acc.length ≤ 6 * pos + 1) (fun wr => s.size - wr.iterPos W1.heap.size)
  case atStart =>
    refine ⟨0, [34], hI1.alloc _, World.iter_heap W1 s 0, hb1.alloc hb1.size _, rfl, by omega, by simp⟩
  case round =>
    obtain ⟨pos, acc, hI, hit, hbw, hacc, hpos, hal⟩ := hrel
    have hsz : W1.heap.size < wr.heap.size := (Array.getElem?_eq_some_iff.1 hit).1
    have hw1 := hb1.size
    have hbn : W1.heap.size ≠ w.heap.size := by have := hI1.lt; omega
    by_cases hp : pos < s.size
    · have hnx : ∀ ty, (Instr.next (.pointer (some ⟨W1.heap.size, 0, none⟩)) true ty).run Tryd.prog wr = _ := fun ty => Lib.run_next_any_at wr W1.heap.size s pos ty hit hp
      have hst := quoteC_at s pos hp
      have hdl := decode_le_size s pos hp
      have hrr := Lib.decodeL_rune (s.data.toList.drop pos)
      rw [← decode_drop s pos hp] at hrr
      have hwd : 1 ≤ (Utf8.decode s pos).2 := by rw [decode_drop s pos hp]; exact Lib.decodeL_width _
      have hd1 := decode_le s pos
      have hI2 := hI.iterAt hit (pos + (Utf8.decode s pos).2)
      have hit2 := Lib.iterAt_heap wr W1.heap.size s pos (pos + (Utf8.decode s pos).2) hit
      have hbw2 := Lib.below_iterAt hbw (k := W1.heap.size) (by omega) s (pos + (Utf8.decode s pos).2)
      have hsz2 : w.heap.size ≤ (wr.iterAt W1.heap.size s (pos + (Utf8.decode s pos).2)).heap.size := by rw [Lib.iterAt_size]; omega
      generalize wr.iterAt W1.heap.size s (pos + (Utf8.decode s pos).2) = W2 at *
      generalize Utf8.decode s pos = dc at *
      obtain ⟨r, n⟩ := dc
      simp only at hst hdl hwd hd1 hI2 hit2 hbw2 hrr
      have hql := quoteR_len r
      have HS := Lib.hid hst
      clear hst
      have FIN : ∀ (W : World) (acc' : List UInt8), Bld w.heap.size w.heap.size acc' W → BK w.heap.size w.heap.size W2 W → acc' = acc ++ quoteR r → (∃ (pos : Nat) (acc : List UInt8), Bld w.heap.size w.heap.size acc W ∧ W.heap[W1.heap.size]? = some (.stringIter s pos) ∧ Below w.heap.size w W ∧ Hid (acc ++ quoteC (s.data.toList.drop pos) = 34 :: quoteC s.data.toList) ∧ pos ≤ s.size ∧ acc.length ≤ 6 * pos + 1) ∧ s.size - W.iterPos W1.heap.size < s.size - wr.iterPos W1.heap.size := by
        rintro W acc' h1 k rfl
        refine ⟨⟨pos + n, _, h1, k.iter hit2 hbn, hbw2.trans (k.below hsz2 (Nat.le_refl _) (Nat.le_refl _)), ?_, hdl, by simp; omega⟩, ?_⟩
        · show _ = _
          rw [← hacc.out, HS.out, List.append_assoc]
        · simp only [World.iterPos, k.iter hit2 hbn, hit]
          omega
      have HFIN := Lib.hid FIN
      clear FIN
      obtain ⟨rz, hrz⟩ : ∃ rz : Int, (r : Int) = rz := ⟨_, rfl⟩
      have hz : 0 ≤ rz ∧ rz ≤ 1114111 := by omega
      have hl2 : (Lib.encodeRune (r : Int)).length ≤ 4 := (encodeRune_len (r : Int)).2
      by_cases h1 : r = 34 ∨ r = 92
      · have hq : quoteR r = 92 :: Lib.encodeRune r := by unfold quoteR; rw [if_pos h1]
        have hc : (rz = 34 ∧ (rz == 34) = true) ∨ ((rz == 34) = false ∧ (rz == 92) = true) := by
          rcases h1 with h | h
          · exact .inl ⟨by omega, by rw [beq_iff_eq]; omega⟩
          · exact .inr ⟨by rw [beq_eq_false_iff_ne]; omega, by rw [beq_iff_eq]; omega⟩
        rw [hrz] at hq hnx
        have HQ := Lib.hid hq
        clear hq h1 hd1 hql
        rcases hc with ⟨-, e1⟩ | ⟨e1, e2⟩
        all_goals
          go_wp2_with fail
          refine (writeByte w.heap.size w.heap.size acc 92 _ hI2 (by omega) hsz2).mono ?_
          rintro e W3 ⟨rfl, h3, k3⟩
          go_wp2_with fail
          refine (writeRune w.heap.size w.heap.size _ rz (by omega) (by omega) _ h3 (by simp; omega) (by have := k3.size; omega)).mono ?_
          rintro e W4 ⟨rfl, h4, k4⟩
          go_wp2_with fail
          exact HFIN.out _ _ h4 (k3.trans k4) (by rw [HQ.out]; simp)
      · by_cases h2 : r < 32
        · have hq : quoteR r = [92, 117, 48, 48, hexB (r / 16), hexB (r % 16)] := by unfold quoteR; rw [if_neg h1, if_pos h2]
          have e1 : (rz == 34) = false := by rw [beq_eq_false_iff_ne]; omega
          have e2 : (rz == 92) = false := by rw [beq_eq_false_iff_ne]; omega
          have e3 : rz < 32 := by omega
          have HQ := Lib.hid hq
          have HZ := Lib.hid hrz
          rw [hrz] at hnx
          have hb15 := and15 rz hz.1 e3
          have hm16 : 0 ≤ rz % 16 ∧ rz % 16 < 16 := by omega
          clear hq h1 hd1 hql hrz h2 hl2
          go_wp2_with fail
          refine (writeString w.heap.size w.heap.size acc _ _ hI2 (by simp [ByteArray.size]; omega) hsz2).mono ?_
          rintro e W3 ⟨rfl, h3, k3⟩
          go_wp2_with fail
          refine (writeByte w.heap.size w.heap.size _ _ _ h3 (by simp [ByteArray.size]; omega) (by have := k3.size; omega)).mono ?_
          rintro e W4 ⟨rfl, h4, k4⟩
          go_wp2_with fail
          refine (writeByte w.heap.size w.heap.size _ _ _ h4 (by rw [List.length_append, List.length_append]; show acc.length + 4 + 1 + 1 ≤ _; omega) (by have := k3.size; have := k4.size; omega)).mono ?_
          rintro e W5 ⟨rfl, h5, k5⟩
          go_wp2_with fail
          refine HFIN.out _ _ h5 ((k3.trans k4).trans k5) ?_
          have hzz := HZ.out
          rw [HQ.out, hexZ_at (rz / 16) (r / 16) (by omega) (by omega), hexZ_at (rz % 16) (r % 16) (by omega) (by omega)]
          simp
        · have hq : quoteR r = Lib.encodeRune r := by unfold quoteR; rw [if_neg h1, if_neg h2]
          have e1 : (rz == 34) = false := by rw [beq_eq_false_iff_ne]; omega
          have e2 : (rz == 92) = false := by rw [beq_eq_false_iff_ne]; omega
          have e3 : decide (rz < 32) = false := decide_eq_false (by omega)
          rw [hrz] at hq hnx
          have HQ := Lib.hid hq
          clear hq h1 hd1 hql h2
          go_wp2_with fail
          refine (writeRune w.heap.size w.heap.size _ rz (by omega) (by omega) _ hI2 (by omega) hsz2).mono ?_
          rintro e W4 ⟨rfl, h4, k4⟩
          go_wp2_with fail
          exact HFIN.out _ _ h4 k4 (by rw [HQ.out])
    · have hnx : ∀ ty, (Instr.next (.pointer (some ⟨W1.heap.size, 0, none⟩)) true ty).run Tryd.prog wr = _ := fun ty => Lib.run_next_end_at wr W1.heap.size s pos ty hit hp
      have hfull := hacc.out
      rw [List.drop_of_length_le (by simp; omega), quoteC_nil, List.append_nil] at hfull
      have HF := Lib.hid hfull
      clear hfull
      go_wp2_with fail
      refine (writeByte w.heap.size w.heap.size acc 34 _ hI (by omega) hbw.size).mono ?_
      rintro e W3 ⟨rfl, hI3, k3⟩
      go_wp2_with fail
      refine (toString_any w.heap.size w.heap.size _ _ hI3 w.heap.size (Nat.le_refl _) (Nat.le_refl _) (by have := k3.size; have := hbw.size; omega)).mono ?_
      rintro e W4 ⟨rfl, b4⟩
      go_wp2
      go_ret
      refine ⟨?_, (hbw.trans (k3.below hbw.size (Nat.le_refl _) (Nat.le_refl _))).trans b4⟩
      rw [HF.out]
      rfl
end Go.Proofs.YtghiboknhjnlkaaDoor
