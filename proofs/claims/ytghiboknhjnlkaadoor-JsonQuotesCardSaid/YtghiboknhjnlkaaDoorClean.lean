/- That text.Clean gives the clean text. -/
import Derived.Test.YtghiboknhjnlkaaDoorBuild
import Derived.Test.YtghiboknhjnlkaaDoorTxtR
set_option linter.unusedVariables false
set_option linter.unusedSimpArgs false
namespace Go.Proofs.YtghiboknhjnlkaaDoor
open Go.RowKit

theorem ret_str {a b : List UInt8} (h : a = b) : Ending.returned (.string ⟨a.toArray⟩) = Ending.returned (.string ⟨b.toArray⟩) := by rw [h]

set_option maxHeartbeats 1000000 in
set_option maxRecDepth 100000 in
theorem clean_any (s : ByteArray) (w : World) (hs : s.size ≤ 35184372088832) :
    Calls Tryd.prog 25 #[.string s] w fun e w' => e = .returned (.string ⟨(clean s.data.toList).toArray⟩) ∧ Below w.heap.size w w' := by
  go_enter Tryd.func25, Tryd.ntmps25
  go_wp2
  go_loopw [] (fun wr => ∃ (pos : Nat) (acc : List UInt8), Bld w.heap.size w.heap.size acc wr ∧ wr.heap[w.heap.size + 1]? = some (.stringIter s pos) ∧ Below w.heap.size w wr ∧ Hid (acc ++ clean (s.data.toList.drop pos) = clean s.data.toList) ∧ pos ≤ s.size ∧ acc.length ≤ 4 * pos) (fun wr => s.size - wr.iterPos (w.heap.size + 1))
  case atStart =>
    refine ⟨0, [], (BldG.fresh 57 5 w.heap.size w).alloc _, ?_, ((Below.refl _ w).alloc (Nat.le_refl _) _).alloc (by simp) _, rfl, by omega, by simp⟩
    have := World.iter_heap (w.alloc (.cells #[.pointer none, .slice none 0 0] 57)) s 0
    simpa using this
  case round =>
    obtain ⟨pos, acc, hI, hit, hbw, hacc, hpos, hal⟩ := hrel
    have hsz : w.heap.size + 1 < wr.heap.size := (Array.getElem?_eq_some_iff.1 hit).1
    by_cases hp : pos < s.size
    · have hnx : ∀ ty, (Instr.next (.pointer (some ⟨w.heap.size + 1, 0, none⟩)) true ty).run Tryd.prog wr = _ := fun ty => Lib.run_next_any_at wr (w.heap.size + 1) s pos ty hit hp
      have hst := clean_at s pos hp
      have hdl := decode_le_size s pos hp
      have hwd : 1 ≤ (Utf8.decode s pos).2 := by rw [decode_drop s pos hp]; exact Lib.decodeL_width _
      have hd1 := decode_le s pos
      have hI2 := hI.iterAt hit (pos + (Utf8.decode s pos).2)
      have hit2 := Lib.iterAt_heap wr (w.heap.size + 1) s pos (pos + (Utf8.decode s pos).2) hit
      have hbw2 := Lib.below_iterAt hbw (k := w.heap.size + 1) (by omega) s (pos + (Utf8.decode s pos).2)
      have hsz2 : w.heap.size ≤ (wr.iterAt (w.heap.size + 1) s (pos + (Utf8.decode s pos).2)).heap.size := by rw [Lib.iterAt_size]; omega
      generalize wr.iterAt (w.heap.size + 1) s (pos + (Utf8.decode s pos).2) = W1 at *
      generalize Utf8.decode s pos = dc at *
      have HS := Lib.hid hst
      clear hst
      by_cases h0 : dc.1 = 0
      · have hz : ((dc.1 : Int) == 0) = true := by rw [h0]; rfl
        have hf : fixN dc.1 = 65533 := by simp [fixN, h0]
        have HF := Lib.hid hf
        clear hf h0
        go_wp2_with (go_at_call 56; refine (writeRune w.heap.size w.heap.size _ _ (by omega) (by omega) _ hI2 (by omega) hsz2).mono ?_)
        rintro e W2 ⟨rfl, h1, k1⟩
        have b1 := k1.below hsz2 (Nat.le_refl _) (Nat.le_refl _)
        go_wp2
        go_roundw
        case rel =>
          refine ⟨pos + dc.2, acc ++ Lib.encodeRune 65533, h1, k1.iter hit2 (by omega), hbw2.trans b1, ?_, hdl, ?_⟩
          · have e2 := HS.out; rw [HF.out] at e2
            show _ = _
            rw [← hacc.out, e2, List.append_assoc]; rfl
          · have := (encodeRune_len 65533).2; simp; omega
        case measure =>
          simp only [World.iterPos, k1.iter hit2 (by omega), hit]
          omega
      · have hz : ((dc.1 : Int) == 0) = false := beq_eq_false_iff_ne.mpr (by omega)
        have hf : fixN dc.1 = dc.1 := by simp [fixN, h0]
        have HF := Lib.hid hf
        clear hf
        go_wp2_with (go_at_call 56; refine (writeRune w.heap.size w.heap.size _ _ (by omega) (by omega) _ hI2 (by omega) hsz2).mono ?_)
        rintro e W2 ⟨rfl, h1, k1⟩
        have b1 := k1.below hsz2 (Nat.le_refl _) (Nat.le_refl _)
        go_wp2
        go_roundw
        case rel =>
          refine ⟨pos + dc.2, acc ++ Lib.encodeRune dc.1, h1, k1.iter hit2 (by omega), hbw2.trans b1, ?_, hdl, ?_⟩
          · have e2 := HS.out; rw [HF.out] at e2
            show _ = _
            rw [← hacc.out, e2, List.append_assoc]
          · have := (encodeRune_len dc.1).2; simp; omega
        case measure =>
          simp only [World.iterPos, k1.iter hit2 (by omega), hit]
          omega
    · have hnx : ∀ ty, (Instr.next (.pointer (some ⟨w.heap.size + 1, 0, none⟩)) true ty).run Tryd.prog wr = _ := fun ty => Lib.run_next_end_at wr (w.heap.size + 1) s pos ty hit hp
      go_wp2_with (go_at_call 51; refine (toString_any w.heap.size w.heap.size acc _ hI w.heap.size (Nat.le_refl _) (Nat.le_refl _) (by omega)).mono ?_)
      rintro e W1 ⟨rfl, b1⟩
      go_wp2
      go_ret
      refine ⟨ret_str ?_, hbw.trans b1⟩
      have e2 := hacc.out
      rw [clean_end s pos hp, List.append_nil] at e2
      exact e2
end Go.Proofs.YtghiboknhjnlkaaDoor
