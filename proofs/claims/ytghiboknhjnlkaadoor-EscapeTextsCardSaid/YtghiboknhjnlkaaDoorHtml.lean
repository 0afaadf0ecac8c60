/- That escape.Html gives the clean text with four marks written out. -/
import Derived.Test.YtghiboknhjnlkaaDoorClean
import Derived.Lib.ConvBytes
set_option linter.unusedVariables false
set_option linter.unusedSimpArgs false
namespace Go.Proofs.YtghiboknhjnlkaaDoor
open Go.RowKit

def escH (c : UInt8) : List UInt8 :=
  if c = 38 then [38, 97, 109, 112, 59] else if c = 60 then [38, 108, 116, 59] else if c = 62 then [38, 103, 116, 59] else if c = 34 then [38, 113, 117, 111, 116, 59] else [c]

theorem escH_len (c : UInt8) : (escH c).length ≤ 6 := by
  unfold escH; repeat' split
  all_goals simp

theorem escH_lens (l : List UInt8) : (l.flatMap escH).length ≤ 6 * l.length := by
  induction l with
  | nil => simp
  | cons c l ih => have := escH_len c; rw [List.flatMap_cons, List.length_append, List.length_cons]; omega

def html (l : List UInt8) : List UInt8 := (clean l).flatMap escH

set_option maxHeartbeats 1000000 in
set_option maxRecDepth 100000 in
theorem html_any (s : ByteArray) (w : World) (hs : s.size ≤ 4398046511104) :
    Calls Tryd.prog 20 #[.string s] w fun e w' => e = .returned (.string ⟨(html s.data.toList).toArray⟩) ∧ Below w.heap.size w w' := by
  have HC := Lib.hid (fun w => clean_any s w (by omega))
  have hl := clean_len s.data.toList
  unfold html
  generalize clean s.data.toList = t at *
  have ht : t.length ≤ 17592186044416 := by simp at hl; have : s.data.size = s.size := rfl; omega
  clear hl
  go_enter Tryd.func20, Tryd.ntmps20
  go_wp2_with (go_at_call 25; refine (HC.out _).mono ?_)
  rintro e W1 ⟨rfl, hb1⟩
  have hcv := Lib.run_convert_string_bytes (P := Tryd.prog) W1 9 28 5 ⟨t.toArray⟩ Tryd.underlying9 Tryd.underlying28 Tryd.underlying5
  have hw0 : w.heap.size < W1.heap.size := by have := hb1.size; simp at this; omega
  have hB1 : Bld (W1.heap.size + 1) w.heap.size [] W1 := (BldG.fresh 57 5 (W1.heap.size + 1) w).below hb1
  have hB2 : Bld (W1.heap.size + 1) w.heap.size [] (Lib.bytesWorld W1 5 ⟨t.toArray⟩) := hB1.kept fun k hk _ => Lib.bytesWorld_at_old W1 _ _ k hk
  have hrow := Lib.bytesWorld_at_new W1 5 ⟨t.toArray⟩
  have hsz := Lib.bytesWorld_size W1 5 ⟨t.toArray⟩
  have hbw : Below w.heap.size w (Lib.bytesWorld W1 5 ⟨t.toArray⟩) := by
    have h1 : Below w.heap.size w W1 := ((Below.refl _ w).alloc (Nat.le_refl _) _).trans (hb1.mono (by simp))
    exact h1.trans ⟨rfl, rfl, rfl, by rw [hsz]; omega, fun k hk => Lib.bytesWorld_at_old W1 _ _ k (by omega)⟩
  have hcell : ∀ j (h : j < t.length), (Lib.bytesWorld W1 5 ⟨t.toArray⟩).cell? ⟨W1.heap.size, j, none⟩ = some (.int .u8 (t[j]'h).toNat) := by
    intro j h
    rw [Lib.bytesWorld_cell W1 5 ⟨t.toArray⟩ j (by simpa [ByteArray.size] using h)]
    simp [List.getD, h]
  have HCell := Lib.hid hcell
  clear hcell
  go_wp2
  generalize Lib.bytesWorld W1 5 ⟨t.toArray⟩ = W2 at *
  generalize Lib.bytesCells W1 5 ⟨t.toArray⟩ = row at *
  generalize grownCap W1 t.length 0 5 = cap at *
  go_loopw [10] (fun i wr => ∃ k : Nat, i = .int .i64 k ∧ k ≤ t.length ∧ Bld (W1.heap.size + 1) w.heap.size ((t.take k).flatMap escH) wr ∧ wr.heap[W1.heap.size]? = some (.cells row 5 (row.size, row.size + 1)) ∧ Below w.heap.size w wr ∧ W1.heap.size < wr.heap.size) (fun i _ => t.length - (intOf i).toNat)
  case atStart => exact ⟨0, rfl, Nat.zero_le _, hB2, hrow, hbw, by omega⟩
  case round =>
    obtain ⟨k, rfl, hk, hB, hr, hbw2, hsz2⟩ := hrel
    by_cases hlt : k < t.length
    · have hc : wr.cell? ⟨W1.heap.size, k, none⟩ = some (.int .u8 (t[k]'hlt).toNat) := by
        rw [Lib.cell_of_heap hr, ← HCell.out k hlt, Lib.cell_of_heap hrow]
      have hn : (t.take (k + 1)).flatMap escH = (t.take k).flatMap escH ++ escH (t[k]'hlt) := by
        rw [List.take_succ_eq_append_getElem hlt, List.flatMap_append]; simp
      have hlen : ((t.take k).flatMap escH).length ≤ 6 * k := by
        have := escH_lens (t.take k)
        have := List.length_take_le k t
        omega
      have HN := Lib.hid hn
      clear hn
      generalize (t.take k).flatMap escH = acc at *
      generalize hc0 : t[k]'hlt = c at *
      clear hc0
      have fin : ∀ W2, Bld (W1.heap.size + 1) w.heap.size (acc ++ escH c) W2 → BK (W1.heap.size + 1) w.heap.size wr W2 → ∃ k' : Nat, Value.int IntKind.i64 ((k : Int) + 1) = .int .i64 k' ∧ k' ≤ t.length ∧ Bld (W1.heap.size + 1) w.heap.size ((t.take k').flatMap escH) W2 ∧ W2.heap[W1.heap.size]? = some (.cells row 5 (row.size, row.size + 1)) ∧ Below w.heap.size w W2 ∧ W1.heap.size < W2.heap.size := by
        intro W3 h1 k1
        refine ⟨k + 1, by go_num, by omega, by rw [HN.out]; exact h1, k1.block _ _ hr (by omega) (fun h => by omega), hbw2.trans (k1.below (by omega) (Nat.le_refl _) (by omega)), by have := k1.size; omega⟩
      have FIN := Lib.hid fin
      clear fin
      by_cases h38 : c = 38
      · subst h38
        go_wp2_with (go_at_call 49; refine (writeString _ _ _ _ _ hB (by show _ + 5 ≤ _; omega) (by omega)).mono ?_; rintro e W3 ⟨rfl, h1, k1⟩)
        go_roundw
        case rel => exact FIN.out _ h1 k1
        case measure => simp [intOf]; omega
      have e38 := beq_u8 c 38 (by decide) h38
      by_cases h60 : c = 60
      · subst h60
        go_wp2_with (go_at_call 49; refine (writeString _ _ _ _ _ hB (by show _ + 4 ≤ _; omega) (by omega)).mono ?_; rintro e W3 ⟨rfl, h1, k1⟩)
        go_roundw
        case rel => exact FIN.out _ h1 k1
        case measure => simp [intOf]; omega
      have e60 := beq_u8 c 60 (by decide) h60
      by_cases h62 : c = 62
      · subst h62
        go_wp2_with (go_at_call 49; refine (writeString _ _ _ _ _ hB (by show _ + 4 ≤ _; omega) (by omega)).mono ?_; rintro e W3 ⟨rfl, h1, k1⟩)
        go_roundw
        case rel => exact FIN.out _ h1 k1
        case measure => simp [intOf]; omega
      have e62 := beq_u8 c 62 (by decide) h62
      by_cases h34 : c = 34
      · subst h34
        go_wp2_with (go_at_call 49; refine (writeString _ _ _ _ _ hB (by show _ + 6 ≤ _; omega) (by omega)).mono ?_; rintro e W3 ⟨rfl, h1, k1⟩)
        go_roundw
        case rel => exact FIN.out _ h1 k1
        case measure => simp [intOf]; omega
      have e34 := beq_u8 c 34 (by decide) h34
      have he : escH c = [c] := by simp [escH, h38, h60, h62, h34]
      rw [he] at FIN
      clear he h38 h60 h62 h34
      go_wp2_with (go_at_call 50; refine (writeByte _ _ _ _ _ hB (by omega) (by omega)).mono ?_; rintro e W3 ⟨rfl, h1, k1⟩)
      go_roundw
      case rel => exact FIN.out _ h1 k1
      case measure => simp [intOf]; omega
    · have hke : k = t.length := by omega
      subst hke
      rw [List.take_length] at hB
      go_wp2_with (go_at_call 51; refine (toString_any _ _ _ _ hB w.heap.size (Nat.le_refl _) (by omega) (by omega)).mono ?_)
      rintro e W3 ⟨rfl, b1⟩
      go_wp2
      go_ret
      exact ⟨rfl, hbw2.trans b1⟩
end Go.Proofs.YtghiboknhjnlkaaDoor
