/- The law JsonQuotes: every Quote answers the document's string, which is read as the text, where that is right. -/
import Derived.Test.YtghiboknhjnlkaaDoorJAlive
import Derived.Test.YtghiboknhjnlkaaDoorRQuote
import Derived.Test.YtghiboknhjnlkaaDoorJRnd3
set_option linter.unusedVariables false
set_option linter.unusedSimpArgs false
set_option linter.unnecessarySimpa false
namespace Go.Proofs.YtghiboknhjnlkaaDoor
open Go.RowKit

set_option maxHeartbeats 4000000 in
set_option maxRecDepth 100000 in
theorem textRune_any (s : ByteArray) (pos : Nat) (w : World) (hp : pos < s.size) (hs : s.size ≤ 140737488351232) (hU : EnvU w) :
    Calls Tryd.prog 37 #[.string s, .int .i64 pos] w fun e w' => e = .returned (.tuple #[.int .i64 (Lib.decodeL (s.data.toList.drop pos)).1, .int .i64 (Lib.decodeL (s.data.toList.drop pos)).2]) ∧ Below w.heap.size w w' := by
  have hDec := Tryd.utf8_DecodeRuneInString (s.extract pos s.size) w hU
  rw [decodeGo_rest s pos hp] at hDec
  have hsc := decode_sc (s.data.toList.drop pos)
  have hd4 := (dec_pos (s.data.toList.drop pos) (by intro e; have := congrArg List.length e; simp at this; omega)).2.2
  generalize Lib.decodeL (s.data.toList.drop pos) = dc at *
  obtain ⟨r, n⟩ := dc
  dsimp only at *
  unfold Sc at hsc
  obtain ⟨rz, hrz⟩ : ∃ rz : Int, (r : Int) = rz := ⟨_, rfl⟩
  rw [hrz] at hDec ⊢
  have hr0 : 0 ≤ rz ∧ rz ≤ 1114111 := by omega
  have h0 : ¬ ((pos : Int) < 0) := by omega
  have h1 : ¬ (s.size ≤ pos) := by omega
  have h2 : (0 : Int) ≤ pos ∧ (pos : Int) ≤ s.size := by omega
  clear hrz hsc
  go_enter Tryd.func37, Tryd.ntmps37
  go_wp2_with fail
  refine hDec.mono ?_
  rintro e w1 ⟨rfl, b1⟩
  go_wp2_with fail
  go_ret2
  exact ⟨rfl, b1⟩

theorem right_fuel : ∀ (n m : Nat) (l : List UInt8), l.length ≤ n → l.length ≤ m → rightL n l = rightL m l
  | 0, 0, l, _, _ => rfl
  | 0, m + 1, l, h, _ => by
    obtain rfl : l = [] := List.eq_nil_of_length_eq_zero (by omega)
    simp [rightL]
  | n + 1, 0, l, _, h => by
    obtain rfl : l = [] := List.eq_nil_of_length_eq_zero (by omega)
    simp [rightL]
  | n + 1, m + 1, l, hn, hm => by
    by_cases hl : l = []
    · subst hl; simp [rightL]
    · have h2 := Lib.decodeL_width l
      rw [rightL, rightL, if_neg hl, if_neg hl, right_fuel n m _ (by simp; omega) (by simp; omega)]

theorem right_step (L : Nat) (l : List UInt8) (hL : l.length ≤ L) (hl : l ≠ []) : rightL L l = (!((Lib.decodeL l).1 == 65533 && (Lib.decodeL l).2 == 1) && rightL L (l.drop (Lib.decodeL l).2)) := by
  rw [right_fuel L (L + 1) l hL (by omega), rightL, if_neg hl]

theorem list_ba2 (s : ByteArray) : (⟨s.data.toList.toArray⟩ : ByteArray) = s := by cases s; simp

set_option maxHeartbeats 4000000 in
set_option maxRecDepth 100000 in
theorem lawQuotes_any (s : ByteArray) (w : World) (hU : EnvU w) :
    Calls Tryd.prog 14 #[.string s] w fun e w' => e = .returned (.bool true) ∧ Below w.heap.size w w' := by
  have HA := alive17_any w hU
  by_cases hs : s.size ≤ 5000
  · have hs2 : decide (5000 < (s.size : Int)) = false := by simp; omega
    have HQ := Lib.hid (fun w => jquote_any s w (by omega))
    have HQ2 := Lib.hid (fun w => rquote_any s w (by omega))
    obtain ⟨tx, hrd, htx⟩ := quote_read s.data.toList (by simpa using hs)
    have HRD := Lib.hid (fun w hU => read_ok ⟨(jQuote s.data.toList).toArray⟩ _ hrd w hU)
    simp only [JV.kind, JV.text, JV.names, JV.kids, JV.pos, List.length_nil] at HRD
    have HTX := Lib.hid htx
    have HRN := Lib.hid (fun pos w hp hU => textRune_any s pos w hp (by omega) hU)
    generalize jQuote s.data.toList = q at *
    clear htx hrd
    go_enter Tryd.func14, Tryd.ntmps14
    go_wp2_with fail
    refine HA.mono ?_
    rintro e w1 ⟨rfl, b1⟩
    go_wp2_with fail
    refine (HQ.out _).mono ?_
    rintro e w2 ⟨rfl, b2⟩
    go_wp2_with fail
    refine (HQ2.out _).mono ?_
    rintro e w3 ⟨rfl, b3⟩
    have b13 := bthen (bthen b1 b2) b3
    go_wp2_with fail
    refine (HRD.out _ (hU.below b13)).mono ?_
    rintro e w4 ⟨a1, c1, a2, c2, rfl, -, b4⟩
    have b14 := bthen b13 b4
    have hx := Box5.new w4 (.int .i64 5) (.string ⟨tx.toArray⟩) (.slice a1 0 c1) (.slice a2 0 c2) (.int .i64 ((0 : Nat) : Int))
    have ba := b14.alloc b14.size (.cells #[.int .i64 5, .string ⟨tx.toArray⟩, .slice a1 0 c1, .slice a2 0 c2, .int .i64 ((0 : Nat) : Int)] 34)
    have HX := Lib.hid hx
    have HBA := Lib.hid ba
    clear hx ba b14 b13
    go_wp2_with fail
    go_loopw [7, 8] (fun vb v wr => ∃ (pos : Nat) (b : Bool), v = .int .i64 pos ∧ vb = .bool b ∧ pos ≤ s.size ∧ Hid (Box5 w4.heap.size [.int .i64 5, .string ⟨tx.toArray⟩, .slice a1 0 c1, .slice a2 0 c2, .int .i64 0] wr) ∧ Hid (Below w.heap.size w wr) ∧ Hid (rightL s.data.toList.length s.data.toList = (b && rightL s.data.toList.length (s.data.toList.drop pos)))) (fun _ v _ => s.size - (intOf v).toNat)
    case atStart => exact ⟨0, true, rfl, rfl, Nat.zero_le _, HX, HBA, by show _ = _; simp⟩
    case round =>
      obtain ⟨pos, b, rfl, rfl, hpos, hbx, hbw, hrt⟩ := hrel
      by_cases hp : pos < s.size
      · have hne : s.data.toList.drop pos ≠ [] := by intro e; have := congrArg List.length e; simp at this; omega
        have hst := right_step s.data.toList.length (s.data.toList.drop pos) (by simp) hne
        have hH := HRN.out pos wr hp (hU.below hbw.out)
        have hdp := dec_pos _ hne
        rw [List.length_drop] at hdp
        rw [List.drop_drop] at hst
        generalize Lib.decodeL (s.data.toList.drop pos) = dc at *
        obtain ⟨r, n⟩ := dc
        dsimp only at hst hH hdp
        have hle : pos + n ≤ s.size := by have := hdp.2.1; simp at this; omega
        have hr := hrt.out
        rw [hst, ← Bool.and_assoc] at hr
        obtain ⟨rz, hrz⟩ : ∃ rz : Int, (r : Int) = rz := ⟨_, rfl⟩
        obtain ⟨nz, hnz⟩ : ∃ nz : Int, (n : Int) = nz := ⟨_, rfl⟩
        rw [hrz, hnz] at hH
        have hn1 : 1 ≤ nz ∧ nz ≤ 4 := by omega
        have hsum : (pos : Int) + nz ≤ s.size := by omega
        have FIN : ∀ (b' : Bool) (w5 : World), Below wr.heap.size wr w5 → b' = (b && !(r == 65533 && n == 1)) → (∃ (p2 : Nat) (b2 : Bool), Value.int .i64 ((pos : Int) + nz) = .int .i64 p2 ∧ Value.bool b' = .bool b2 ∧ p2 ≤ s.size ∧ Hid (Box5 w4.heap.size [.int .i64 5, .string ⟨tx.toArray⟩, .slice a1 0 c1, .slice a2 0 c2, .int .i64 0] w5) ∧ Hid (Below w.heap.size w w5) ∧ Hid (rightL s.data.toList.length s.data.toList = (b2 && rightL s.data.toList.length (s.data.toList.drop p2)))) := by
          rintro b' w5 hb rfl
          refine ⟨pos + n, _, by rw [← hnz]; simp, rfl, hle, hbx.out.below hb, bthen hbw.out hb, ?_⟩
          exact hr
        have HFIN := Lib.hid FIN
        have HNZ := Lib.hid hnz
        have hH' := Lib.hid hH
        clear FIN hst hr hH hdp hne hle
        cases b
        · simp only [Bool.false_and] at HFIN
          clear hrz hnz
          go_wp2_with fail
          refine hH'.out.mono ?_
          rintro e w5 ⟨rfl, b5⟩
          go_wp2_with fail
          refine ⟨HFIN.out _ _ b5 rfl, ?_⟩
          have := HNZ.out
          simp [intOf]; omega
        · by_cases h1 : r = 65533
          · have e1 : (rz != 65533) = false := by rw [bne_eq_false_iff_eq]; omega
            have e1' : rz = 65533 := by omega
            subst e1'
            by_cases h2 : n = 1
            · have e2 : decide (1 < nz) = false := by simp; omega
              have hq : (true && !(r == 65533 && n == 1)) = false := by rw [h1, h2]; rfl
              rw [hq] at HFIN
              clear hrz hnz hq h1 h2 e1
              go_wp2_with fail
              refine hH'.out.mono ?_
              rintro e w5 ⟨rfl, b5⟩
              go_wp2_with fail
              refine ⟨HFIN.out _ _ b5 rfl, ?_⟩
              have := HNZ.out
              simp [intOf]; omega
            · have e2 : decide (1 < nz) = true := by simp; omega
              have hq : (true && !(r == 65533 && n == 1)) = true := by rw [h1, show (n == 1) = false by rw [beq_eq_false_iff_ne]; exact h2]; rfl
              rw [hq] at HFIN
              clear hrz hnz hq h1 h2 e1
              go_wp2_with fail
              refine hH'.out.mono ?_
              rintro e w5 ⟨rfl, b5⟩
              go_wp2_with fail
              refine ⟨HFIN.out _ _ b5 rfl, ?_⟩
              have := HNZ.out
              simp [intOf]; omega
          · have e1 : (rz != 65533) = true := by rw [bne_iff_ne]; omega
            have e2 : (rz == 65533) = false := by rw [beq_eq_false_iff_ne]; omega
            have hq : (true && !(r == 65533 && n == 1)) = true := by rw [show (r == 65533) = false by rw [beq_eq_false_iff_ne]; exact h1]; rfl
            rw [hq] at HFIN
            clear hrz hnz hq h1
            go_wp2_with fail
            refine hH'.out.mono ?_
            rintro e w5 ⟨rfl, b5⟩
            go_wp2_with fail
            refine ⟨HFIN.out _ _ b5 rfl, ?_⟩
            have := HNZ.out
            simp [intOf]; omega
      · have hr := hrt.out
        rw [List.drop_of_length_le (by simp; omega)] at hr
        have hnil : rightL s.data.toList.length ([] : List UInt8) = true := by cases s.data.toList.length <;> simp [rightL]
        rw [hnil, Bool.and_true] at hr
        have x0 := hbx.out.cell 0 _ rfl
        have x1 := hbx.out.cell 1 _ rfl
        cases b
        · clear hr
          go_wp2_with fail
          go_ret
          exact ⟨rfl, hbw.out⟩
        · have ht := HTX.out hr
          rw [ht, list_ba2] at x1
          clear hr ht
          go_wp2_with fail
          go_ret
          exact ⟨rfl, hbw.out⟩
  · have hs2 : decide (5000 < (s.size : Int)) = true := by simp; omega
    go_enter Tryd.func14, Tryd.ntmps14
    go_wp2_with fail
    refine HA.mono ?_
    rintro e w1 ⟨rfl, b1⟩
    go_wp2_with fail
    go_ret
    exact ⟨rfl, b1⟩
end Go.Proofs.YtghiboknhjnlkaaDoor
