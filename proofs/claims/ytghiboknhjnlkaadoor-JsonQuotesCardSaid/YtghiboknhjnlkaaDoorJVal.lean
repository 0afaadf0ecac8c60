/- json's reader: value. -/
import Derived.Test.YtghiboknhjnlkaaDoorJVal0
set_option linter.unusedVariables false
set_option linter.unusedSimpArgs false
set_option linter.unnecessarySimpa false
namespace Go.Proofs.YtghiboknhjnlkaaDoor
open Go.RowKit

set_option maxHeartbeats 2000000 in
set_option maxRecDepth 100000 in
theorem value_step (s : ByteArray) (hs : s.size ≤ 1000000) (f : Nat) (hIH : ∀ g, f = g + 1 → ValC s g) : ValC s f := by
  intro dz hdz hdz0 r p w hR hp hU hu
  generalize hRR : jVal s.data.toList f p = RR
  have hrw : r < w.heap.size := hR.lt
  have hUl := hU.lt
  have hp1 := hR.c1
  have hHas := Lib.hid (fun (c : UInt8) w h => has_any s r p c w h hp)
  have hp3 : ∀ o1 o2 o3, (((w.alloc o1).alloc o2).alloc o3).cell? ⟨r, 1, none⟩ = some (.int .i64 p) := fun o1 o2 o3 => (((hR.alloc o1).alloc o2).alloc o3).c1
  have hmf : ∀ (fn : Fn) (first cap : Array Value) (w : World), (Instr.makeFunc fn first cap).run Tryd.prog w = .ok (.func fn first cap) w := fun _ _ _ _ => rfl
  go_enter Tryd.func59, Tryd.ntmps59
  go_wp2_with fail
  simp only [Nat.add_assoc, Nat.reduceAdd]
  have hB0 := Lib.hid (beg_start (dz := dz) hR hp hU)
  have K0 : Kx (fun k => k = r ∨ w.heap.size ≤ k) w ((((w.alloc (.cells #[RP r] 72)).alloc (.cells #[.int .i64 dz] 3)).alloc (.cells #[.int .i64 0, .string ⟨#[]⟩, .slice none 0 0, .slice none 0 0, .int .i64 0] 34)).alloc (.cells #[.int .i64 0, .string ⟨#[]⟩, .slice none 0 0, .slice none 0 0, .int .i64 p] 34)) := ((((Kx.refl _ w).alloc _).alloc _).alloc _).alloc _
  generalize (((w.alloc _).alloc _).alloc _).alloc _ = W0 at *
  have hB := hB0.out
  have K := K0
  have hJS : ∀ x, s.data.toList[p]? = x → x ≠ some 91 → x ≠ some 123 → jVal s.data.toList f p = synE (jScal s.data.toList p) := by
    intro x hx h1 h2
    cases f with
    | zero => simp [jVal, hx, h1, h2]
    | succ f => simp [jVal, hx, h1, h2]
  have hHas2 : ∀ (c : UInt8) w, Rd s r p w → Calls Tryd.prog 82 #[RP r, .string ⟨[c].toArray⟩] w fun e w' => e = .returned (.bool (decide (s.data.toList[p]? = some c))) ∧ Below w.heap.size w w' := by
    intro c w h
    have := hHas.out c w h
    rwa [jHas_one] at this
  generalize hxx : s.data.toList[p]? = x at *
  have HHas := Lib.hid hHas2
  have HXX := Lib.hid hxx
  have HJS := Lib.hid (hJS x rfl)
  have HRR := Lib.hid hRR
  clear hHas2 hHas hxx hJS hRR hB0 K0 hp1 hp3
  by_cases h91 : x = some 91
  · subst h91
    clear HJS
    cases f with
    | zero =>
      have HR : Hid (Except.error (p, 41) = RR) := by
        have h1 := HRR.out
        unfold jVal at h1
        rw [HXX.out] at h1
        exact h1
      obtain rfl : dz = 64 := by omega
      clear HRR HXX hIH
      have R1 := hB.rd.c1
      go_wp2_with (first | (go_at_call 82; refine (HHas.out _ _ hB.rd).mono ?_; rintro e wn ⟨rfl, hb⟩; have K := kx_next K hb; have hB := hB.below hrw hu hb; have d0 := hB.cells.1; have d1 := hB.cells.2.1; have R1 := hB.rd.c1))
      refine ⟨rfl, ?_, kx_fin K⟩
      rw [← HR.out]
      rfl
    | succ g =>
      have hV := hIH g rfl
      have hdz1 : dz + 1 + g = 64 := by omega
      have hz63 : dz < 64 := by omega
      have hzd : decide (64 ≤ dz) = false := decide_eq_false (by omega)
      have hlt : p < s.size := by
        rcases Nat.lt_or_ge p s.size with h | h
        · exact h
        · have := HXX.out; rw [data_none s _ (by omega)] at this; cases this
      have hj : jVal s.data.toList (g + 1) p = (match jList s.data.toList 93 (stepA (jVal s.data.toList g)) p with | .error e => .error e | .ok (st, q) => .ok (.mk 6 [] st.1 st.2 p, q)) := by
        unfold jVal
        rw [HXX.out]
        rfl
      rw [HRR.out] at hj
      have HL := Lib.hid (fun W (hB : Beg s r w.heap.size dz p p W) => list_any s r p 93 86 #[.pointer (some ⟨w.heap.size + 3, 0, none⟩), .pointer (some ⟨w.heap.size, 0, none⟩), .pointer (some ⟨w.heap.size + 1, 0, none⟩)] (fun k => k = r ∨ w.heap.size ≤ k) (fun st q w' => INV s r w.heap.size (g + 1) dz 6 p st q w') (stepA (jVal s.data.toList g)) (W.setCell ⟨w.heap.size + 3, 0, none⟩ (.int .i64 6)) (by omega) (.inl rfl) (enter_partA _)
        (fun st q w' hI => partA_any s r w.heap.size g dz hdz1 (by omega) 6 p hV hrw hu hUl st q w' hI hs) (fun st q w' hI => ⟨hI.rd, hI.le⟩) (fun st q w' q' w2 hI k hR h1 h2 => hI.keep hrw hu k hR h1 h2) (hB.inv hrw hUl (g + 1) 6) hlt)
      generalize jList s.data.toList 93 (stepA (jVal s.data.toList g)) p = RL at *
      have R1 := hB.rd.c1
      cases RL with
      | error er =>
        obtain ⟨q3, er⟩ := er
        have HR : Hid (Except.error (q3, er) = RR) := hj.symm
        clear hj HRR HXX hIH hV
        go_wp2_with (first | (go_at_call 82; refine (HHas.out _ _ hB.rd).mono ?_; rintro e wn ⟨rfl, hb⟩; have K := kx_next K hb; have hB := hB.below hrw hu hb; have d0 := hB.cells.1; have d1 := hB.cells.2.1; have a := hB.cells.2.2.1; have z0 := hB.cells.2.2.2.2.2.2.2.2.2.2.2.2.1.1))
        refine (HL.out _ hB).mono ?_
        rintro e w2 ⟨rfl, k2⟩
        go_wp2_with fail
        refine ⟨rfl, ?_, kx_fin ((K.setCell ⟨w.heap.size + 3, 0, none⟩ (fun _ => .inr (by simp)) _).trans k2)⟩
        rw [← HR.out]
        rfl
      | ok sq =>
        obtain ⟨st, q⟩ := sq
        have HR : Hid (Except.ok (JV.mk 6 [] st.1 st.2 p, q) = RR) := hj.symm
        clear hj HRR HXX hIH hV
        go_wp2_with (first | (go_at_call 82; refine (HHas.out _ _ hB.rd).mono ?_; rintro e wn ⟨rfl, hb⟩; have K := kx_next K hb; have hB := hB.below hrw hu hb; have d0 := hB.cells.1; have d1 := hB.cells.2.1; have a := hB.cells.2.2.1; have z0 := hB.cells.2.2.2.2.2.2.2.2.2.2.2.2.1.1))
        refine (HL.out _ hB).mono ?_
        rintro e w2 ⟨⟨rfl, hI, hq⟩, k2⟩
        have K2 := (K.setCell ⟨w.heap.size + 3, 0, none⟩ (fun _ => .inr (by simp)) (.int .i64 6)).trans k2
        obtain ⟨b1, n1, k1, b2, n2, k2', hv, hrep⟩ := list_done hI
        have a0 : w2.cell? ⟨w.heap.size + 3, 0, none⟩ = some (.int .i64 6) := by rw [Lib.cell_of_heap hv]; rfl
        have a1 : w2.cell? ⟨w.heap.size + 3, 1, none⟩ = some (.string ⟨#[]⟩) := by rw [Lib.cell_of_heap hv]; rfl
        have a2 : w2.cell? ⟨w.heap.size + 3, 2, none⟩ = some (.slice b1 n1 k1) := by rw [Lib.cell_of_heap hv]; rfl
        have a3 : w2.cell? ⟨w.heap.size + 3, 3, none⟩ = some (.slice b2 n2 k2') := by rw [Lib.cell_of_heap hv]; rfl
        have a4 : w2.cell? ⟨w.heap.size + 3, 4, none⟩ = some (.int .i64 p) := by rw [Lib.cell_of_heap hv]; rfl
        have r0 : w2.cell? ⟨w.heap.size + 2, 0, none⟩ = some (.int .i64 0) := by rw [Lib.cell_of_heap hI.res]; rfl
        have r1 : w2.cell? ⟨w.heap.size + 2, 1, none⟩ = some (.string ⟨#[]⟩) := by rw [Lib.cell_of_heap hI.res]; rfl
        have r2 : w2.cell? ⟨w.heap.size + 2, 2, none⟩ = some (.slice none 0 0) := by rw [Lib.cell_of_heap hI.res]; rfl
        have r3 : w2.cell? ⟨w.heap.size + 2, 3, none⟩ = some (.slice none 0 0) := by rw [Lib.cell_of_heap hI.res]; rfl
        have r4 : w2.cell? ⟨w.heap.size + 2, 4, none⟩ = some (.int .i64 0) := by rw [Lib.cell_of_heap hI.res]; rfl
        have y0 := Lib.frozen_of_heap hI.res 0
        have y1 := Lib.frozen_of_heap hI.res 1
        have y2 := Lib.frozen_of_heap hI.res 2
        have y3 := Lib.frozen_of_heap hI.res 3
        have y4 := Lib.frozen_of_heap hI.res 4
        clear d0 hB a z0 hv
        go_wp2_with fail
        refine ⟨rfl, _, by simp [results, Tryd.results59, go_sem, a0, a1, a2, a3, a4, r0, r1, r2, r3, r4]; rfl, ?_⟩
        obtain ⟨RF, KF⟩ := fin0 hrw hI.rd K2 (.int .i64 6) (.string ⟨#[]⟩) (.slice b1 n1 k1) (.slice b2 n2 k2') (.int .i64 p)
        refine ⟨?_, kx_fin KF⟩
        rw [← HR.out]
        exact ⟨_, rfl, hrep _ _ _ _ _, RF, by omega, hI.le⟩
  by_cases h123 : x = some 123
  · subst h123
    clear HJS
    cases f with
    | zero =>
      have HR : Hid (Except.error (p, 41) = RR) := by
        have h1 := HRR.out
        unfold jVal at h1
        rw [HXX.out] at h1
        exact h1
      obtain rfl : dz = 64 := by omega
      clear HRR HXX hIH
      have R1 := hB.rd.c1
      go_wp2_with (first | (go_at_call 82; refine (HHas.out _ _ hB.rd).mono ?_; rintro e wn ⟨rfl, hb⟩; have K := kx_next K hb; have hB := hB.below hrw hu hb; have d0 := hB.cells.1; have d1 := hB.cells.2.1; have R1 := hB.rd.c1))
      refine ⟨rfl, ?_, kx_fin K⟩
      rw [← HR.out]
      rfl
    | succ g =>
      have hV := hIH g rfl
      have hdz1 : dz + 1 + g = 64 := by omega
      have hz63 : dz < 64 := by omega
      have hzd : decide (64 ≤ dz) = false := decide_eq_false (by omega)
      have hlt : p < s.size := by
        rcases Nat.lt_or_ge p s.size with h | h
        · exact h
        · have := HXX.out; rw [data_none s _ (by omega)] at this; cases this
      have hj : jVal s.data.toList (g + 1) p = (match jList s.data.toList 125 (stepO s.data.toList (jVal s.data.toList g)) p with | .error e => .error e | .ok (st, q) => .ok (.mk 7 [] st.1 st.2 p, q)) := by
        unfold jVal
        rw [HXX.out]
        rfl
      rw [HRR.out] at hj
      have HL := Lib.hid (fun W (hB : Beg s r w.heap.size dz p p W) => list_any s r p 125 87 #[.pointer (some ⟨w.heap.size, 0, none⟩), .pointer (some ⟨w.heap.size + 3, 0, none⟩), .pointer (some ⟨w.heap.size + 1, 0, none⟩)] (fun k => k = r ∨ w.heap.size ≤ k) (fun st q w' => INV s r w.heap.size (g + 1) dz 7 p st q w') (stepO s.data.toList (jVal s.data.toList g)) (W.setCell ⟨w.heap.size + 3, 0, none⟩ (.int .i64 7)) (by omega) (.inl rfl) (enter_partO _)
        (fun st q w' hI => partO_any s r w.heap.size g dz hdz1 (by omega) 7 p hV hrw hu hUl st q w' hI hs) (fun st q w' hI => ⟨hI.rd, hI.le⟩) (fun st q w' q' w2 hI k hR h1 h2 => hI.keep hrw hu k hR h1 h2) (hB.inv hrw hUl (g + 1) 7) hlt)
      generalize jList s.data.toList 125 (stepO s.data.toList (jVal s.data.toList g)) p = RL at *
      have R1 := hB.rd.c1
      cases RL with
      | error er =>
        obtain ⟨q3, er⟩ := er
        have HR : Hid (Except.error (q3, er) = RR) := hj.symm
        clear hj HRR HXX hIH hV
        go_wp2_with (first | (go_at_call 82; refine (HHas.out _ _ hB.rd).mono ?_; rintro e wn ⟨rfl, hb⟩; have K := kx_next K hb; have hB := hB.below hrw hu hb; have d0 := hB.cells.1; have d1 := hB.cells.2.1; have a := hB.cells.2.2.1; have z0 := hB.cells.2.2.2.2.2.2.2.2.2.2.2.2.1.1))
        refine (HL.out _ hB).mono ?_
        rintro e w2 ⟨rfl, k2⟩
        go_wp2_with fail
        refine ⟨rfl, ?_, kx_fin ((K.setCell ⟨w.heap.size + 3, 0, none⟩ (fun _ => .inr (by simp)) _).trans k2)⟩
        rw [← HR.out]
        rfl
      | ok sq =>
        obtain ⟨st, q⟩ := sq
        have HR : Hid (Except.ok (JV.mk 7 [] st.1 st.2 p, q) = RR) := hj.symm
        clear hj HRR HXX hIH hV
        go_wp2_with (first | (go_at_call 82; refine (HHas.out _ _ hB.rd).mono ?_; rintro e wn ⟨rfl, hb⟩; have K := kx_next K hb; have hB := hB.below hrw hu hb; have d0 := hB.cells.1; have d1 := hB.cells.2.1; have a := hB.cells.2.2.1; have z0 := hB.cells.2.2.2.2.2.2.2.2.2.2.2.2.1.1))
        refine (HL.out _ hB).mono ?_
        rintro e w2 ⟨⟨rfl, hI, hq⟩, k2⟩
        have K2 := (K.setCell ⟨w.heap.size + 3, 0, none⟩ (fun _ => .inr (by simp)) (.int .i64 7)).trans k2
        obtain ⟨b1, n1, k1, b2, n2, k2', hv, hrep⟩ := list_done hI
        have a0 : w2.cell? ⟨w.heap.size + 3, 0, none⟩ = some (.int .i64 7) := by rw [Lib.cell_of_heap hv]; rfl
        have a1 : w2.cell? ⟨w.heap.size + 3, 1, none⟩ = some (.string ⟨#[]⟩) := by rw [Lib.cell_of_heap hv]; rfl
        have a2 : w2.cell? ⟨w.heap.size + 3, 2, none⟩ = some (.slice b1 n1 k1) := by rw [Lib.cell_of_heap hv]; rfl
        have a3 : w2.cell? ⟨w.heap.size + 3, 3, none⟩ = some (.slice b2 n2 k2') := by rw [Lib.cell_of_heap hv]; rfl
        have a4 : w2.cell? ⟨w.heap.size + 3, 4, none⟩ = some (.int .i64 p) := by rw [Lib.cell_of_heap hv]; rfl
        have r0 : w2.cell? ⟨w.heap.size + 2, 0, none⟩ = some (.int .i64 0) := by rw [Lib.cell_of_heap hI.res]; rfl
        have r1 : w2.cell? ⟨w.heap.size + 2, 1, none⟩ = some (.string ⟨#[]⟩) := by rw [Lib.cell_of_heap hI.res]; rfl
        have r2 : w2.cell? ⟨w.heap.size + 2, 2, none⟩ = some (.slice none 0 0) := by rw [Lib.cell_of_heap hI.res]; rfl
        have r3 : w2.cell? ⟨w.heap.size + 2, 3, none⟩ = some (.slice none 0 0) := by rw [Lib.cell_of_heap hI.res]; rfl
        have r4 : w2.cell? ⟨w.heap.size + 2, 4, none⟩ = some (.int .i64 0) := by rw [Lib.cell_of_heap hI.res]; rfl
        have y0 := Lib.frozen_of_heap hI.res 0
        have y1 := Lib.frozen_of_heap hI.res 1
        have y2 := Lib.frozen_of_heap hI.res 2
        have y3 := Lib.frozen_of_heap hI.res 3
        have y4 := Lib.frozen_of_heap hI.res 4
        clear d0 hB a z0 hv
        go_wp2_with fail
        refine ⟨rfl, _, by simp [results, Tryd.results59, go_sem, a0, a1, a2, a3, a4, r0, r1, r2, r3, r4]; rfl, ?_⟩
        obtain ⟨RF, KF⟩ := fin0 hrw hI.rd K2 (.int .i64 7) (.string ⟨#[]⟩) (.slice b1 n1 k1) (.slice b2 n2 k2') (.int .i64 p)
        refine ⟨?_, kx_fin KF⟩
        rw [← HR.out]
        exact ⟨_, rfl, hrep _ _ _ _ _, RF, by omega, hI.le⟩
  by_cases h110 : x = some 110
  · have hsc := HJS.out
    subst h110
    have hj := hsc (by decide) (by decide)
    clear hsc
    have hj2 : jScal s.data.toList p = (match jWord s.data.toList p [110, 117, 108, 108] with | .error e => .error e | .ok q => .ok (.mk 1 [] [] [] p, q)) := by
      unfold jScal
      rw [HXX.out]
      rfl
    rw [hj2, HRR.out] at hj
    have HW := Lib.hid (fun w h => word_any s r p [110, 117, 108, 108] (by decide) w h hp (by omega))
    generalize hw : jWord s.data.toList p [110, 117, 108, 108] = RW at *
    cases RW with
    | error q =>
      have HR : Hid (Except.error (q, 40) = RR) := hj.symm
      clear hj hj2 hw HJS HXX HRR
      go_wp2_with (first | (go_at_call 82; refine (HHas.out _ _ hB.rd).mono ?_; rintro e wn ⟨rfl, hb⟩; have K := kx_next K hb; have hB := hB.below hrw hu hb; have d0 := hB.cells.1))
      refine (HW.out _ hB.rd).mono ?_
      rintro e w2 ⟨⟨rfl, hq⟩, k2⟩
      go_wp2_with fail
      refine ⟨rfl, ?_, kx_fin (kx_nextr K k2)⟩
      rw [← HR.out]
      rfl
    | ok q =>
      have hq := jWord_ok _ _ _ _ hw
      have HR : Hid (Except.ok (JV.mk 1 [] [] [] p, q) = RR) := hj.symm
      clear hj hj2 hw HJS HXX HRR
      go_wp2_with (first | (go_at_call 82; refine (HHas.out _ _ hB.rd).mono ?_; rintro e wn ⟨rfl, hb⟩; have K := kx_next K hb; have hB := hB.below hrw hu hb; have d0 := hB.cells.1))
      refine (HW.out _ hB.rd).mono ?_
      rintro e w2 ⟨⟨rfl, R2, hqs⟩, k2⟩
      have hB2 := hB.keep hrw hu k2 R2 hqs
      have K2 := kx_nextr K k2
      obtain ⟨-, -, a0, a1, a2, a3, a4, r0, r1, r2, r3, r4, ⟨z0, z1⟩, y0, y1, y2, y3, y4⟩ := hB2.cells
      go_wp2_with fail
      refine ⟨rfl, _, by simp [results, Tryd.results59, go_sem, a0, a1, a2, a3, a4, r0, r1, r2, r3, r4]; rfl, ?_⟩
      obtain ⟨RF, KF⟩ := fin1 hrw R2 K2 (.int .i64 1) (.int .i64 1) (.string ⟨#[]⟩) (.slice none 0 0) (.slice none 0 0) (.int .i64 p)
      refine ⟨?_, kx_fin KF⟩
      rw [← HR.out]
      exact ⟨_, rfl, jrep_scal _ _ f 1 [] p, RF, by simp at hq; omega, hqs⟩
  by_cases h116 : x = some 116
  · have hsc := HJS.out
    subst h116
    have hj := hsc (by decide) (by decide)
    clear hsc
    have hj2 : jScal s.data.toList p = (match jWord s.data.toList p [116, 114, 117, 101] with | .error e => .error e | .ok q => .ok (.mk 2 [] [] [] p, q)) := by
      unfold jScal
      rw [HXX.out]
      rfl
    rw [hj2, HRR.out] at hj
    have HW := Lib.hid (fun w h => word_any s r p [116, 114, 117, 101] (by decide) w h hp (by omega))
    generalize hw : jWord s.data.toList p [116, 114, 117, 101] = RW at *
    cases RW with
    | error q =>
      have HR : Hid (Except.error (q, 40) = RR) := hj.symm
      clear hj hj2 hw HJS HXX HRR
      go_wp2_with (first | (go_at_call 82; refine (HHas.out _ _ hB.rd).mono ?_; rintro e wn ⟨rfl, hb⟩; have K := kx_next K hb; have hB := hB.below hrw hu hb; have d0 := hB.cells.1))
      refine (HW.out _ hB.rd).mono ?_
      rintro e w2 ⟨⟨rfl, hq⟩, k2⟩
      go_wp2_with fail
      refine ⟨rfl, ?_, kx_fin (kx_nextr K k2)⟩
      rw [← HR.out]
      rfl
    | ok q =>
      have hq := jWord_ok _ _ _ _ hw
      have HR : Hid (Except.ok (JV.mk 2 [] [] [] p, q) = RR) := hj.symm
      clear hj hj2 hw HJS HXX HRR
      go_wp2_with (first | (go_at_call 82; refine (HHas.out _ _ hB.rd).mono ?_; rintro e wn ⟨rfl, hb⟩; have K := kx_next K hb; have hB := hB.below hrw hu hb; have d0 := hB.cells.1))
      refine (HW.out _ hB.rd).mono ?_
      rintro e w2 ⟨⟨rfl, R2, hqs⟩, k2⟩
      have hB2 := hB.keep hrw hu k2 R2 hqs
      have K2 := kx_nextr K k2
      obtain ⟨-, -, a0, a1, a2, a3, a4, r0, r1, r2, r3, r4, ⟨z0, z1⟩, y0, y1, y2, y3, y4⟩ := hB2.cells
      go_wp2_with fail
      refine ⟨rfl, _, by simp [results, Tryd.results59, go_sem, a0, a1, a2, a3, a4, r0, r1, r2, r3, r4]; rfl, ?_⟩
      obtain ⟨RF, KF⟩ := fin1 hrw R2 K2 (.int .i64 2) (.int .i64 2) (.string ⟨#[]⟩) (.slice none 0 0) (.slice none 0 0) (.int .i64 p)
      refine ⟨?_, kx_fin KF⟩
      rw [← HR.out]
      exact ⟨_, rfl, jrep_scal _ _ f 2 [] p, RF, by simp at hq; omega, hqs⟩
  by_cases h102 : x = some 102
  · have hsc := HJS.out
    subst h102
    have hj := hsc (by decide) (by decide)
    clear hsc
    have hj2 : jScal s.data.toList p = (match jWord s.data.toList p [102, 97, 108, 115, 101] with | .error e => .error e | .ok q => .ok (.mk 3 [] [] [] p, q)) := by
      unfold jScal
      rw [HXX.out]
      rfl
    rw [hj2, HRR.out] at hj
    have HW := Lib.hid (fun w h => word_any s r p [102, 97, 108, 115, 101] (by decide) w h hp (by omega))
    generalize hw : jWord s.data.toList p [102, 97, 108, 115, 101] = RW at *
    cases RW with
    | error q =>
      have HR : Hid (Except.error (q, 40) = RR) := hj.symm
      clear hj hj2 hw HJS HXX HRR
      go_wp2_with (first | (go_at_call 82; refine (HHas.out _ _ hB.rd).mono ?_; rintro e wn ⟨rfl, hb⟩; have K := kx_next K hb; have hB := hB.below hrw hu hb; have d0 := hB.cells.1))
      refine (HW.out _ hB.rd).mono ?_
      rintro e w2 ⟨⟨rfl, hq⟩, k2⟩
      go_wp2_with fail
      refine ⟨rfl, ?_, kx_fin (kx_nextr K k2)⟩
      rw [← HR.out]
      rfl
    | ok q =>
      have hq := jWord_ok _ _ _ _ hw
      have HR : Hid (Except.ok (JV.mk 3 [] [] [] p, q) = RR) := hj.symm
      clear hj hj2 hw HJS HXX HRR
      go_wp2_with (first | (go_at_call 82; refine (HHas.out _ _ hB.rd).mono ?_; rintro e wn ⟨rfl, hb⟩; have K := kx_next K hb; have hB := hB.below hrw hu hb; have d0 := hB.cells.1))
      refine (HW.out _ hB.rd).mono ?_
      rintro e w2 ⟨⟨rfl, R2, hqs⟩, k2⟩
      have hB2 := hB.keep hrw hu k2 R2 hqs
      have K2 := kx_nextr K k2
      obtain ⟨-, -, a0, a1, a2, a3, a4, r0, r1, r2, r3, r4, ⟨z0, z1⟩, y0, y1, y2, y3, y4⟩ := hB2.cells
      go_wp2_with fail
      refine ⟨rfl, _, by simp [results, Tryd.results59, go_sem, a0, a1, a2, a3, a4, r0, r1, r2, r3, r4]; rfl, ?_⟩
      obtain ⟨RF, KF⟩ := fin1 hrw R2 K2 (.int .i64 3) (.int .i64 3) (.string ⟨#[]⟩) (.slice none 0 0) (.slice none 0 0) (.int .i64 p)
      refine ⟨?_, kx_fin KF⟩
      rw [← HR.out]
      exact ⟨_, rfl, jrep_scal _ _ f 3 [] p, RF, by simp at hq; omega, hqs⟩
  by_cases h34 : x = some 34
  · have hsc := HJS.out
    subst h34
    have hj := hsc (by decide) (by decide)
    clear hsc
    have hj2 : jScal s.data.toList p = (match jText s.data.toList p with | .error e => .error e | .ok (t, q) => .ok (.mk 5 t [] [] p, q)) := by
      unfold jScal
      rw [HXX.out]
      rfl
    rw [hj2, HRR.out] at hj
    have HW := Lib.hid (fun w h hU => text_any s r p w h hp (by omega) hU hu)
    generalize hw : jText s.data.toList p = RW at *
    cases RW with
    | error q =>
      have HR : Hid (Except.error (q, 40) = RR) := hj.symm
      clear hj hj2 hw HJS HXX HRR
      go_wp2_with (first | (go_at_call 82; refine (HHas.out _ _ hB.rd).mono ?_; rintro e wn ⟨rfl, hb⟩; have K := kx_next K hb; have hB := hB.below hrw hu hb; have d0 := hB.cells.1))
      refine (HW.out _ hB.rd hB.env).mono ?_
      rintro e w2 ⟨⟨rfl, hq⟩, k2⟩
      go_wp2_with fail
      refine ⟨rfl, ?_, kx_fin (kx_nextr K k2)⟩
      rw [← HR.out]
      rfl
    | ok tq =>
      obtain ⟨t, q⟩ := tq
      have HR : Hid (Except.ok (JV.mk 5 t [] [] p, q) = RR) := hj.symm
      clear hj hj2 hw HJS HXX HRR
      go_wp2_with (first | (go_at_call 82; refine (HHas.out _ _ hB.rd).mono ?_; rintro e wn ⟨rfl, hb⟩; have K := kx_next K hb; have hB := hB.below hrw hu hb; have d0 := hB.cells.1))
      refine (HW.out _ hB.rd hB.env).mono ?_
      rintro e w2 ⟨⟨rfl, R2, hq, hqs, -⟩, k2⟩
      have hB2 := hB.keep hrw hu k2 R2 hqs
      have K2 := kx_nextr K k2
      obtain ⟨-, -, a0, a1, a2, a3, a4, r0, r1, r2, r3, r4, ⟨z0, z1⟩, y0, y1, y2, y3, y4⟩ := hB2.cells
      go_wp2_with fail
      refine ⟨rfl, _, by simp [results, Tryd.results59, go_sem, a0, a1, a2, a3, a4, r0, r1, r2, r3, r4]; rfl, ?_⟩
      obtain ⟨RF, KF⟩ := fin2 hrw R2 K2 (.int .i64 5) (.string ⟨t.toArray⟩) (.int .i64 5) (.string ⟨t.toArray⟩) (.slice none 0 0) (.slice none 0 0) (.int .i64 p)
      refine ⟨?_, kx_fin KF⟩
      rw [← HR.out]
      exact ⟨_, rfl, jrep_scal _ _ f 5 t p, RF, hq, hqs⟩
  have hf1 : decide (x = some 110) = false := decide_eq_false h110
  have hf2 : decide (x = some 116) = false := decide_eq_false h116
  have hf3 : decide (x = some 102) = false := decide_eq_false h102
  have hf4 : decide (x = some 34) = false := decide_eq_false h34
  have hf5 : decide (x = some 91) = false := decide_eq_false h91
  have hf6 : decide (x = some 123) = false := decide_eq_false h123
  have hj := HJS.out h91 h123
  have hj2 : jScal s.data.toList p = (match jNum s.data.toList p with | .error e => .error e | .ok q => .ok (.mk 4 ((s.data.toList.drop p).take (q - p)) [] [] p, q)) := by
    unfold jScal
    rw [HXX.out, if_neg h110, if_neg h116, if_neg h102, if_neg h34]
    rfl
  rw [hj2, HRR.out] at hj
  have HW := Lib.hid (fun w h => number_any s r p w h hp (by omega))
  generalize hw : jNum s.data.toList p = RW at *
  cases RW with
  | error q =>
    have HR : Hid (Except.error (q, 40) = RR) := hj.symm
    clear hj hj2 hw HJS HXX HRR h110 h116 h102 h34 h91 h123
    go_wp2_with (first | (go_at_call 82; refine (HHas.out _ _ hB.rd).mono ?_; rintro e wn ⟨rfl, hb⟩; have K := kx_next K hb; have hB := hB.below hrw hu hb; have d0 := hB.cells.1))
    refine (HW.out _ hB.rd).mono ?_
    rintro e w2 ⟨⟨rfl, hq⟩, k2⟩
    go_wp2_with fail
    refine ⟨rfl, ?_, kx_fin (kx_nextr K k2)⟩
    rw [← HR.out]
    rfl
  | ok q =>
    have hlt := jNum_lt s p q hp hw
    have HR : Hid (Except.ok (JV.mk 4 ((s.data.toList.drop p).take (q - p)) [] [] p, q) = RR) := hj.symm
    have hext : s.extract p q = ⟨((s.data.toList.drop p).take (q - p)).toArray⟩ := by
      apply ByteArray.ext
      apply Array.ext'
      simp [List.take_drop]
    have HW0 : Hid (∀ w, Rd s r p w → Calls Tryd.prog 89 #[RP r] w fun e w' => e = .returned (.string ⟨((s.data.toList.drop p).take (q - p)).toArray⟩) ∧ Rd s r q w' ∧ q ≤ s.size ∧ Kx (· = r) w w') := by
      intro w h
      refine (HW.out w h).mono ?_
      rintro e w' ⟨⟨rfl, h1, h2, h3⟩, k⟩
      exact ⟨by rw [hext], h1, h3, k⟩
    clear hj hj2 hw HJS HXX HRR h110 h116 h102 h34 h91 h123 hext HW
    generalize (s.data.toList.drop p).take (q - p) = t at *
    go_wp2_with (first | (go_at_call 82; refine (HHas.out _ _ hB.rd).mono ?_; rintro e wn ⟨rfl, hb⟩; have K := kx_next K hb; have hB := hB.below hrw hu hb; have d0 := hB.cells.1))
    refine (HW0.out _ hB.rd).mono ?_
    rintro e w2 ⟨rfl, R2, hqs, k2⟩
    have hB2 := hB.keep hrw hu k2 R2 hqs
    have K2 := kx_nextr K k2
    obtain ⟨-, -, a0, a1, a2, a3, a4, r0, r1, r2, r3, r4, ⟨z0, z1⟩, y0, y1, y2, y3, y4⟩ := hB2.cells
    go_wp2_with fail
    refine ⟨rfl, _, by simp [results, Tryd.results59, go_sem, a0, a1, a2, a3, a4, r0, r1, r2, r3, r4]; rfl, ?_⟩
    obtain ⟨RF, KF⟩ := fin2 hrw R2 K2 (.int .i64 4) (.string ⟨t.toArray⟩) (.int .i64 4) (.string ⟨t.toArray⟩) (.slice none 0 0) (.slice none 0 0) (.int .i64 p)
    refine ⟨?_, kx_fin KF⟩
    rw [← HR.out]
    exact ⟨_, rfl, jrep_scal _ _ f 4 t p, RF, hlt, hqs⟩

theorem value_any (s : ByteArray) (hs : s.size ≤ 1000000) : ∀ f, ValC s f
  | 0 => value_step s hs 0 (fun g h => by omega)
  | f + 1 => value_step s hs (f + 1) (fun g h => by
    have : g = f := by omega
    subst this
    exact value_any s hs g)
end Go.Proofs.YtghiboknhjnlkaaDoor
