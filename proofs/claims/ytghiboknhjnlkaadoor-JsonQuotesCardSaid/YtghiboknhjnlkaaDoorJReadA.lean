/- json.Read's deferred closure: what it does to a panic, and to a return. json.Read. -/
import Derived.Test.YtghiboknhjnlkaaDoorJVal
import Derived.Defers
import Derived.Recover
import Derived.Tactics2
set_option linter.unusedVariables false
set_option linter.unusedSimpArgs false
set_option linter.unnecessarySimpa false
namespace Go.Proofs.YtghiboknhjnlkaaDoor
open Go.RowKit

set_option maxHeartbeats 1000000 in
set_option maxRecDepth 100000 in
theorem catch_idle (N : Nat) (w : World) :
    CallsD Tryd.prog 57 #[.pointer (some ⟨N, 0, none⟩), .pointer (some ⟨N + 1, 0, none⟩), .pointer (some ⟨N + 2, 0, none⟩)] .returning w fun e u' w' => e = .returned (.tuple #[]) ∧ u' = .returning ∧ w' = w := by
  refine callsD_of_wpS Tryd.func57 rfl fun c₀ cs hu => ?_
  apply wpS_seq
  apply wpS_region
  simp [wpOpsS, go_sem, recoverD, hu, Tryd.ntmps57, Exit.thenS]
  apply wpS_seq
  apply wpS_region
  simp [wpOpsS, go_sem, Exit.thenS]
  refine wpS_cond (t := false) (by simp [Act.eval, Array.replicate]) ?_
  simp only [Bool.false_eq_true, if_false]
  refine wpS_of_wp (wp_skip ?_)
  cases c₀
  simp_all [bodyPostS, results, Tryd.results57]

set_option maxHeartbeats 1000000 in
set_option maxRecDepth 100000 in
theorem catch_panic (N : Nat) (p er : Int) (w : World) (c0 c1 c2 c3 c4 : Value)
    (h0 : w.heap[N]? = some (.cells #[c0, c1, c2, c3, c4] 34 (0, 0))) (h1 : w.heap[N + 1]? = some (.cells #[.int .i64 0] 3 (0, 0))) (h2 : w.heap[N + 2]? = some (.cells #[.int .i64 0] 35 (0, 0))) :
    CallsD Tryd.prog 57 #[.pointer (some ⟨N, 0, none⟩), .pointer (some ⟨N + 1, 0, none⟩), .pointer (some ⟨N + 2, 0, none⟩)] (.panicking [{ v := .iface 71 (.agg #[.int .i64 p, .int .i64 er]), recovered := false }]) w fun e u' w' =>
      e = .returned (.tuple #[]) ∧ u' = .panicking [{ v := .iface 71 (.agg #[.int .i64 p, .int .i64 er]), recovered := true }] ∧
        w'.heap[N]? = some (.cells #[.int .i64 0, .string ⟨#[]⟩, .slice none 0 0, .slice none 0 0, .int .i64 0] 34 (0, 0)) ∧ w'.heap[N + 1]? = some (.cells #[.int .i64 p] 3 (0, 0)) ∧ w'.heap[N + 2]? = some (.cells #[.int .i64 er] 35 (0, 0)) ∧ Kx (fun k => N ≤ k) w w' := by
  refine callsD_of_wpS Tryd.func57 rfl fun c₀ cs hu => ?_
  apply wpS_seq
  apply wpS_region
  simp [wpOpsS, go_sem, recoverD, hu, Tryd.ntmps57, Exit.thenS]
  apply wpS_seq
  apply wpS_region
  simp [wpOpsS, go_sem, Exit.thenS]
  refine wpS_cond (t := true) (by simp [Act.eval, Array.replicate]) ?_
  simp only [if_true]
  have hta : ∀ w : World, Sem.run Tryd.prog (Instr.typeAssert (.iface 71 (.agg #[.int .i64 p, .int .i64 er])) 20 71 false) w = .ok (.agg #[.int .i64 p, .int .i64 er]) w := fun w => by kernel_rfl
  refine wpS_of_wp ?_
  generalize hI : Value.iface 71 (.agg #[.int .i64 p, .int .i64 er]) = I at *
  change Code.wp _ _ _ { tmps := #[.pointer (some ⟨N, 0, none⟩), .pointer (some ⟨N + 1, 0, none⟩), .pointer (some ⟨N + 2, 0, none⟩), I, undef, I, I, .bool true, undef, undef, undef, undef, undef, undef, undef], defers := [] } w
  go_wp2_with fail
  have b0 := (Array.getElem?_eq_some_iff.1 h0).1
  have b1 := (Array.getElem?_eq_some_iff.1 h1).1
  have b2 := (Array.getElem?_eq_some_iff.1 h2).1
  have e0 := (Lib.alloc_old w (.cells #[.int .i64 p, .int .i64 er] 71) N b0).trans h0
  have e1 := (Lib.alloc_old w (.cells #[.int .i64 p, .int .i64 er] 71) (N + 1) b1).trans h1
  have e2 := (Lib.alloc_old w (.cells #[.int .i64 p, .int .i64 er] 71) (N + 2) b2).trans h2
  have e3 := heap_alloc_new w (.cells #[.int .i64 p, .int .i64 er] 71)
  have K1 : Kx (fun k => N ≤ k) w (w.alloc (.cells #[.int .i64 p, .int .i64 er] 71)) := (Kx.refl _ w).alloc _
  generalize w.alloc _ = W1 at *
  have hB0 : ¬ w.heap.size = N := by omega
  have hB1 : ¬ w.heap.size = N + 1 := by omega
  have hB2 : ¬ w.heap.size = N + 2 := by omega
  have hB3 : N ≤ w.heap.size := by omega
  generalize w.heap.size = B at *
  have g0 : W1.cell? ⟨N, 0, none⟩ = some c0 := by rw [Lib.cell_of_heap e0]; rfl
  have g1 : W1.cell? ⟨N, 1, none⟩ = some c1 := by rw [Lib.cell_of_heap e0]; rfl
  have g2 : W1.cell? ⟨N, 2, none⟩ = some c2 := by rw [Lib.cell_of_heap e0]; rfl
  have g3 : W1.cell? ⟨N, 3, none⟩ = some c3 := by rw [Lib.cell_of_heap e0]; rfl
  have g4 : W1.cell? ⟨N, 4, none⟩ = some c4 := by rw [Lib.cell_of_heap e0]; rfl
  have g5 : W1.cell? ⟨N + 1, 0, none⟩ = some (.int .i64 0) := by rw [Lib.cell_of_heap e1]; rfl
  have g6 : W1.cell? ⟨N + 2, 0, none⟩ = some (.int .i64 0) := by rw [Lib.cell_of_heap e2]; rfl
  have z0 := Lib.frozen_of_heap e0 0
  have z1 := Lib.frozen_of_heap e0 1
  have z2 := Lib.frozen_of_heap e0 2
  have z3 := Lib.frozen_of_heap e0 3
  have z4 := Lib.frozen_of_heap e0 4
  have z5 := Lib.frozen_of_heap e1 0
  have z6 := Lib.frozen_of_heap e2 0
  have m0 : W1.cell? ⟨B, 0, none⟩ = some (.int .i64 p) := by rw [Lib.cell_of_heap e3]; rfl
  have m1 : W1.cell? ⟨B, 1, none⟩ = some (.int .i64 er) := by rw [Lib.cell_of_heap e3]; rfl
  go_region
  subst hI
  refine ⟨rfl, _, rfl, .tuple #[], by simp [results, Tryd.results57], rfl, rfl, ?_, ?_, ?_, ?_⟩
  · simp [World.setCell, World.drew, Array.getElem?_modify, e0, e1, e2]
  · simp [World.setCell, World.drew, Array.getElem?_modify, e0, e1, e2]
  · simp [World.setCell, World.drew, Array.getElem?_modify, e0, e1, e2]
  · exact (((((((K1.setCell ⟨N, 0, none⟩ (fun _ => Nat.le_refl _) _).setCell ⟨N, 1, none⟩ (fun _ => Nat.le_refl _) _).setCell ⟨N, 2, none⟩ (fun _ => Nat.le_refl _) _).setCell ⟨N, 3, none⟩ (fun _ => Nat.le_refl _) _).setCell ⟨N, 4, none⟩ (fun _ => Nat.le_refl _) _).setCell ⟨N + 1, 0, none⟩ (fun _ => by simp) _).setCell ⟨N + 2, 0, none⟩ (fun _ => by simp) _).drew
end Go.Proofs.YtghiboknhjnlkaaDoor

namespace Go.Proofs.YtghiboknhjnlkaaDoor
open Go.RowKit

/-- how Read ends; the rows lie from block H on -/
def ReadE (H : Nat) (R : Except JErr JV) (e : Ending) (w' : World) : Prop :=
  match R with
  | .ok J => ∃ cs : List Value, e = .returned (.tuple #[.agg cs.toArray, .int .i64 0, .int .i64 0]) ∧ JRep (fun k => H ≤ k) w' 65 cs J
  | .error (p, er) => e = .returned (.tuple #[.agg #[.int .i64 0, .string ⟨#[]⟩, .slice none 0 0, .slice none 0 0, .int .i64 0], .int .i64 p, .int .i64 er])

/-- the results' variables, and the cells that they hold -/
def ResAt (N : Nat) (a b : Int) (w : World) : Prop :=
  w.heap[N]? = some (.cells #[.int .i64 0, .string ⟨#[]⟩, .slice none 0 0, .slice none 0 0, .int .i64 0] 34 (0, 0)) ∧ w.heap[N + 1]? = some (.cells #[.int .i64 a] 3 (0, 0)) ∧ w.heap[N + 2]? = some (.cells #[.int .i64 b] 35 (0, 0))

theorem resAt_start (w : World) (b : Int) : ResAt w.heap.size 0 b (((w.alloc (.cells #[.int .i64 0, .string ⟨#[]⟩, .slice none 0 0, .slice none 0 0, .int .i64 0] 34)).alloc (.cells #[.int .i64 0] 3)).alloc (.cells #[.int .i64 b] 35)) := by
  refine ⟨?_, ?_, ?_⟩
  · rw [Lib.alloc_old _ _ w.heap.size (by simp <;> omega), Lib.alloc_old _ _ w.heap.size (by simp)]
    exact heap_alloc_new w _
  · rw [Lib.alloc_old _ _ (w.heap.size + 1) (by simp)]
    have := heap_alloc_new (w.alloc (.cells #[.int .i64 0, .string ⟨#[]⟩, .slice none 0 0, .slice none 0 0, .int .i64 0] 34)) (.cells #[.int .i64 0] 3)
    simpa using this
  · have := heap_alloc_new ((w.alloc (.cells #[.int .i64 0, .string ⟨#[]⟩, .slice none 0 0, .slice none 0 0, .int .i64 0] 34)).alloc (.cells #[.int .i64 0] 3)) (.cells #[.int .i64 b] 35)
    simpa using this

theorem ResAt.cells {N : Nat} {a b : Int} {w : World} (h : ResAt N a b w) : w.cell? ⟨N, 0, none⟩ = some (.int .i64 0) ∧ w.cell? ⟨N, 1, none⟩ = some (.string ⟨#[]⟩) ∧ w.cell? ⟨N, 2, none⟩ = some (.slice none 0 0) ∧ w.cell? ⟨N, 3, none⟩ = some (.slice none 0 0) ∧ w.cell? ⟨N, 4, none⟩ = some (.int .i64 0) ∧ w.cell? ⟨N + 1, 0, none⟩ = some (.int .i64 a) ∧ w.cell? ⟨N + 2, 0, none⟩ = some (.int .i64 b) := by
  obtain ⟨h0, h1, h2⟩ := h
  exact ⟨by rw [Lib.cell_of_heap h0]; rfl, by rw [Lib.cell_of_heap h0]; rfl, by rw [Lib.cell_of_heap h0]; rfl, by rw [Lib.cell_of_heap h0]; rfl, by rw [Lib.cell_of_heap h0]; rfl, by rw [Lib.cell_of_heap h1]; rfl, by rw [Lib.cell_of_heap h2]; rfl⟩

set_option maxHeartbeats 1000000 in
set_option maxRecDepth 100000 in
theorem read_any (s : ByteArray) (w : World) (hU : EnvU w) :
    Calls Tryd.prog 27 #[.string s] w fun e w' => ReadE w.heap.size (jRead s.data.toList) e w' ∧ Below w.heap.size w w' := by
  generalize hRR : jRead s.data.toList = RR
  unfold jRead at hRR
  have hUl := hU.lt
  have hmf : ∀ (fn : Fn) (first cap : Array Value) (w : World), (Instr.makeFunc fn first cap).run Tryd.prog w = .ok (.func fn first cap) w := fun _ _ _ _ => rfl
  by_cases hbig : 65536 < s.size
  · have hb : decide (65536 < (s.size : Int)) = true := decide_eq_true (by omega)
    rw [if_pos (by simpa using hbig)] at hRR
    have HR := Lib.hid hRR
    clear hRR
    go_enter_defers Tryd.func27, Tryd.ntmps27
    go_wp2_with fail
    simp only [Nat.add_assoc, Nat.reduceAdd]
    have hRA := resAt_start w 10
    have hBl : Below w.heap.size w (((w.alloc (.cells #[.int .i64 0, .string ⟨#[]⟩, .slice none 0 0, .slice none 0 0, .int .i64 0] 34)).alloc (.cells #[.int .i64 0] 3)).alloc (.cells #[.int .i64 10] 35)) := (((Below.refl _ w).alloc (Nat.le_refl _) _).alloc (by simp) _).alloc (by simp <;> omega) _
    generalize ((w.alloc _).alloc _).alloc _ = W1 at *
    obtain ⟨g0, g1, g2, g3, g4, g5, g6⟩ := hRA.cells
    simp [bodyPostD, Leaves, settle, results, Tryd.results27, go_sem, g0, g1, g2, g3, g4, g5, g6]
    refine ⟨?_, hBl⟩
    rw [← HR.out]
    rfl
  · have hb : decide (65536 < (s.size : Int)) = false := decide_eq_false (by omega)
    rw [if_neg (by simpa using hbig)] at hRR
    have HRR := Lib.hid hRR
    clear hRR
    go_enter_defers Tryd.func27, Tryd.ntmps27
    go_wp2_with fail
    simp only [Nat.add_assoc, Nat.reduceAdd]
    have hRA := resAt_start w 0
    have hBl : Below w.heap.size w (((w.alloc (.cells #[.int .i64 0, .string ⟨#[]⟩, .slice none 0 0, .slice none 0 0, .int .i64 0] 34)).alloc (.cells #[.int .i64 0] 3)).alloc (.cells #[.int .i64 0] 35)) := (((Below.refl _ w).alloc (Nat.le_refl _) _).alloc (by simp) _).alloc (by simp <;> omega) _
    have hsz : (((w.alloc (.cells #[.int .i64 0, .string ⟨#[]⟩, .slice none 0 0, .slice none 0 0, .int .i64 0] 34)).alloc (.cells #[.int .i64 0] 3)).alloc (.cells #[.int .i64 0] 35)).heap.size = w.heap.size + 3 := by simp
    generalize ((w.alloc _).alloc _).alloc _ = W1 at *
    have hR0 : Rd s (w.heap.size + 3) 0 (W1.alloc (.cells #[.string s, .int .i64 0] 74)) := by
      have := heap_alloc_new W1 (.cells #[.string s, .int .i64 0] 74)
      rw [hsz] at this
      exact this
    have hU1 : EnvU (W1.alloc (.cells #[.string s, .int .i64 0] 74)) := hU.below (hBl.alloc (by rw [hsz]; omega) _)
    have hRA2 : ResAt w.heap.size 0 0 (W1.alloc (.cells #[.string s, .int .i64 0] 74)) := by
      obtain ⟨h0, h1, h2⟩ := hRA
      exact ⟨(Lib.alloc_old _ _ _ (by omega)).trans h0, (Lib.alloc_old _ _ _ (by omega)).trans h1, (Lib.alloc_old _ _ _ (by omega)).trans h2⟩
    have K1 : Kx (fun k => w.heap.size ≤ k) w (W1.alloc (.cells #[.string s, .int .i64 0] 74)) := (Kx.of_below hBl).alloc _
    have hsz2 : w.heap.size + 4 ≤ (W1.alloc (.cells #[.string s, .int .i64 0] 74)).heap.size := by simp; omega
    generalize W1.alloc _ = W2 at *
    have hb0 := blank_le s 0 (by omega)
    have hBL0 := Lib.hid (blanks_any s (w.heap.size + 3) 0 (by omega) (by omega))
    have hBL := Lib.hid (fun q hq => blanks_any s (w.heap.size + 3) q hq (by omega))
    have HRest := Lib.hid (fun q h W hR => rest_any s (w.heap.size + 3) q W hR h)
    generalize jBlank s.data.toList 0 = q1 at *
    have hVal := Lib.hid (fun W hR hU => value_any s (by omega) 64 0 (by omega) (by omega) (w.heap.size + 3) q1 W hR hb0.2 hU ⟨by omega, by omega⟩)
    have hne : ∀ i, (fun k => k = w.heap.size + 3) i → w.heap.size ≤ i := fun i h => by simp at h; omega
    refine (hBL0.out _ hR0).mono ?_
    rintro e W3 ⟨v3, rfl, R3, k3⟩
    have hU3 := hU1.kx k3 (by omega) (by omega)
    have K3 := K1.trans (k3.mono (fun i _ h => hne i h))
    have hRA3 : ResAt w.heap.size 0 0 W3 := by
      obtain ⟨h0, h1, h2⟩ := hRA2
      exact ⟨(k3.block _ (by omega) (by omega)).trans h0, (k3.block _ (by omega) (by omega)).trans h1, (k3.block _ (by omega) (by omega)).trans h2⟩
    have hsz3 : w.heap.size + 4 ≤ W3.heap.size := by have := k3.size; omega
    generalize jVal s.data.toList 64 q1 = RV at *
    cases RV with
    | error er =>
      obtain ⟨q, er⟩ := er
      have HR : Hid ((Except.error (q, er) : Except JErr JV) = RR) := HRR.out
      clear HRR
      go_wp2_with fail
      refine (hVal.out _ R3 hU3).mono ?_
      rintro e W4 ⟨rfl, k4⟩
      have K4 := K3.trans (k4.mono (fun i _ h => hne i h))
      obtain ⟨h0, h1, h2⟩ := hRA3
      have e0 := (k4.block _ (by omega) (by omega)).trans h0
      have e1 := (k4.block _ (by omega) (by omega)).trans h1
      have e2 := (k4.block _ (by omega) (by omega)).trans h2
      go_wp2_with fail
      refine leaves_cons (f := 57) (args := #[.pointer (some ⟨w.heap.size, 0, none⟩), .pointer (some ⟨w.heap.size + 1, 0, none⟩), .pointer (some ⟨w.heap.size + 2, 0, none⟩)]) (by simp) (by simp [go_sem]) ?_
      refine (catch_panic w.heap.size q er W4 _ _ _ _ _ e0 e1 e2).mono ?_
      rintro e u' W5 ⟨rfl, rfl, f0, f1, f2, k5⟩
      obtain ⟨g0, g1, g2, g3, g4, g5, g6⟩ := (show ResAt w.heap.size q er W5 from ⟨f0, f1, f2⟩).cells
      simp [Leaves, settle, results, Tryd.results27, go_sem, g0, g1, g2, g3, g4, g5, g6]
      refine ⟨?_, (K4.trans k5).below w.heap.size (Nat.le_refl _) (fun k hk => hk)⟩
      rw [← HR.out]
      rfl
    | ok jq =>
      obtain ⟨J, q⟩ := jq
      have hrr : (if jBlank s.data.toList q < s.data.toList.length then Except.error (jBlank s.data.toList q, 40) else Except.ok J) = RR := HRR.out
      have HRR1 := Lib.hid hrr
      clear hrr HRR
      go_wp2_with fail
      refine (hVal.out _ R3 hU3).mono ?_
      rintro e W4 ⟨⟨cs, rfl, hJ, R4, hq1, hqs⟩, k4⟩
      obtain ⟨k, t, kn, kk, p', rfl, ⟨a1, c1, n1, rfl⟩, ⟨a2, c2, n2, rfl⟩⟩ := jrep_cells hJ
      have K4 := K3.trans (k4.mono (fun i _ h => hne i h))
      have hsz4 : w.heap.size + 4 ≤ W4.heap.size := by have := k4.size; omega
      obtain ⟨h0, h1, h2⟩ := hRA3
      have e0 := (k4.block _ (by omega) (by omega)).trans h0
      have e1 := (k4.block _ (by omega) (by omega)).trans h1
      have e2 := (k4.block _ (by omega) (by omega)).trans h2
      obtain ⟨g0, g1, g2, g3, g4, -, -⟩ := (show ResAt w.heap.size 0 0 W4 from ⟨e0, e1, e2⟩).cells
      have z0 := Lib.frozen_of_heap e0 0
      have z1 := Lib.frozen_of_heap e0 1
      have z2 := Lib.frozen_of_heap e0 2
      have z3 := Lib.frozen_of_heap e0 3
      have z4 := Lib.frozen_of_heap e0 4
      have HJ := Lib.hid hJ
      clear hJ
      go_wp2_with fail
      have k5 : Kx (fun i => i = w.heap.size) W4 (set5 W4 w.heap.size 0 (.int .i64 k) (.string t) (.slice a1 n1 c1) (.slice a2 n2 c2) (.int .i64 p')) := set5_kx (Kx.refl _ W4) _ _ _ _ _ _ _ rfl
      have f0 : (set5 W4 w.heap.size 0 (.int .i64 k) (.string t) (.slice a1 n1 c1) (.slice a2 n2 c2) (.int .i64 p')).heap[w.heap.size]? = some (.cells #[.int .i64 k, .string t, .slice a1 n1 c1, .slice a2 n2 c2, .int .i64 p'] 34 (0, 0)) := (setFive_heap W4 w.heap.size 0 _ _ _ _ _ _ _ _ e0).trans rfl
      change Calls _ _ _ (set5 W4 w.heap.size 0 (.int .i64 k) (.string t) (.slice a1 n1 c1) (.slice a2 n2 c2) (.int .i64 p')) _
      generalize set5 W4 w.heap.size 0 (.int .i64 k) (.string t) (.slice a1 n1 c1) (.slice a2 n2 c2) (.int .i64 p') = W5 at *
      have R5 : Rd s (w.heap.size + 3) q W5 := R4.kx k5 (by omega)
      have f1 := (k5.block _ (by omega) (by omega)).trans e1
      have f2 := (k5.block _ (by omega) (by omega)).trans e2
      have J5 := HJ.out.kx k5 (fun i h e => by omega)
      have K5 := K4.trans (k5.mono (fun i _ h => by omega))
      have hsz5 : w.heap.size + 4 ≤ W5.heap.size := by have := k5.size; omega
      have hb2 := blank_le s q hqs
      have hBl2 := Lib.hid (hBL.out q hqs)
      generalize jBlank s.data.toList q = q2 at *
      refine (hBl2.out _ R5).mono ?_
      rintro e W6 ⟨v6, rfl, R6, k6⟩
      have f0' := (k6.block _ (by omega) (by omega)).trans f0
      have f1' := (k6.block _ (by omega) (by omega)).trans f1
      have f2' := (k6.block _ (by omega) (by omega)).trans f2
      have J6 := Lib.hid (J5.kx k6 (fun i h e => by omega))
      have K6 := K5.trans (k6.mono (fun i _ h => hne i h))
      have hRs := Lib.hid (HRest.out q2 hb2.2)
      have hem := rest_empty s q2 hb2.2
      have hle : s.data.toList.length = s.size := rfl
      have hrr := HRR1.out
      rw [hle] at hrr
      clear HRR1 J5 HJ k5 k4 k3 hle
      generalize s.extract q2 s.size = x at *
      by_cases hlt : q2 < s.size
      · rw [if_pos hlt] at hrr
        have hem2 : x.toList.isEmpty = false := by rw [hem]; simp; omega
        have HR := Lib.hid hrr
        clear hrr hem
        go_wp2_with fail
        have hc := hRs.out W6 R6
        refine Calls.mono hc ?_
        rintro e W7 ⟨rfl, b7⟩
        have K7 := K6.trans (Kx.of_below b7)
        have R7 := R6.below b7
        have f0'' := (b7.block _ (Array.getElem?_eq_some_iff.1 f0').1).trans f0'
        have f1'' := (b7.block _ (Array.getElem?_eq_some_iff.1 f1').1).trans f1'
        have f2'' := (b7.block _ (Array.getElem?_eq_some_iff.1 f2').1).trans f2'
        go_wp2_with fail
        refine (need_bad s _ _ _ R7).mono ?_
        rintro e W8 ⟨rfl, rfl⟩
        go_wp2_with fail
        refine leaves_cons (f := 57) (args := #[.pointer (some ⟨w.heap.size, 0, none⟩), .pointer (some ⟨w.heap.size + 1, 0, none⟩), .pointer (some ⟨w.heap.size + 2, 0, none⟩)]) (by simp) (by simp [go_sem]) ?_
        refine (catch_panic w.heap.size q2 40 _ _ _ _ _ _ f0'' f1'' f2'').mono ?_
        rintro e u' W9 ⟨rfl, rfl, f0, f1, f2, k9⟩
        obtain ⟨g0, g1, g2, g3, g4, g5, g6⟩ := (show ResAt w.heap.size q2 40 W9 from ⟨f0, f1, f2⟩).cells
        simp [Leaves, settle, results, Tryd.results27, go_sem, g0, g1, g2, g3, g4, g5, g6]
        refine ⟨?_, (K7.trans k9).below w.heap.size (Nat.le_refl _) (fun k hk => hk)⟩
        rw [← HR.out]
        rfl
      · rw [if_neg hlt] at hrr
        have hem2 : x.toList.isEmpty = true := by rw [hem]; simp; omega
        have HR := Lib.hid hrr
        clear hrr hem
        go_wp2_with fail
        have hc := hRs.out W6 R6
        refine Calls.mono hc ?_
        rintro e W7 ⟨rfl, b7⟩
        have K7 := K6.trans (Kx.of_below b7)
        have f0'' := (b7.block _ (Array.getElem?_eq_some_iff.1 f0').1).trans f0'
        have f1'' := (b7.block _ (Array.getElem?_eq_some_iff.1 f1').1).trans f1'
        have f2'' := (b7.block _ (Array.getElem?_eq_some_iff.1 f2').1).trans f2'
        have J7 := Lib.hid (J6.out.keep b7.size (fun i hi _ => b7.block i hi))
        go_wp2_with fail
        refine (need_ok _ _).mono ?_
        rintro e W8 ⟨rfl, rfl⟩
        obtain ⟨g0, g1, g2, g3, g4, g5, g6⟩ : W8.cell? ⟨w.heap.size, 0, none⟩ = some (.int .i64 k) ∧ W8.cell? ⟨w.heap.size, 1, none⟩ = some (.string t) ∧ W8.cell? ⟨w.heap.size, 2, none⟩ = some (.slice a1 n1 c1) ∧ W8.cell? ⟨w.heap.size, 3, none⟩ = some (.slice a2 n2 c2) ∧ W8.cell? ⟨w.heap.size, 4, none⟩ = some (.int .i64 p') ∧ W8.cell? ⟨w.heap.size + 1, 0, none⟩ = some (.int .i64 0) ∧ W8.cell? ⟨w.heap.size + 2, 0, none⟩ = some (.int .i64 0) :=
          ⟨by rw [Lib.cell_of_heap f0'']; rfl, by rw [Lib.cell_of_heap f0'']; rfl, by rw [Lib.cell_of_heap f0'']; rfl, by rw [Lib.cell_of_heap f0'']; rfl, by rw [Lib.cell_of_heap f0'']; rfl, by rw [Lib.cell_of_heap f1'']; rfl, by rw [Lib.cell_of_heap f2'']; rfl⟩
        have z0 := Lib.frozen_of_heap f0'' 0
        have z1 := Lib.frozen_of_heap f0'' 1
        have z2 := Lib.frozen_of_heap f0'' 2
        have z3 := Lib.frozen_of_heap f0'' 3
        have z4 := Lib.frozen_of_heap f0'' 4
        have z5 := Lib.frozen_of_heap f1'' 0
        have z6 := Lib.frozen_of_heap f2'' 0
        go_wp2_with fail
        refine leaves_cons (f := 57) (args := #[.pointer (some ⟨w.heap.size, 0, none⟩), .pointer (some ⟨w.heap.size + 1, 0, none⟩), .pointer (some ⟨w.heap.size + 2, 0, none⟩)]) (by simp) (by simp [go_sem]) ?_
        refine (catch_idle w.heap.size _).mono ?_
        rintro e u' W9 ⟨rfl, rfl, rfl⟩
        have kf := Kx.setCell (X := fun i => i = w.heap.size ∨ i = w.heap.size + 1 ∨ i = w.heap.size + 2) (Kx.setCell (X := fun i => i = w.heap.size ∨ i = w.heap.size + 1 ∨ i = w.heap.size + 2) (set5_kx (X := fun i => i = w.heap.size ∨ i = w.heap.size + 1 ∨ i = w.heap.size + 2) (Kx.refl _ W8) w.heap.size 0 (.int .i64 k) (.string t) (.slice a1 n1 c1) (.slice a2 n2 c2) (.int .i64 p') (.inl rfl)) ⟨w.heap.size + 1, 0, none⟩ (fun _ => .inr (.inl rfl)) (.int .i64 0)) ⟨w.heap.size + 2, 0, none⟩ (fun _ => .inr (.inr rfl)) (.int .i64 0)
        have JF := Lib.hid (J7.out.kx kf (fun i h e => by omega))
        have KF := (K7.trans (kf.mono (fun i _ h => by omega))).below w.heap.size (Nat.le_refl _) (fun k hk => hk)
        have HKF := Lib.hid KF
        clear KF kf
        simp [Leaves, settle, results, Tryd.results27, go_sem, g0, g1, g2, g3, g4, g5, g6]
        refine ⟨?_, HKF.out⟩
        rw [← HR.out]
        exact ⟨_, rfl, JF.out.mono (fun i _ h => by omega)⟩
end Go.Proofs.YtghiboknhjnlkaaDoor
