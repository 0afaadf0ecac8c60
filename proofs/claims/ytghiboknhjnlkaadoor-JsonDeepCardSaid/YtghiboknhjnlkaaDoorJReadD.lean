/- json.Read's deferred closure: what it does to a panic, and to a return. -/
import Derived.Test.YtghiboknhjnlkaaDoorJVal
import Derived.Defers
import Derived.Recover
import Derived.Tactics2
set_option linter.unusedVariables false
set_option linter.unusedSimpArgs false
set_option linter.unnecessarySimpa false
namespace Go.Proofs.YtghiboknhjnlkaaDoor
open Go.RowKit

set_option maxHeartbeats 1000000 in
set_option maxRecDepth 100000 in
theorem catch_idle (N : Nat) (w : World) :
    CallsD Tryd.prog 57 #[.pointer (some ⟨N, 0, none⟩), .pointer (some ⟨N + 1, 0, none⟩), .pointer (some ⟨N + 2, 0, none⟩)] .returning w fun e u' w' => e = .returned (.tuple #[]) ∧ u' = .returning ∧ w' = w := by
  refine callsD_of_wpS Tryd.func57 rfl fun c₀ cs hu => ?_
  apply wpS_seq
  apply wpS_region
  simp [wpOpsS, go_sem, recoverD, hu, Tryd.ntmps57, Exit.thenS]
  apply wpS_seq
  apply wpS_region
  simp [wpOpsS, go_sem, Exit.thenS]
  refine wpS_cond (t := false) (by simp [Act.eval, Array.replicate]) ?_
  simp only [Bool.false_eq_true, if_false]
  refine wpS_of_wp (wp_skip ?_)
  cases c₀
  simp_all [bodyPostS, results, Tryd.results57]

set_option maxHeartbeats 1000000 in
set_option maxRecDepth 100000 in
theorem catch_panic (N : Nat) (p er : Int) (w : World) (c0 c1 c2 c3 c4 : Value)
    (h0 : w.heap[N]? = some (.cells #[c0, c1, c2, c3, c4] 34 (0, 0))) (h1 : w.heap[N + 1]? = some (.cells #[.int .i64 0] 3 (0, 0))) (h2 : w.heap[N + 2]? = some (.cells #[.int .i64 0] 35 (0, 0))) :
    CallsD Tryd.prog 57 #[.pointer (some ⟨N, 0, none⟩), .pointer (some ⟨N + 1, 0, none⟩), .pointer (some ⟨N + 2, 0, none⟩)] (.panicking [{ v := .iface 71 (.agg #[.int .i64 p, .int .i64 er]), recovered := false }]) w fun e u' w' =>
      e = .returned (.tuple #[]) ∧ u' = .panicking [{ v := .iface 71 (.agg #[.int .i64 p, .int .i64 er]), recovered := true }] ∧
        w'.heap[N]? = some (.cells #[.int .i64 0, .string ⟨#[]⟩, .slice none 0 0, .slice none 0 0, .int .i64 0] 34 (0, 0)) ∧ w'.heap[N + 1]? = some (.cells #[.int .i64 p] 3 (0, 0)) ∧ w'.heap[N + 2]? = some (.cells #[.int .i64 er] 35 (0, 0)) ∧ Kx (fun k => N ≤ k) w w' := by
  refine callsD_of_wpS Tryd.func57 rfl fun c₀ cs hu => ?_
  apply wpS_seq
  apply wpS_region
  simp [wpOpsS, go_sem, recoverD, hu, Tryd.ntmps57, Exit.thenS]
  apply wpS_seq
  apply wpS_region
  simp [wpOpsS, go_sem, Exit.thenS]
  refine wpS_cond (t := true) (by simp [Act.eval, Array.replicate]) ?_
  simp only [if_true]
  have hta : ∀ w : World, Sem.run Tryd.prog (Instr.typeAssert (.iface 71 (.agg #[.int .i64 p, .int .i64 er])) 20 71 false) w = .ok (.agg #[.int .i64 p, .int .i64 er]) w := fun w => by kernel_rfl
  refine wpS_of_wp ?_
  generalize hI : Value.iface 71 (.agg #[.int .i64 p, .int .i64 er]) = I at *
  change Code.wp _ _ _ { tmps := #[.pointer (some ⟨N, 0, none⟩), .pointer (some ⟨N + 1, 0, none⟩), .pointer (some ⟨N + 2, 0, none⟩), I, undef, I, I, .bool true, undef, undef, undef, undef, undef, undef, undef], defers := [] } w
  go_wp2_with fail
  have b0 := (Array.getElem?_eq_some_iff.1 h0).1
  have b1 := (Array.getElem?_eq_some_iff.1 h1).1
  have b2 := (Array.getElem?_eq_some_iff.1 h2).1
  have e0 := (Lib.alloc_old w (.cells #[.int .i64 p, .int .i64 er] 71) N b0).trans h0
  have e1 := (Lib.alloc_old w (.cells #[.int .i64 p, .int .i64 er] 71) (N + 1) b1).trans h1
  have e2 := (Lib.alloc_old w (.cells #[.int .i64 p, .int .i64 er] 71) (N + 2) b2).trans h2
  have e3 := heap_alloc_new w (.cells #[.int .i64 p, .int .i64 er] 71)
  have K1 : Kx (fun k => N ≤ k) w (w.alloc (.cells #[.int .i64 p, .int .i64 er] 71)) := (Kx.refl _ w).alloc _
  generalize w.alloc _ = W1 at *
  have hB0 : ¬ w.heap.size = N := by omega
  have hB1 : ¬ w.heap.size = N + 1 := by omega
  have hB2 : ¬ w.heap.size = N + 2 := by omega
  have hB3 : N ≤ w.heap.size := by omega
  generalize w.heap.size = B at *
  have g0 : W1.cell? ⟨N, 0, none⟩ = some c0 := by rw [Lib.cell_of_heap e0]; rfl
  have g1 : W1.cell? ⟨N, 1, none⟩ = some c1 := by rw [Lib.cell_of_heap e0]; rfl
  have g2 : W1.cell? ⟨N, 2, none⟩ = some c2 := by rw [Lib.cell_of_heap e0]; rfl
  have g3 : W1.cell? ⟨N, 3, none⟩ = some c3 := by rw [Lib.cell_of_heap e0]; rfl
  have g4 : W1.cell? ⟨N, 4, none⟩ = some c4 := by rw [Lib.cell_of_heap e0]; rfl
  have g5 : W1.cell? ⟨N + 1, 0, none⟩ = some (.int .i64 0) := by rw [Lib.cell_of_heap e1]; rfl
  have g6 : W1.cell? ⟨N + 2, 0, none⟩ = some (.int .i64 0) := by rw [Lib.cell_of_heap e2]; rfl
  have z0 := Lib.frozen_of_heap e0 0
  have z1 := Lib.frozen_of_heap e0 1
  have z2 := Lib.frozen_of_heap e0 2
  have z3 := Lib.frozen_of_heap e0 3
  have z4 := Lib.frozen_of_heap e0 4
  have z5 := Lib.frozen_of_heap e1 0
  have z6 := Lib.frozen_of_heap e2 0
  have m0 : W1.cell? ⟨B, 0, none⟩ = some (.int .i64 p) := by rw [Lib.cell_of_heap e3]; rfl
  have m1 : W1.cell? ⟨B, 1, none⟩ = some (.int .i64 er) := by rw [Lib.cell_of_heap e3]; rfl
  go_region
  subst hI
  refine ⟨rfl, _, rfl, .tuple #[], by simp [results, Tryd.results57], rfl, rfl, ?_, ?_, ?_, ?_⟩
  · simp [World.setCell, World.drew, Array.getElem?_modify, e0, e1, e2]
  · simp [World.setCell, World.drew, Array.getElem?_modify, e0, e1, e2]
  · simp [World.setCell, World.drew, Array.getElem?_modify, e0, e1, e2]
  · exact (((((((K1.setCell ⟨N, 0, none⟩ (fun _ => Nat.le_refl _) _).setCell ⟨N, 1, none⟩ (fun _ => Nat.le_refl _) _).setCell ⟨N, 2, none⟩ (fun _ => Nat.le_refl _) _).setCell ⟨N, 3, none⟩ (fun _ => Nat.le_refl _) _).setCell ⟨N, 4, none⟩ (fun _ => Nat.le_refl _) _).setCell ⟨N + 1, 0, none⟩ (fun _ => by simp) _).setCell ⟨N + 2, 0, none⟩ (fun _ => by simp) _).drew
end Go.Proofs.YtghiboknhjnlkaaDoor
