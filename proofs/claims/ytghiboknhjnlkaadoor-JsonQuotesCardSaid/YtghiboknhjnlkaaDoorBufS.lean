/- Bytes appended to a buffer within a statement that draws its order. -/
import Derived.Test.YtghiboknhjnlkaaDoorBufL
import Derived.Deep.RegionLaw
set_option linter.unusedVariables false
set_option linter.unusedSimpArgs false
set_option linter.unnecessarySimpa false
namespace Go.Proofs.YtghiboknhjnlkaaDoor
open Go.RowKit

theorem step_bytes {ops : Array Oper} {o : Oper} {a : Act} {K : Act → World → Prop} {Q : Exit → Act → World → Prop} {E : Prop} (hgd : o.guard = none) (s x : Operand)
    (ho : o.op = .call { callee := .builtin .append, args := #[s, x], argTypes := #[28, 28] })
    {N : Nat} {v : Value} {l : List UInt8} (hs : a.eval s = v) {W0 w0 : World} (cs : List UInt8) (cells : Array Value) (fz : Nat × Nat) (hcells : cells = (Lib.byteCells cs).toArray) (hb : Buf N v l W0 w0)
    (n : Nat) (hn : n = cs.length) (W1 : World) (hW : W1 = w0.alloc (.cells cells 5 fz)) (H : Nat) (hH : H = w0.heap.size) (hx : a.eval x = .slice (some ⟨H, 0, none⟩) n n) (hlen : l.length + cs.length ≤ 140737488355328)
    (h : ∀ v' w', Buf N v' (l ++ cs) W0 w' → K (a.put o.dst v') w') :
    if Region.wanted o (yielded ops a.tmps) = true then Oper.wp Tryd.prog o a W1 K Q else E := by
  have hw : Region.wanted o (yielded ops a.tmps) = true := by simp [Region.wanted, hgd]
  rw [if_pos hw]
  obtain ⟨i0, hi, hz0, hz1, hz2⟩ := info_parts infoByte
  subst hcells
  subst hn
  subst hW
  subst hH
  have hb' := hb.alloc (.cells (Lib.byteCells cs).toArray 5 fz)
  have hn1 : ∀ (j : Nat) (u : Value), (Lib.byteCells cs)[j]? = some u → (w0.alloc (.cells (Lib.byteCells cs).toArray 5 fz)).cell? ((⟨w0.heap.size, 0, none⟩ : Addr).add j) = some u := by
    intro j u hj
    rw [show ((⟨w0.heap.size, 0, none⟩ : Addr).add j) = ⟨w0.heap.size, j, none⟩ from (by simp [Addr.add]; omega), Lib.cell_of_heap (heap_alloc_new w0 _)]
    simpa using hj
  have hn2 : ∀ u ∈ Lib.byteCells cs, u.oneCell' = true := by
    intro u hu
    obtain ⟨j, hj⟩ := List.getElem?_of_mem hu
    simp only [Lib.byteCells, List.getElem?_map] at hj
    obtain ⟨c, _, rfl⟩ := Option.map_eq_some_iff.1 hj
    rfl
  obtain ⟨v', w', hr, ho', hg, _⟩ := run_append_ownF (P := Tryd.prog) (w0.alloc (.cells (Lib.byteCells cs).toArray 5 fz)) N 28 o.type 5 i0 (.int .u8 0) 1 1 Tryd.underlying28 hi hz0 hz1 hz2 rfl (by decide) v l.length (Lib.byteCells l) hb'.1 ⟨w0.heap.size, 0, none⟩ cs.length cs.length (Lib.byteCells cs) (by simp [Lib.byteCells_length]) hn1 hn2 (by unfold maxLen; omega) (by omega) hb'.2.2
  unfold Oper.wp execOp
  simp only [ho, resolve, invoke, builtin, Sem.run_bind, Sem.run_pure, Result.andThen_ok, List.map_toArray, List.map_cons, List.map_nil, hs, hx, hr]
  refine h v' w' ?_
  show Lib.OwnBuf N 5 v' (l ++ cs).length (Lib.byteCells (l ++ cs)) W0 w'
  rw [List.length_append, Lib.byteCells_append]
  exact Lib.OwnBuf.grown hb' ho' hg
end Go.Proofs.YtghiboknhjnlkaaDoor
