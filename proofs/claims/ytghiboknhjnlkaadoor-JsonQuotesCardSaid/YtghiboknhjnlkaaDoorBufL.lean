/- A buffer of bytes that the call owns, as a list of bytes: the kit's Lib.OwnBuf, said of bytes. -/
import Derived.Test.YtghiboknhjnlkaaDoorRefChar
import Derived.Lib.BufSteps
set_option linter.unusedVariables false
set_option linter.unusedSimpArgs false
set_option linter.unnecessarySimpa false
namespace Go.Proofs.YtghiboknhjnlkaaDoor
open Go.RowKit

def Buf (N : Nat) (v : Value) (l : List UInt8) (W0 w : World) : Prop := Lib.OwnBuf N 5 v l.length (Lib.byteCells l) W0 w

theorem Buf.alloc {N : Nat} {v : Value} {l : List UInt8} {W0 w : World} (h : Buf N v l W0 w) (o : Obj) : Buf N v l W0 (w.alloc o) := Lib.OwnBuf.alloc h o

theorem Buf.frame {N : Nat} {v : Value} {l : List UInt8} {W0 w : World} (h : Buf N v l W0 w) : Below N W0 w := h.2.1
theorem Buf.low {N : Nat} {v : Value} {l : List UInt8} {W0 w : World} (h : Buf N v l W0 w) : N ≤ w.heap.size := h.2.2

theorem Buf.below {N : Nat} {v : Value} {l : List UInt8} {W0 w w' : World} (h : Buf N v l W0 w) (hb : Below w.heap.size w w') : Buf N v l W0 w' := by
  obtain ⟨⟨h1, h2⟩, h3, h4⟩ := h
  refine ⟨⟨h1, ?_⟩, h3.trans (hb.mono h4), Nat.le_trans h4 hb.size⟩
  rcases h2 with ⟨rfl, e⟩ | ⟨g, cap, cur, fz, rfl, hB, hg, rest⟩
  · exact .inl ⟨rfl, e⟩
  · exact .inr ⟨g, cap, cur, fz, rfl, hB, by rw [hb.block g (Array.getElem?_eq_some_iff.1 hg).1]; exact hg, rest⟩

theorem Buf.drew {N : Nat} {v : Value} {l : List UInt8} {W0 w : World} (h : Buf N v l W0 w) : Buf N v l W0 w.drew := Lib.OwnBuf.drewN h 1

/-- []byte with these bytes, newly laid -/
theorem Buf.new {N : Nat} {l : List UInt8} {W0 w : World} (hb : Below N W0 w) (hN : N ≤ w.heap.size) (hl : l.length ≤ maxLen) :
    Buf N (.slice (some ⟨w.heap.size, 0, none⟩) l.length l.length) l W0 (w.alloc (.cells (Lib.byteCells l).toArray 5)) :=
  ⟨owns_new w 5 N hN l hl, hb.alloc hN _, by simp; omega⟩

theorem Buf.nil {N : Nat} {W0 w : World} (hb : Below N W0 w) (hN : N ≤ w.heap.size) :
    Buf N (.slice (some ⟨w.heap.size, 0, none⟩) 0 0) [] W0 (w.alloc (.cells #[] 5)) := Buf.new (l := []) hb hN (Nat.zero_le _)

theorem Buf.str {N : Nat} {v : Value} {l : List UInt8} {W0 w : World} (h : Buf N v l W0 w) : (convert 28 9 v).run Tryd.prog w = .ok (.string ⟨l.toArray⟩) w :=
  run_own_string w Tryd.underlying28 Tryd.underlying5 Tryd.underlying9 h.1

theorem wp_byte {ops : Array Oper} {rest : List Oper} {o : Oper} {a : Act} {Q : Exit → Act → World → Prop} (hgd : o.guard = none) (s x : Operand)
    (ho : o.op = .call { callee := .builtin .append, args := #[s, x], argTypes := #[28, 28] })
    {N : Nat} {v : Value} {l : List UInt8} (hs : a.eval s = v) {W0 w0 : World} (c : UInt8) (ci : Int) (hci : ci = c.toNat) (hb : Buf N v l W0 w0)
    (hx : a.eval x = .slice (some ⟨w0.heap.size, 0, none⟩) 1 1) (hlen : l.length + 1 ≤ 140737488355328)
    (h : ∀ v' w', Buf N v' (l ++ [c]) W0 w' → wpList Tryd.prog ops Q rest (a.put o.dst v') w') : wpList Tryd.prog ops Q (o :: rest) a (w0.alloc (.cells #[.int .u8 ci] 5)) := by
  obtain ⟨i0, hi, hz0, hz1, hz2⟩ := info_parts infoByte
  subst hci
  refine Lib.wpList_append_byte hgd s x 28 ho N 5 i0 Tryd.underlying28 hi hz0 hz1 hz2 v l.length (Lib.byteCells l) hs W0 w0 c.toNat hb hx hlen ?_
  intro v' w' h'
  refine h v' w' ?_
  show Lib.OwnBuf N 5 v' (l ++ [c]).length (Lib.byteCells (l ++ [c])) W0 w'
  rw [List.length_append, Lib.byteCells_append]
  exact h'

theorem wp_bytes {ops : Array Oper} {rest : List Oper} {o : Oper} {a : Act} {Q : Exit → Act → World → Prop} (hgd : o.guard = none) (s x : Operand)
    (ho : o.op = .call { callee := .builtin .append, args := #[s, x], argTypes := #[28, 28] })
    {N : Nat} {v : Value} {l : List UInt8} (hs : a.eval s = v) {W0 w0 : World} (cs : List UInt8) (cells : Array Value) (fz : Nat × Nat) (hcells : cells = (Lib.byteCells cs).toArray) (hb : Buf N v l W0 w0)
    (n : Nat) (hn : n = cs.length) (hx : a.eval x = .slice (some ⟨w0.heap.size, 0, none⟩) n n) (hlen : l.length + cs.length ≤ 140737488355328)
    (h : ∀ v' w', Buf N v' (l ++ cs) W0 w' → wpList Tryd.prog ops Q rest (a.put o.dst v') w') : wpList Tryd.prog ops Q (o :: rest) a (w0.alloc (.cells cells 5 fz)) := by
  obtain ⟨i0, hi, hz0, hz1, hz2⟩ := info_parts infoByte
  subst hcells
  subst hn
  have hb' := hb.alloc (.cells (Lib.byteCells cs).toArray 5 fz)
  refine wpList_append_ownF _ hgd s x 28 ho N 5 i0 (.int .u8 0) 1 1 Tryd.underlying28 hi hz0 hz1 hz2 rfl (by decide) v l.length (Lib.byteCells l) hs hb'.1 ⟨w0.heap.size, 0, none⟩ cs.length cs.length (Lib.byteCells cs) hx (by simp [Lib.byteCells_length]) ?_ ?_ (by unfold maxLen; omega) (by omega) hb'.2.2 ?_
  · intro j u hj
    rw [show ((⟨w0.heap.size, 0, none⟩ : Addr).add j) = ⟨w0.heap.size, j, none⟩ from (by simp [Addr.add]; omega), Lib.cell_of_heap (heap_alloc_new w0 _)]
    simpa using hj
  · intro u hu
    obtain ⟨j, hj⟩ := List.getElem?_of_mem hu
    simp only [Lib.byteCells, List.getElem?_map] at hj
    obtain ⟨c, _, rfl⟩ := Option.map_eq_some_iff.1 hj
    rfl
  · intro v' w' ho' hg _
    refine h v' w' ?_
    show Lib.OwnBuf N 5 v' (l ++ cs).length (Lib.byteCells (l ++ cs)) W0 w'
    rw [List.length_append, Lib.byteCells_append]
    exact Lib.OwnBuf.grown hb' ho' hg

theorem wp_text {ops : Array Oper} {rest : List Oper} {o : Oper} {a : Act} {Q : Exit → Act → World → Prop} {w : World} (hgd : o.guard = none) (sl x : Operand)
    (ho : o.op = .call { callee := .builtin .append, args := #[sl, x], argTypes := #[28, 9] })
    {N : Nat} {v : Value} {l : List UInt8} (hs : a.eval sl = v) {W0 : World} (hb : Buf N v l W0 w) (s : ByteArray) (hx : a.eval x = .string s) (hlen : l.length + s.size ≤ 140737488355328)
    (h : ∀ v' w', Buf N v' (l ++ s.data.toList) W0 w' → wpList Tryd.prog ops Q rest (a.put o.dst v') w') : wpList Tryd.prog ops Q (o :: rest) a w := by
  obtain ⟨i0, hi, hz0, hz1, hz2⟩ := info_parts infoByte
  refine Lib.wpList_append_text hgd sl x 28 9 ho N 5 i0 Tryd.underlying28 Tryd.underlying9 hi hz0 hz1 hz2 v l.length (Lib.byteCells l) hs W0 hb s hx hlen ?_
  intro v' w' h'
  refine h v' w' ?_
  show Lib.OwnBuf N 5 v' (l ++ s.data.toList).length (Lib.byteCells (l ++ s.data.toList)) W0 w'
  rw [List.length_append, Lib.byteCells_append]
  exact h'
end Go.Proofs.YtghiboknhjnlkaaDoor
