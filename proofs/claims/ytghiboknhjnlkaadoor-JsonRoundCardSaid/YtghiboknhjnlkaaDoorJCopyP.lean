/- stetlaw17.copied: what holds between two kids; an append of a row that came in onto a row of the call's own. -/
import Derived.Test.YtghiboknhjnlkaaDoorJAlive
import Derived.Deep.AppendLies
set_option linter.unusedVariables false
set_option linter.unusedSimpArgs false
set_option linter.unnecessarySimpa false
namespace Go.Proofs.YtghiboknhjnlkaaDoor
open Go.RowKit

/-- an append of nothing -/
theorem run_append_zero {P : Program} (w : World) (t ty e : TypeId) (i : TypeInfo) (ht : P.underlying t = some (.slice e)) (hi : P.info? e = some i) (g n cap : Nat) (hn : n ≤ cap) (A : Option Addr) (c : Nat) :
    (Builtin.append_ #[t, t] ty #[.slice (some ⟨g, 0, none⟩) n cap, .slice A 0 c]).run P w = .ok (.slice (some ⟨g, 0, none⟩) n cap) w := by
  cases A with
  | none => simp [Builtin.append_, run_underlying ht, sizeOf, typeInfo, hi, Builtin.lenOf, Builtin.firstCells, hn, storeCells]
  | some a => simp [Builtin.append_, run_underlying ht, sizeOf, typeInfo, hi, Builtin.lenOf, Builtin.firstCells, hn, storeCells, loadCells, loadCellsFrom]

/-- an append of a row that lies somewhere onto an empty row of the call's own -/
theorem wpList_append_row {P : Program} {w : World} {ops : Array Oper} {rest : List Oper} {o : Oper} {a : Act} {Q : Exit → Act → World → Prop} (hgd : o.guard = none) (s x : Operand) (t : TypeId)
    (ho : o.op = .call { callee := .builtin .append, args := #[s, x], argTypes := #[t, t] })
    (base : Nat) (e : TypeId) (i : TypeInfo) (z : Value) (bytes : Nat) (ht : P.underlying t = some (.slice e)) (hi : P.info? e = some i) (hz : i.zero = some z)
    (hsize : i.size = 1) (hby : i.bytes = bytes) (hzs : z.cells.size = 1)
    (g0 cap0 : Nat) (hs : a.eval s = .slice (some ⟨g0, 0, none⟩) 0 cap0) (hown : w.ownsRow base e 1 (.slice (some ⟨g0, 0, none⟩) 0 cap0) 0 [])
    (S : Nat → Prop) (vx : Value) (m : Nat) (news : List Value) (hx : a.eval x = vx) (hr : RowAt S w vx m news) (hm : news.length = m) (h1 : ∀ u ∈ news, u.oneCell' = true)
    (h63 : m ≤ maxLen) (hbytes : m * bytes ≤ 140737488355328) (hbase : base ≤ w.heap.size)
    (h : ∀ g cap w', w'.ownsRow base e 1 (.slice (some ⟨g, 0, none⟩) m cap) m news → w.grownBy w' (some g0) → wpList P ops Q rest (a.put o.dst (.slice (some ⟨g, 0, none⟩) m cap)) w') : wpList P ops Q (o :: rest) a w := by
  have zero : ∀ A c, a.eval x = .slice A 0 c → m = 0 → news = [] → wpList P ops Q (o :: rest) a w := by
    intro A c hx h0 hn
    subst h0 hn
    refine wpList_plain hgd fun K hK => ?_
    have hrun := run_append_zero (P := P) w t o.type e i ht hi g0 0 cap0 (Nat.zero_le _) A c
    unfold Oper.wp
    simp [execOp, ho, resolve, invoke, builtin, hs, hx, hrun, Result.andThen]
    exact hK _ _ (h g0 cap0 w hown (World.grownBy.refl w _))
  rcases hr with ⟨h0, hn, A, c, rfl⟩ | ⟨g, off, c, rfl, _, hg, hc⟩
  · exact zero A c hx h0 hn
  · by_cases h0 : m = 0
    · subst h0
      exact zero _ c hx rfl (List.eq_nil_of_length_eq_zero hm)
    · refine wpList_append_lies w hgd s x t ho base e i z 1 bytes ht hi hz hsize hby hzs (by decide) _ 0 [] hs hown ⟨g, off, none⟩ m c news hx (by omega) (fun j u hu => ?_) h1 (by omega) (by omega) (by simpa using hbytes) hbase _ rfl ?_
      · rw [show (⟨g, off, none⟩ : Addr).add j = ⟨g, off + j, none⟩ by unfold Addr.add; split <;> simp_all]
        exact hc j u hu
      · intro g' cap w' h1 h2 _ _
        simp only [Nat.zero_add, List.nil_append] at h1 h
        simp only [Nat.zero_add]
        exact h g' cap w' h1 h2

abbrev zeroV : List Value := [.int .i64 0, .string ⟨#[]⟩, .slice none 0 0, .slice none 0 0, .int .i64 0]

/-- what holds between two kids: the names' row, the kids' row so far -/
structure CopyI (H : Nat) (ns : List (List UInt8)) (ks : List JV) (f : Nat) (w : World) (bx : List Value) (vn v6 : Value) (i : Nat) (kcs : List (List Value)) (wr : World) : Prop where
  bx : Box5 H bx wr
  res : Box5 (H + 1) zeroV wr
  names : wr.ownsRow (H + 2) 9 1 vn ns.length (ns.map strV)
  len : kcs.length = i
  kids : wr.ownsRow (H + 2) 34 5 v6 i kcs.flatten
  each : ∀ j (h : j < kcs.length) (h2 : j < ks.length), JRep (fun k => H + 2 ≤ k ∧ v6.ownBlock ≠ some k ∧ vn.ownBlock ≠ some k) wr f kcs[j] ks[j]
  below : Below H w wr
  size : H + 2 ≤ wr.heap.size

theorem Box5.grown {H : Nat} {cs : List Value} {w w' : World} {row : Option Nat} (h : Box5 H cs w) (k : w.grownBy w' row) (hr : row ≠ some H) : Box5 H cs w' :=
  (k.block H (Array.getElem?_eq_some_iff.1 h).1 (fun e => hr e.symm)).trans h

theorem copy_next {H : Nat} {ns : List (List UInt8)} {ks : List JV} {f : Nat} {w : World} {bx : List Value} {vn v6 : Value} {i : Nat} {kcs : List (List Value)} {wr W1 w3 : World} {o : Obj} {cs : List Value} {g cap : Nat}
    (hI : CopyI H ns ks f w bx vn v6 i kcs wr) (hi : i < ks.length) (hK : JRep (fun k => wr.heap.size ≤ k) W1 f cs ks[i]) (b1 : Below wr.heap.size wr W1)
    (hown : w3.ownsRow (H + 2) 34 5 (.slice (some ⟨g, 0, none⟩) (i + 1) cap) (i + 1) (kcs.flatten ++ cs)) (hgrow : World.grownBy (W1.alloc o) w3 v6.ownBlock) (hat : v6.ownBlock = some g ∨ g = W1.heap.size + 1) :
    CopyI H ns ks f w bx vn (.slice (some ⟨g, 0, none⟩) (i + 1) cap) (i + 1) (kcs ++ [cs]) w3 := by
  have hs1 := b1.size
  have hsz := hI.size
  have hs3' := hgrow.size
  rw [World.size_alloc] at hs3'
  have hs3 : wr.heap.size ≤ w3.heap.size := by omega
  have hs4 := hI.below.size
  have hlt : ∀ k, v6.ownBlock = some k → H + 2 ≤ k ∧ k < wr.heap.size := fun k hk => hI.kids.lt k hk
  have hltn : ∀ k, vn.ownBlock = some k → H + 2 ≤ k ∧ k < wr.heap.size := fun k hk => hI.names.lt k hk
  have hkeep : ∀ k, k < wr.heap.size → v6.ownBlock ≠ some k → w3.heap[k]? = wr.heap[k]? := fun k hk hne => by
    rw [hgrow.block k (by simp; omega) (fun e => hne e.symm), Lib.alloc_old W1 o k (by omega), b1.block k hk]
  have hnk : ∀ k, vn.ownBlock = some k → v6.ownBlock ≠ some k := fun k h1 h2 => ownBlock_ne hI.names hI.kids (by decide) k h1 h2
  refine ⟨?_, ?_, ?_, by simp [hI.len], ?_, ?_, ?_, ?_⟩
  · exact (hkeep H (by omega) (fun e => by have := hlt H e; omega)).trans hI.bx
  · exact (hkeep (H + 1) (by omega) (fun e => by have := hlt _ e; omega)).trans hI.res
  · refine ⟨hI.names.1, ?_⟩
    rcases hI.names.2 with h | ⟨g', c', cur, rfl, h0, h1, hrest⟩
    · exact .inl h
    · exact .inr ⟨g', c', cur, rfl, h0, (hkeep g' (Array.getElem?_eq_some_iff.1 h1).1 (hnk g' rfl)).trans h1, hrest⟩
  · simpa using hown
  · intro j hj hj2
    have hg : ∀ k, k < wr.heap.size → v6.ownBlock ≠ some k → g ≠ k := by
      intro k hk hne e
      subst e
      rcases hat with h | h
      · exact hne h
      · omega
    by_cases hji : j < kcs.length
    · rw [List.getElem_append_left hji]
      have h1 := hI.each j hji hj2
      have h2 := h1.mono (T := fun k => (H + 2 ≤ k ∧ g ≠ k ∧ vn.ownBlock ≠ some k) ∧ v6.ownBlock ≠ some k) (fun k hk h => ⟨⟨h.1, hg k hk h.2.1, h.2.2⟩, h.2.1⟩)
      have h3 := h2.keep (w' := w3) hs3 (fun k hk h => hkeep k hk h.2)
      exact h3.mono (fun k _ h => ⟨h.1.1, by simpa [Value.ownBlock] using h.1.2.1, h.1.2.2⟩)
    · have hjl : j = kcs.length := by simp at hj; omega
      have hji2 : i = j := by rw [hjl, hI.len]
      subst hji2
      have hgl : kcs.length = i := hjl.symm
      rw [List.getElem_append_right (by omega)]
      simp only [hgl, Nat.sub_self, List.getElem_cons_zero]
      have h2 := hK.mono (T := fun k => (wr.heap.size ≤ k ∧ k < W1.heap.size)) (fun k hk h => ⟨h, hk⟩)
      have h3 := h2.keep (w' := w3) (by omega) (fun k hk h => by
        rw [hgrow.block k (by simp; omega) (fun e => by have := hlt k e.symm; omega), Lib.alloc_old W1 o k hk])
      refine h3.mono (fun k _ h => ⟨by omega, ?_, fun e => by have := hltn k e; omega⟩)
      · intro e
        have e2 : g = k := by simpa [Value.ownBlock] using e
        rcases hat with h3 | h3
        · have := hlt g h3; omega
        · omega
  · refine ⟨?_, ?_, ?_, ?_, ?_⟩
    · exact hgrow.os.trans (b1.os.trans hI.below.os)
    · exact hgrow.tape.trans (b1.tape.trans hI.below.tape)
    · exact hgrow.output.trans (b1.output.trans hI.below.output)
    · omega
    · intro k hk
      rw [hkeep k (by omega) (fun e => by have := hlt k e; omega)]
      exact hI.below.block k hk
  · omega
end Go.Proofs.YtghiboknhjnlkaaDoor
