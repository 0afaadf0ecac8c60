/- What a strings.Builder of the call's own is in memory, and what writing it leaves as it was. No program. -/
import Derived.WalkKit
import Derived.BigCall
import Derived.BigGuard
import Derived.Lib.Hide
import Derived.Lib.OthersKept
import Derived.Lib.FrozenHead2
import Derived.Lib.RuneBytes
import Derived.Lib.BufferRead
import Derived.Laws.IdiomStrings
set_option linter.unusedVariables false
set_option linter.unusedSimpArgs false
namespace Go.Proofs.YtghiboknhjnlkaaDoor
open Go.RowKit

/-- all blocks are as they were but b, and but rows of bytes from N on -/
structure KB (e : TypeId) (N : Nat) (b : Nat) (w w' : World) : Prop where
  os : w'.os = w.os
  tape : w'.tape = w.tape
  output : w'.output = w.output
  size : w.heap.size ≤ w'.heap.size
  block : ∀ k o, w.heap[k]? = some o → k ≠ b → (N ≤ k → ∀ c fz, o ≠ .cells c e fz) → w'.heap[k]? = some o

theorem KB.refl (e : TypeId) (N : Nat) (b : Nat) (w : World) : KB e N b w w := ⟨rfl, rfl, rfl, Nat.le_refl _, fun _ _ h _ _ => h⟩

theorem KB.trans {e : TypeId} {N : Nat} {b : Nat} {x y z : World} (h : KB e N b x y) (k : KB e N b y z) : KB e N b x z :=
  ⟨k.os.trans h.os, k.tape.trans h.tape, k.output.trans h.output, Nat.le_trans h.size k.size, fun i o hi hb hr => k.block i o (h.block i o hi hb hr) hb hr⟩

theorem KB.iter {e : TypeId} {N : Nat} {b : Nat} {w w' : World} (h : KB e N b w w') {k : Nat} {s : ByteArray} {pos : Nat} (hk : w.heap[k]? = some (.stringIter s pos)) (hkb : k ≠ b) : w'.heap[k]? = some (.stringIter s pos) :=
  h.block k _ hk hkb (fun _ _ _ e1 => by cases e1)

theorem KB.below {e : TypeId} {N : Nat} {b B : Nat} {w w' : World} (h : KB e N b w w') (hB : B ≤ w.heap.size) (hb : B ≤ b) (hR : B ≤ N) : Below B w w' :=
  ⟨h.os, h.tape, h.output, h.size, fun k hk => by
    have hlt : k < w.heap.size := by omega
    have h1 : w.heap[k]? = some w.heap[k] := Array.getElem?_eq_getElem hlt
    rw [h1]
    exact h.block k _ h1 (by omega) (fun hr => by omega)⟩

theorem KB.alloc {e : TypeId} {N : Nat} {b : Nat} {a w : World} (h : KB e N b a w) (o : Obj) : KB e N b a (w.alloc o) :=
  h.trans ⟨rfl, rfl, rfl, by simp, fun k x hk _ _ => (Lib.alloc_old w o k (Array.getElem?_eq_some_iff.1 hk).1).trans hk⟩

theorem KB.drew {e : TypeId} {N : Nat} {b : Nat} {a w : World} (h : KB e N b a w) : KB e N b a w.drew := ⟨h.os, h.tape, h.output, h.size, h.block⟩

theorem KB.setCell {e : TypeId} {N : Nat} {b : Nat} {a w : World} (h : KB e N b a w) (p : Addr) (hp : p.block = b) (v : Value) : KB e N b a (w.setCell p v) :=
  h.trans ⟨rfl, rfl, rfl, by simp [World.setCell], fun k x hk hb _ => by rw [Below.heap_setCell _ _ _ _ (fun e => hb (by rw [← hp, e]))]; exact hk⟩

/-- behind an append to such a row -/
theorem KB.grown {e : TypeId} {N : Nat} {b : Nat} {a w w' : World} {row : Option Nat} (h : KB e N b a w) (hg : w.grownBy w' row)
    (hrow : ∀ g, row = some g → (∃ c fz, w.heap[g]? = some (.cells c e fz)) ∧ N ≤ g) : KB e N b a w' :=
  h.trans ⟨hg.os, hg.tape, hg.output, hg.size, fun k x hk hb hx => by
    have hlt : k < w.heap.size := (Array.getElem?_eq_some_iff.1 hk).1
    rw [hg.block k hlt ?_]
    · exact hk
    · intro hk2
      obtain ⟨⟨c, fz, hc⟩, hr⟩ := hrow k hk2.symm
      rw [hk] at hc
      exact hx hr c fz (Option.some.inj hc)⟩

theorem KB.of_below {e : TypeId} {N : Nat} {b : Nat} {w w' : World} (h : Below w.heap.size w w') : KB e N b w w' :=
  ⟨h.os, h.tape, h.output, h.size, fun k o hk _ _ => by rw [h.block k (Array.getElem?_eq_some_iff.1 hk).1]; exact hk⟩

/-- a block that is there stays, if it is no row of bytes -/
theorem KB.other {e : TypeId} {N : Nat} {b : Nat} {w w' : World} (h : KB e N b w w') {k : Nat} {c : Array Value} {t : TypeId} {fz : Nat × Nat} (hk : w.heap[k]? = some (.cells c t fz)) (hkb : k ≠ b) (ht : t ≠ e) : w'.heap[k]? = some (.cells c t fz) :=
  h.block k _ hk hkb (fun _ c' fz' e1 => by injection e1 with _ e2 _; exact ht e2)

/-- a builder in block b that holds these bytes; its row of bytes lies from N on -/
def BldG (T e : TypeId) (N : Nat) (b : Nat) (bs : List Value) (w : World) : Prop :=
  ∃ p v, (p = .pointer none ∨ p = .pointer (some ⟨b, 0, none⟩)) ∧ w.heap[b]? = some (.cells #[p, v] T (0, 0)) ∧ w.ownsRowF N e 1 v bs.length bs ∧ v.ownBlock ≠ some b

theorem BldG.lt {T e : TypeId} {N : Nat} {b : Nat} {bs : List Value} {w : World} (h : BldG T e N b bs w) : b < w.heap.size := by
  obtain ⟨p, v, _, hb, _⟩ := h
  exact (Array.getElem?_eq_some_iff.1 hb).1

theorem BldG.fresh (T e : TypeId) (N : Nat) (w : World) : BldG T e N w.heap.size [] (w.alloc (.cells #[.pointer none, .slice none 0 0] T)) :=
  ⟨_, _, .inl rfl, heap_alloc_new w _, World.ownsRowF_nil _ _ _ _, by simp [Value.ownBlock]⟩

/-- what keeps a builder: its block, and its row -/
theorem BldG.kept {T e : TypeId} {N : Nat} {b : Nat} {bs : List Value} {w w' : World} (h : BldG T e N b bs w) (hk : ∀ k, k < w.heap.size → (k = b ∨ N ≤ k) → w'.heap[k]? = w.heap[k]?) : BldG T e N b bs w' := by
  obtain ⟨p, v, hp, hb, hown, hne⟩ := h
  refine ⟨p, v, hp, ?_, ⟨hown.1, ?_⟩, hne⟩
  · rw [hk b (Array.getElem?_eq_some_iff.1 hb).1 (.inl rfl)]; exact hb
  · rcases hown.2 with hn | ⟨g, cap, cur, fz, rfl, h0, hg, rest⟩
    · exact .inl hn
    · refine .inr ⟨g, cap, cur, fz, rfl, h0, ?_, rest⟩
      rw [hk g (Array.getElem?_eq_some_iff.1 hg).1 (.inr h0)]
      exact hg

theorem BldG.below {T e : TypeId} {N : Nat} {b : Nat} {bs : List Value} {w w' : World} (h : BldG T e N b bs w) (hb : Below w.heap.size w w') : BldG T e N b bs w' :=
  h.kept fun k hk _ => hb.block k hk

theorem BldG.alloc {T e : TypeId} {N : Nat} {b : Nat} {bs : List Value} {w : World} (h : BldG T e N b bs w) (o : Obj) : BldG T e N b bs (w.alloc o) :=
  h.kept fun k hk _ => Lib.alloc_old w o k hk

theorem BldG.drew {T e : TypeId} {N : Nat} {b : Nat} {bs : List Value} {w : World} (h : BldG T e N b bs w) : BldG T e N b bs w.drew := h

theorem BldG.iterAt {T e : TypeId} {N : Nat} {b : Nat} {bs : List Value} {w : World} (h : BldG T e N b bs w) {k : Nat} {s : ByteArray} {pos : Nat} (hk : w.heap[k]? = some (.stringIter s pos)) (pos' : Nat) : BldG T e N b bs (w.iterAt k s pos') := by
  obtain ⟨p, v, hp, hb, hown, hne⟩ := h
  have hkb : b ≠ k := by intro e1; rw [e1, hk] at hb; cases hb
  refine ⟨p, v, hp, (Lib.iterAt_other w k b s pos' hkb).trans hb, ⟨hown.1, ?_⟩, hne⟩
  rcases hown.2 with hn | ⟨g, cap, cur, fz, rfl, h0, hg, rest⟩
  · exact .inl hn
  · have hkg : g ≠ k := by intro e1; rw [e1, hk] at hg; cases hg
    exact .inr ⟨g, cap, cur, fz, rfl, h0, (Lib.iterAt_other w k g s pos' hkg).trans hg, rest⟩

/-- a store into a block that is neither the builder's nor a row of bytes -/
theorem BldG.setCell {T e : TypeId} {N : Nat} {b : Nat} {bs : List Value} {w : World} (h : BldG T e N b bs w) (a : Addr) (u : Value) (hab : a.block ≠ b) (har : ∀ c fz, w.heap[a.block]? ≠ some (.cells c e fz)) : BldG T e N b bs (w.setCell a u) := by
  obtain ⟨p, v, hp, hb, hown, hne⟩ := h
  refine ⟨p, v, hp, ?_, ⟨hown.1, ?_⟩, hne⟩
  · rw [Below.heap_setCell _ _ _ _ (Ne.symm hab)]; exact hb
  · rcases hown.2 with hn | ⟨g, cap, cur, fz, rfl, h0, hg, rest⟩
    · exact .inl hn
    · refine .inr ⟨g, cap, cur, fz, rfl, h0, ?_, rest⟩
      rw [Below.heap_setCell _ _ _ _ (fun e1 => har _ _ (by rw [← e1]; exact hg))]
      exact hg

/-- in the shelf's own words, from a block on below which nothing of it lies -/
theorem BldG.isF {T e : TypeId} {N : Nat} {b : Nat} {bs : List Value} {w : World} (h : BldG T e N b bs w) (B : Nat) (hB : B ≤ b) (hR : B ≤ N) : Lib.IsBuilderF T e B b bs w := by
  obtain ⟨p, v, hp, hb, hown, hne⟩ := h
  have hown' : w.ownsRowF B e 1 v bs.length bs := by
    refine ⟨hown.1, ?_⟩
    rcases hown.2 with hn | ⟨g, cap, cur, fz, rfl, h0, rest⟩
    · exact .inl hn
    · exact .inr ⟨g, cap, cur, fz, rfl, Nat.le_trans hR h0, rest⟩
  rcases hp with rfl | rfl
  · exact .inl ⟨hB, v, hb, hown', hne⟩
  · exact .inr ⟨hB, v, hb, hown', hne⟩

theorem BldG.put {T e : TypeId} {N : Nat} {b : Nat} {v v' : Value} {bs' : List Value} {w : World} (hb : w.heap[b]? = some (.cells #[.pointer (some ⟨b, 0, none⟩), v] T (0, 0))) (hown : w.ownsRowF N e 1 v' bs'.length bs') (hTe : T ≠ e) :
    BldG T e N b bs' (w.setCell ⟨b, 1, none⟩ v') := by
  have hne := Lib.ownBlock_neF hown hb hTe
  refine ⟨_, v', .inr rfl, ?_, ?_, hne⟩
  · simp [World.setCell, Array.getElem?_modify, hb]
  · exact hown.kept (row := some b) ⟨rfl, rfl, rfl, by simp [World.setCell], fun k _ hk => Below.heap_setCell _ _ _ _ (fun e => hk (by simp [e]))⟩ (Or.inr hne)

/-- the text of bytes that the call owns -/
theorem run_own_string {P : Program} (w : World) {src dst e : TypeId} (hs : P.underlying src = some (.slice e)) (he : P.underlying e = some (.int .u8)) (hd : P.underlying dst = some .string) {base : Nat} {v : Value} {l : List UInt8} (h : w.ownsRowF base e 1 v l.length (Lib.byteCells l)) :
    (convert src dst v).run P w = .ok (.string ⟨l.toArray⟩) w := by
  rcases h.2 with ⟨rfl, h0⟩ | ⟨g, cap, cur, fz, rfl, _, hg, _, _, _, _, ht⟩
  · have hl := List.eq_nil_of_length_eq_zero h0
    subst hl
    exact Lib.run_convert_nil_bytes w src dst e 0 hs he hd
  · refine run_convert_bytes_back w src dst e ⟨g, 0, none⟩ cap l hs he hd ?_
    intro j hj
    exact h.cells (g := g) rfl j _ (by simp [Lib.byteCells, hj])

end Go.Proofs.YtghiboknhjnlkaaDoor
