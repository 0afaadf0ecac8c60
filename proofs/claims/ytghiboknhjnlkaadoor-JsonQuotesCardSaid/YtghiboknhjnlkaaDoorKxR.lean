/- What a call leaves as it was, but for some blocks; rows of cells. No program. How a JSON value lies in memory. No program. -/
import Derived.Test.YtghiboknhjnlkaaDoorBk
import Derived.Test.YtghiboknhjnlkaaDoorJsonP
set_option linter.unusedVariables false
set_option linter.unusedSimpArgs false
set_option linter.unnecessarySimpa false
namespace Go.Proofs.YtghiboknhjnlkaaDoor
open Go.RowKit

/-- all blocks that were there are as they were, but those of X -/
structure Kx (X : Nat → Prop) (w w' : World) : Prop where
  os : w'.os = w.os
  tape : w'.tape = w.tape
  output : w'.output = w.output
  size : w.heap.size ≤ w'.heap.size
  block : ∀ k, k < w.heap.size → ¬ X k → w'.heap[k]? = w.heap[k]?

theorem Kx.refl (X : Nat → Prop) (w : World) : Kx X w w := ⟨rfl, rfl, rfl, Nat.le_refl _, fun _ _ _ => rfl⟩

theorem Kx.trans {X : Nat → Prop} {a b c : World} (h : Kx X a b) (k : Kx X b c) : Kx X a c :=
  ⟨k.os.trans h.os, k.tape.trans h.tape, k.output.trans h.output, Nat.le_trans h.size k.size, fun i hi hx => (k.block i (Nat.lt_of_lt_of_le hi h.size) hx).trans (h.block i hi hx)⟩

/-- behind a call whose own blocks may turn what was not there at the first -/
theorem Kx.trans' {X Y : Nat → Prop} {a b c : World} (h : Kx X a b) (k : Kx Y b c) (hY : ∀ i, i < a.heap.size → Y i → X i) : Kx X a c :=
  ⟨k.os.trans h.os, k.tape.trans h.tape, k.output.trans h.output, Nat.le_trans h.size k.size, fun i hi hx => (k.block i (Nat.lt_of_lt_of_le hi h.size) (fun hy => hx (hY i hi hy))).trans (h.block i hi hx)⟩

theorem Kx.mono {X Y : Nat → Prop} {w w' : World} (h : Kx X w w') (hXY : ∀ k, k < w.heap.size → X k → Y k) : Kx Y w w' :=
  ⟨h.os, h.tape, h.output, h.size, fun k hk hy => h.block k hk (fun hx => hy (hXY k hk hx))⟩

theorem Kx.alloc {X : Nat → Prop} {a w : World} (h : Kx X a w) (o : Obj) : Kx X a (w.alloc o) :=
  h.trans ⟨rfl, rfl, rfl, by simp, fun k hk _ => Lib.alloc_old w o k hk⟩

theorem Kx.drew {X : Nat → Prop} {a w : World} (h : Kx X a w) : Kx X a w.drew := ⟨h.os, h.tape, h.output, h.size, h.block⟩

theorem Kx.setCell {X : Nat → Prop} {a w : World} (h : Kx X a w) (p : Addr) (hp : p.block < a.heap.size → X p.block) (v : Value) : Kx X a (w.setCell p v) :=
  ⟨h.os, h.tape, h.output, Nat.le_trans h.size (by simp [World.setCell]), fun k hk hx => by
    rw [Below.heap_setCell _ _ _ _ (fun e => hx (by rw [e]; exact hp (by omega)))]
    exact h.block k hk hx⟩

theorem Kx.grown {X : Nat → Prop} {a w w' : World} {row : Option Nat} (h : Kx X a w) (hg : w.grownBy w' row) (hrow : ∀ g, row = some g → g < a.heap.size → X g) : Kx X a w' :=
  ⟨hg.os.trans h.os, hg.tape.trans h.tape, hg.output.trans h.output, Nat.le_trans h.size hg.size, fun k hk hx => by
    rw [hg.block k (Nat.lt_of_lt_of_le hk h.size) (fun e => hx (hrow k e.symm hk))]
    exact h.block k hk hx⟩

theorem Kx.of_below {X : Nat → Prop} {w w' : World} (h : Below w.heap.size w w') : Kx X w w' :=
  ⟨h.os, h.tape, h.output, h.size, fun k hk _ => h.block k hk⟩

theorem Kx.below {X : Nat → Prop} {w w' : World} (h : Kx X w w') (B : Nat) (hB : B ≤ w.heap.size) (hX : ∀ k, X k → B ≤ k) : Below B w w' :=
  ⟨h.os, h.tape, h.output, h.size, fun k hk => h.block k (by omega) (fun hx => by have := hX k hx; omega)⟩

theorem Kx.of_kb {X : Nat → Prop} {e : TypeId} {N b : Nat} {w w' : World} (h : KB e N b w w') (hb : b < w.heap.size → X b) (hN : ∀ k, N ≤ k → k < w.heap.size → X k) : Kx X w w' :=
  ⟨h.os, h.tape, h.output, h.size, fun k hk hx => by
    have h1 : w.heap[k]? = some w.heap[k] := Array.getElem?_eq_getElem hk
    rw [h1]
    exact h.block k _ h1 (fun e => hx (by subst e; exact hb hk)) (fun hr => absurd (hN k hr hk) hx)⟩

theorem bthen {a b c : World} (h : Below a.heap.size a b) (k : Below b.heap.size b c) : Below a.heap.size a c := h.trans (k.mono h.size)

/-- these cells lie in memory where v, a slice of n elements, leads; its block is one of S -/
def RowAt (S : Nat → Prop) (w : World) (v : Value) (n : Nat) (cells : List Value) : Prop :=
  (n = 0 ∧ cells = [] ∧ ∃ a c, v = .slice a 0 c) ∨
  ∃ g o c, v = .slice (some ⟨g, o, none⟩) n c ∧ S g ∧ g < w.heap.size ∧ ∀ j u, cells[j]? = some u → w.cell? ⟨g, o + j, none⟩ = some u

theorem RowAt.slice {S : Nat → Prop} {w : World} {v : Value} {n : Nat} {cells : List Value} (h : RowAt S w v n cells) : ∃ a c, v = .slice a n c := by
  rcases h with ⟨rfl, _, a, c, rfl⟩ | ⟨g, o, c, rfl, _⟩
  · exact ⟨a, c, rfl⟩
  · exact ⟨_, c, rfl⟩

theorem RowAt.mono {S T : Nat → Prop} {w : World} {v : Value} {n : Nat} {cells : List Value} (h : RowAt S w v n cells) (hST : ∀ k, k < w.heap.size → S k → T k) : RowAt T w v n cells := by
  rcases h with h | ⟨g, o, c, rfl, hs, hg, hc⟩
  · exact .inl h
  · exact .inr ⟨g, o, c, rfl, hST g hg hs, hg, hc⟩

theorem RowAt.keep {S : Nat → Prop} {w w' : World} {v : Value} {n : Nat} {cells : List Value} (h : RowAt S w v n cells) (hs : w.heap.size ≤ w'.heap.size) (hk : ∀ k, k < w.heap.size → S k → w'.heap[k]? = w.heap[k]?) : RowAt S w' v n cells := by
  rcases h with h | ⟨g, o, c, rfl, hsg, hg, hc⟩
  · exact .inl h
  · refine .inr ⟨g, o, c, rfl, hsg, by omega, fun j u hu => ?_⟩
    rw [World.cell?_of_block (w := w) (hk g hg hsg)]
    exact hc j u hu

theorem RowAt.kx {S X : Nat → Prop} {w w' : World} {v : Value} {n : Nat} {cells : List Value} (h : RowAt S w v n cells) (hk : Kx X w w') (hSX : ∀ k, S k → ¬ X k) : RowAt S w' v n cells :=
  h.keep hk.size fun k hlt hs => hk.block k hlt (hSX k hs)

/-- a row that the call owns -/
theorem RowAt.of_own {w : World} {base : Nat} {e : TypeId} {z : Nat} {v : Value} {n : Nat} {xs : List Value} (h : w.ownsRowF base e z v n xs) : RowAt (fun k => v.ownBlock = some k) w v n xs := by
  rcases h.2 with ⟨rfl, rfl⟩ | ⟨g, cap, cur, fz, rfl, hb, hg, h1, h2, h3, h4, h5⟩
  · have := h.1
    exact .inl ⟨rfl, List.eq_nil_of_length_eq_zero (by simpa using this), none, 0, rfl⟩
  · refine .inr ⟨g, 0, cap, rfl, rfl, (Array.getElem?_eq_some_iff.1 hg).1, fun j u hu => ?_⟩
    rw [Lib.cell_of_heap hg, Nat.zero_add]
    rw [← h5] at hu
    have hj : j < n * z := by
      have := (List.getElem?_eq_some_iff.1 hu).1
      simp at this; omega
    rw [List.getElem?_take_of_lt hj] at hu
    simpa using hu
end Go.Proofs.YtghiboknhjnlkaaDoor

namespace Go.Proofs.YtghiboknhjnlkaaDoor
open Go.RowKit

def strV (l : List UInt8) : Value := .string ⟨l.toArray⟩

/-- these five cells are a JSON value of so many levels at most; all its rows lie in blocks of S -/
def JRep (S : Nat → Prop) (w : World) : Nat → List Value → JV → Prop
  | 0, _, _ => False
  | f + 1, cs, .mk k t ns ks p =>
    ∃ vn vk, cs = [.int .i64 k, strV t, vn, vk, .int .i64 p] ∧ RowAt S w vn ns.length (ns.map strV) ∧
      ∃ kcs : List (List Value), kcs.length = ks.length ∧ RowAt S w vk ks.length kcs.flatten ∧ ∀ j (h : j < kcs.length) (h2 : j < ks.length), JRep S w f kcs[j] ks[j]

theorem JRep.keep {S : Nat → Prop} {w w' : World} (hs : w.heap.size ≤ w'.heap.size) (hk : ∀ k, k < w.heap.size → S k → w'.heap[k]? = w.heap[k]?) : ∀ {f : Nat} {cs : List Value} {J : JV}, JRep S w f cs J → JRep S w' f cs J
  | 0, _, _, h => h
  | f + 1, cs, .mk k t ns ks p, h => by
    obtain ⟨vn, vk, rfl, h1, kcs, h2, h3, h4⟩ := h
    exact ⟨vn, vk, rfl, h1.keep hs hk, kcs, h2, h3.keep hs hk, fun j hj hj2 => (h4 j hj hj2).keep hs hk⟩

theorem JRep.kx {S X : Nat → Prop} {w w' : World} {f : Nat} {cs : List Value} {J : JV} (h : JRep S w f cs J) (hk : Kx X w w') (hSX : ∀ k, S k → ¬ X k) : JRep S w' f cs J :=
  h.keep hk.size fun k hlt hs => hk.block k hlt (hSX k hs)

theorem JRep.mono {S T : Nat → Prop} {w : World} (hST : ∀ k, k < w.heap.size → S k → T k) : ∀ {f : Nat} {cs : List Value} {J : JV}, JRep S w f cs J → JRep T w f cs J
  | 0, _, _, h => h
  | f + 1, cs, .mk k t ns ks p, h => by
    obtain ⟨vn, vk, rfl, h1, kcs, h2, h3, h4⟩ := h
    exact ⟨vn, vk, rfl, h1.mono hST, kcs, h2, h3.mono hST, fun j hj hj2 => (h4 j hj hj2).mono hST⟩

/-- more levels -/
theorem JRep.more {S : Nat → Prop} {w : World} : ∀ {f g : Nat} {cs : List Value} {J : JV}, f ≤ g → JRep S w f cs J → JRep S w g cs J
  | 0, _, _, _, _, h => h.elim
  | f + 1, 0, _, _, hg, _ => by omega
  | f + 1, g + 1, cs, .mk k t ns ks p, hg, h => by
    obtain ⟨vn, vk, rfl, h1, kcs, h2, h3, h4⟩ := h
    exact ⟨vn, vk, rfl, h1, kcs, h2, h3, fun j hj hj2 => (h4 j hj hj2).more (by omega)⟩

theorem JRep.len {S : Nat → Prop} {w : World} : ∀ {f : Nat} {cs : List Value} {J : JV}, JRep S w f cs J → cs.length = 5
  | 0, _, _, h => h.elim
  | f + 1, cs, .mk k t ns ks p, h => by
    obtain ⟨vn, vk, rfl, _⟩ := h
    rfl

theorem flatten_len5 : ∀ (kcs : List (List Value)), (∀ c ∈ kcs, c.length = 5) → kcs.flatten.length = 5 * kcs.length
  | [], _ => rfl
  | c :: kcs, h => by
    rw [List.flatten_cons, List.length_append, flatten_len5 kcs (fun d hd => h d (List.mem_cons_of_mem _ hd)), h c List.mem_cons_self, List.length_cons]
    omega

theorem flatten_at : ∀ (kcs : List (List Value)), (∀ c ∈ kcs, c.length = 5) → ∀ j (hj : j < kcs.length) i, i < 5 → kcs.flatten[5 * j + i]? = kcs[j][i]?
  | [], _, j, hj, _, _ => by simp at hj
  | c :: kcs, h, 0, hj, i, hi => by
    rw [List.flatten_cons, List.getElem?_append_left (by rw [h c List.mem_cons_self]; omega)]
    simp
  | c :: kcs, h, j + 1, hj, i, hi => by
    have hc := h c List.mem_cons_self
    rw [List.flatten_cons, List.getElem?_append_right (by rw [hc]; omega), hc, show 5 * (j + 1) + i - 5 = 5 * j + i by omega]
    simpa using flatten_at kcs (fun d hd => h d (List.mem_cons_of_mem _ hd)) j (by simpa using hj) i hi
end Go.Proofs.YtghiboknhjnlkaaDoor
