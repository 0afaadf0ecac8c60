/- What a list of JSON values is behind one more kid; a statement that may panic. -/
import Derived.Test.YtghiboknhjnlkaaDoorJInv
set_option linter.unusedVariables false
set_option linter.unusedSimpArgs false
set_option linter.unnecessarySimpa false
namespace Go.Proofs.YtghiboknhjnlkaaDoor
open Go.RowKit

/-- Q, but at a panic what is said of the world alone -/
def PanTo (PAN : List PanicEntry → Act → World → Prop) (Q : Exit → Act → World → Prop) : Exit → Act → World → Prop
  | .panic c, a, w => PAN c a w
  | .normal, a, w => Q .normal a w
  | .ret, a, w => Q .ret a w
  | .exit i, a, w => Q (.exit i) a w
  | .goto l, a, w => Q (.goto l) a w
  | .outgrown, a, w => Q .outgrown a w

theorem wp_panTo {P : Program} {c : Code} {Q : Exit → Act → World → Prop} {a : Act} {w : World} (PAN : List PanicEntry → Act → World → Prop) (h : c.wp P (PanTo PAN Q) a w) (hp : ∀ ch a w, PAN ch a w → Q (.panic ch) a w) : c.wp P Q a w :=
  Code.wp_mono (fun e a w h => by cases e <;> first | exact h | exact hp _ _ _ h) h

def zero5 : List Value := [.int .i64 0, .string ⟨#[]⟩, .slice none 0 0, .slice none 0 0, .int .i64 0]

theorem setFive_heap (w : World) (g o : Nat) (c0 c1 c2 c3 c4 : Value) (cur : Array Value) (e : TypeId) (fz : Nat × Nat) (hg : w.heap[g]? = some (.cells cur e fz)) :
    (((((w.setCell ⟨g, o, none⟩ c0).setCell ⟨g, o + 1, none⟩ c1).setCell ⟨g, o + 2, none⟩ c2).setCell ⟨g, o + 3, none⟩ c3).setCell ⟨g, o + 4, none⟩ c4).heap[g]? = some (.cells (((((cur.setIfInBounds o c0).setIfInBounds (o + 1) c1).setIfInBounds (o + 2) c2).setIfInBounds (o + 3) c3).setIfInBounds (o + 4) c4) e fz) := by
  simp [World.setCell, Array.getElem?_modify, hg]

theorem ownBlock_ne {w : World} {B : Nat} {e1 e2 : TypeId} {z1 z2 : Nat} {v1 v2 : Value} {n1 n2 : Nat} {x1 x2 : List Value} (h1 : w.ownsRow B e1 z1 v1 n1 x1) (h2 : w.ownsRow B e2 z2 v2 n2 x2) (he : e1 ≠ e2) (g : Nat) (hg1 : v1.ownBlock = some g) (hg2 : v2.ownBlock = some g) : False := by
  rcases h1.2 with ⟨rfl, _⟩ | ⟨g1, c1, cur1, rfl, _, hh1, _⟩
  · cases hg1
  · rcases h2.2 with ⟨rfl, _⟩ | ⟨g2, c2, cur2, rfl, _, hh2, _⟩
    · cases hg2
    · simp only [Value.ownBlock, Option.some.injEq] at hg1 hg2
      subst hg1
      subst hg2
      rw [hh1] at hh2
      injection hh2 with hh2
      injection hh2 with _ h _
      exact he h

theorem take_set5 (cur xs : List Value) (n : Nat) (h : cur.take ((n + 1) * 5) = xs ++ zero5) (hx : xs.length = n * 5) (c0 c1 c2 c3 c4 : Value) :
    (((((cur.set (n * 5) c0).set (n * 5 + 1) c1).set (n * 5 + 2) c2).set (n * 5 + 3) c3).set (n * 5 + 4) c4).take ((n + 1) * 5) = xs ++ [c0, c1, c2, c3, c4] := by
  rw [List.take_set, List.take_set, List.take_set, List.take_set, List.take_set, h, ← hx]
  unfold zero5
  simp [List.set_append]

theorem five_cells {w : World} {B g cap n : Nat} {e : TypeId} {xs : List Value} (h : w.ownsRow B e 5 (.slice (some ⟨g, 0, none⟩) (n + 1) cap) (n + 1) (xs ++ zero5)) (hx : xs.length = n * 5) :
    w.cell? ⟨g, n * 5, none⟩ = some (.int .i64 0) ∧ w.cell? ⟨g, n * 5 + 1, none⟩ = some (.string ⟨#[]⟩) ∧ w.cell? ⟨g, n * 5 + 2, none⟩ = some (.slice none 0 0) ∧ w.cell? ⟨g, n * 5 + 3, none⟩ = some (.slice none 0 0) ∧ w.cell? ⟨g, n * 5 + 4, none⟩ = some (.int .i64 0) ∧
      w.frozen? ⟨g, n * 5, none⟩ = false ∧ w.frozen? ⟨g, n * 5 + 1, none⟩ = false ∧ w.frozen? ⟨g, n * 5 + 2, none⟩ = false ∧ w.frozen? ⟨g, n * 5 + 3, none⟩ = false ∧ w.frozen? ⟨g, n * 5 + 4, none⟩ = false := by
  have hc : ∀ i u, zero5[i]? = some u → w.cell? ⟨g, n * 5 + i, none⟩ = some u := by
    intro i u hu
    have hi : i < 5 := (List.getElem?_eq_some_iff.1 hu).1
    rw [h.cellAt (n * 5 + i) (by omega), List.getElem?_append_right (by omega), hx, show n * 5 + i - n * 5 = i by omega]
    exact hu
  exact ⟨hc 0 _ rfl, hc 1 _ rfl, hc 2 _ rfl, hc 3 _ rfl, hc 4 _ rfl, h.frozenAt _, h.frozenAt _, h.frozenAt _, h.frozenAt _, h.frozenAt _⟩
end Go.Proofs.YtghiboknhjnlkaaDoor
