/- json.same, for values of however many levels. -/
import Derived.Test.YtghiboknhjnlkaaDoorJEqF
set_option linter.unusedVariables false
set_option linter.unusedSimpArgs false
set_option linter.unnecessarySimpa false
namespace Go.Proofs.YtghiboknhjnlkaaDoor
open Go.RowKit

theorem below2 (w : World) (o1 o2 : Obj) : Below w.heap.size w ((w.alloc o1).alloc o2) := ((Below.refl _ w).alloc (Nat.le_refl _) _).alloc (by simp) _

theorem cell_alloc2a (w : World) (c0 c1 c2 c3 c4 : Value) (t : TypeId) (o : Obj) (i : Nat) (u : Value) (h : [c0, c1, c2, c3, c4][i]? = some u) : ((w.alloc (.cells #[c0, c1, c2, c3, c4] t)).alloc o).cell? ⟨w.heap.size, i, none⟩ = some u := by
  have h2 := heap_alloc_new w (.cells #[c0, c1, c2, c3, c4] t)
  rw [← Lib.alloc_old _ o _ (by simp)] at h2
  rw [Lib.cell_of_heap h2]
  simpa using h
theorem cell_alloc2b (w : World) (c0 c1 c2 c3 c4 : Value) (t : TypeId) (o : Obj) (i : Nat) (u : Value) (h : [c0, c1, c2, c3, c4][i]? = some u) : ((w.alloc o).alloc (.cells #[c0, c1, c2, c3, c4] t)).cell? ⟨w.heap.size + 1, i, none⟩ = some u := by
  have := heap_alloc_new (w.alloc o) (.cells #[c0, c1, c2, c3, c4] t)
  rw [show (w.alloc o).heap.size = w.heap.size + 1 by simp] at this
  rw [Lib.cell_of_heap this]
  simpa using h

set_option maxHeartbeats 1000000 in
set_option maxRecDepth 100000 in
theorem same_step (f : Nat) (hS : SameC f) : SameC (f + 1) := by
  intro S T g w ca cb A B hsm hA hB
  obtain ⟨k, t, ns, ks, p⟩ := A
  obtain ⟨vn, vk, rfl, hn, kcs, hl, hk, hj⟩ := hA
  obtain ⟨-, hs1, -, hs2, hs3⟩ := hsm
  cases g with
  | zero => exact hB.elim
  | succ g =>
    obtain ⟨k', t', ns', ks', p'⟩ := B
    obtain ⟨vn', vk', rfl, hn', kcs', hl', hk', hj'⟩ := hB
    obtain ⟨a1, c1, rfl⟩ := hn.slice
    obtain ⟨a2, c2, rfl⟩ := hk.slice
    obtain ⟨a3, c3, rfl⟩ := hn'.slice
    obtain ⟨a4, c4, rfl⟩ := hk'.slice
    unfold jSame strV
    by_cases h1 : k = k'
    · subst h1
      by_cases h2 : t = t'
      · subst h2
        have hN := Lib.hid (fun w' (h : Below w.heap.size w w') => namesEq_any (hn.keep h.size fun i hi _ => h.block i hi) (hn'.keep h.size fun i hi _ => h.block i hi) (by omega))
        have hE := Lib.hid (fun w' (h : Below w.heap.size w w') => eqFunc_any f hS S T g w' _ _ ks ks' kcs kcs' hl hl' (hk.keep h.size fun i hi _ => h.block i hi) (hk'.keep h.size fun i hi _ => h.block i hi) (fun j a b => (hj j a b).keep h.size fun i hi _ => h.block i hi) (fun j a b => (hj' j a b).keep h.size fun i hi _ => h.block i hi) hs2 hs3)
        clear hs3 hj hj' hl hl' hk hk' hn hn'
        rw [show (k == k) = true from by rw [beq_iff_eq], show (t == t) = true from by rw [beq_iff_eq], Bool.true_and, Bool.true_and]
        generalize (ns == ns') = bn at *
        generalize (ks.length == ks'.length && (ks.zip ks').all fun q => jSame f q.1 q.2) = bk at *
        go_enter Tryd.func66, Tryd.ntmps66
        go_wp2_with fail
        refine (hN.out _ (below2 _ _ _)).mono ?_
        rintro e w1 ⟨rfl, b1⟩
        have hb1 := (below2 w _ _).trans (b1.mono (below2 w _ _).size)
        have q0 := (b1.cell (p := ⟨w.heap.size, 3, none⟩) (by simp <;> omega)).trans (cell_alloc2a w _ _ _ _ _ _ _ 3 _ rfl)
        have q1 := (b1.cell (p := ⟨w.heap.size + 1, 3, none⟩) (by simp)).trans (cell_alloc2b w _ _ _ _ _ _ _ 3 _ rfl)
        cases bn
        · go_wp2_with fail
          go_ret
          exact ⟨rfl, hb1⟩
        · go_wp2_with fail
          refine (hE.out _ hb1).mono ?_
          rintro e w2 ⟨rfl, b2⟩
          go_wp2_with fail
          go_ret
          exact ⟨rfl, hb1.trans (b2.mono hb1.size)⟩
      · have e2 : (t == t') = false := by rw [beq_eq_false_iff_ne]; exact h2
        rw [e2, Bool.and_false, Bool.false_and, Bool.false_and]
        clear e2 hs3 hj hj' hl hl' hk hk' hn hn'
        go_enter Tryd.func66, Tryd.ntmps66
        go_wp2_with fail
        go_ret
        exact ⟨rfl, below2 _ _ _⟩
    · have e1 : (k == k') = false := by rw [beq_eq_false_iff_ne]; exact h1
      rw [e1, Bool.false_and, Bool.false_and, Bool.false_and]
      clear e1 hs3 hj hj' hl hl' hk hk' hn hn'
      go_enter Tryd.func66, Tryd.ntmps66
      go_wp2_with fail
      go_ret
      exact ⟨rfl, below2 _ _ _⟩
theorem same_any : ∀ f, SameC f
  | 0 => fun S T g w ca cb A B _ h _ => h.elim
  | f + 1 => same_step f (same_any f)
end Go.Proofs.YtghiboknhjnlkaaDoor
