/- slices.EqualFunc over two rows of JSON values, given what 'same' answers of their kids. json.same, for values of however many levels. -/
import Derived.Test.YtghiboknhjnlkaaDoorJNm
import Derived.LoopN
set_option linter.unusedVariables false
set_option linter.unusedSimpArgs false
set_option linter.unnecessarySimpa false
namespace Go.Proofs.YtghiboknhjnlkaaDoor
open Go.RowKit

/-- no row and no text of it is longer than memory -/
def JSm : Nat → JV → Prop
  | 0, _ => True
  | f + 1, .mk k t ns ks p => t.length ≤ 1000000000000 ∧ ns.length ≤ 1000000000000 ∧ (∀ x ∈ ns, x.length ≤ 1000000000000) ∧ ks.length ≤ 1000000000000 ∧ ∀ x ∈ ks, JSm f x

/-- what 'same' answers of two values of so many levels -/
def SameC (f : Nat) : Prop :=
  ∀ (S T : Nat → Prop) (g : Nat) (w : World) (ca cb : List Value) (A B : JV), JSm f A → JRep S w f ca A → JRep T w g cb B →
    Calls Tryd.prog 66 #[.agg ca.toArray, .agg cb.toArray] w fun e w' => e = .returned (.bool (jSame f A B)) ∧ Below w.heap.size w w'

theorem enter_same (cap : Array Value) (w : World) : Sem.run Tryd.prog (callFunc 66 cap) w = .ok (.enter 66 cap) w := by kernel_rfl

/-- the j-th kid's five cells -/
theorem kid_cells {S : Nat → Prop} {w : World} {v : Value} {n : Nat} {kcs : List (List Value)} (h : RowAt S w v n kcs.flatten) (hl : kcs.length = n) (h5 : ∀ c ∈ kcs, c.length = 5) (hn : n ≠ 0) :
    ∃ g o c, v = .slice (some ⟨g, o, none⟩) n c ∧ g < w.heap.size ∧ ∀ j (hj : j < kcs.length) i u, kcs[j][i]? = some u → w.cell? ⟨g, o + j * 5 + i, none⟩ = some u := by
  rcases h with ⟨h1, _⟩ | ⟨g, o, c, rfl, _, hg, hc⟩
  · exact absurd h1 hn
  · refine ⟨g, o, c, rfl, hg, fun j hj i u hu => ?_⟩
    have := h5 _ (List.getElem_mem hj)
    have hi : i < kcs[j].length := (List.getElem?_eq_some_iff.1 hu).1
    have := hc (5 * j + i) u (by rw [flatten_at kcs h5 j hj i (by omega)]; exact hu)
    rwa [show o + (5 * j + i) = o + j * 5 + i by omega] at this

theorem jrep_len5 {S : Nat → Prop} {w : World} {f : Nat} {kcs : List (List Value)} {ks : List JV} (hl : kcs.length = ks.length) (h : ∀ j (h : j < kcs.length) (h2 : j < ks.length), JRep S w f kcs[j] ks[j]) : ∀ c ∈ kcs, c.length = 5 := by
  intro c hc
  obtain ⟨j, hj, rfl⟩ := List.getElem_of_mem hc
  exact (h j hj (by omega)).len

set_option maxHeartbeats 1000000 in
set_option maxRecDepth 100000 in
theorem eqFunc_any (f : Nat) (hS : SameC f) (S T : Nat → Prop) (g : Nat) (w : World) (va vb : Value) (xs ys : List JV) (ka kb : List (List Value)) (hla : ka.length = xs.length) (hlb : kb.length = ys.length)
    (hra : RowAt S w va xs.length ka.flatten) (hrb : RowAt T w vb ys.length kb.flatten) (hja : ∀ j (h : j < ka.length) (h2 : j < xs.length), JRep S w f ka[j] xs[j]) (hjb : ∀ j (h : j < kb.length) (h2 : j < ys.length), JRep T w g kb[j] ys[j]) (hbig : xs.length ≤ 1000000000000) (hsm : ∀ x ∈ xs, JSm f x) :
    Calls Tryd.prog 96 #[va, vb, .func (.func 66) #[] #[]] w fun e w' => e = .returned (.bool (xs.length == ys.length && (xs.zip ys).all fun q => jSame f q.1 q.2)) ∧ Below w.heap.size w w' := by
  have hEn := enter_same
  have HSM := Lib.hid hsm
  clear hsm
  by_cases hl : xs.length = ys.length
  · by_cases h0 : xs.length = 0
    · have e1 : xs = [] := List.eq_nil_of_length_eq_zero h0
      have e2 : ys = [] := List.eq_nil_of_length_eq_zero (by omega)
      subst e1
      subst e2
      obtain ⟨a1, c1, rfl⟩ := hra.slice
      obtain ⟨a2, c2, rfl⟩ := hrb.slice
      go_enter Tryd.func96, Tryd.ntmps96
      go_wp2_with fail
      refine wp_loop_rounds 1 ?_
      rw [rounds_succ]
      go_wp2
      go_ret
      exact ⟨rfl, Below.refl _ _⟩
    · obtain ⟨ga, oa, ca, rfl, hga, hca⟩ := kid_cells hra hla (jrep_len5 hla hja) h0
      obtain ⟨gb, ob, cb, rfl, hgb, hcb⟩ := kid_cells hrb hlb (jrep_len5 hlb hjb) (by omega)
      rw [← hl]
      have HL := Lib.hid hl
      clear hl
      go_enter Tryd.func96, Tryd.ntmps96
      go_wp2_with fail
      go_loopw [17] (fun v wr => ∃ k : Nat, v = .int .i64 k ∧ k ≤ xs.length ∧ Below w.heap.size w wr ∧ Hid ((xs.zip ys).all (fun q => jSame f q.1 q.2) = ((xs.zip ys).drop k).all (fun q => jSame f q.1 q.2))) (fun v _ => xs.length - (intOf v).toNat)
      case atStart => exact ⟨0, rfl, Nat.zero_le _, Below.refl _ _, rfl⟩
      case round =>
        obtain ⟨k, rfl, hk, hbw, HA⟩ := hrel
        by_cases hlt : k < xs.length
        · have hka : k < ka.length := by omega
          have hkb : k < kb.length := by have := HL.out; omega
          have JA := (hja k hka hlt).keep hbw.size (fun i hi _ => hbw.block i hi)
          have JB := (hjb k hkb (by have := HL.out; omega)).keep hbw.size (fun i hi _ => hbw.block i hi)
          obtain ⟨k1, t1, vn1, vk1, p1, e1, ⟨a1, c1, m1, rfl⟩, ⟨a2, c2, m2, rfl⟩⟩ := jrep_cells JA
          obtain ⟨k2, t2, vn2, vk2, p2, e2, ⟨a3, c3, m3, rfl⟩, ⟨a4, c4, m4, rfl⟩⟩ := jrep_cells JB
          have fa : ∀ i u, ka[k][i]? = some u → wr.cell? ⟨ga, oa + k * 5 + i, none⟩ = some u := fun i u hu => (hbw.cell (p := ⟨ga, _, none⟩) hga).trans (hca k hka i u hu)
          have fb : ∀ i u, kb[k][i]? = some u → ∀ o, (wr.alloc o).cell? ⟨gb, ob + k * 5 + i, none⟩ = some u := fun i u hu o => (World.cell?_of_block (w := wr) (a := ⟨gb, _, none⟩) (Lib.alloc_old wr o gb (by have := hbw.size; omega))).trans ((hbw.cell (p := ⟨gb, _, none⟩) hgb).trans (hcb k hkb i u hu))
          rw [e1] at fa JA
          rw [e2] at fb JB
          have q0 := fa 0 _ rfl
          have q1 := fa 1 _ rfl
          have q2 := fa 2 _ rfl
          have q3 := fa 3 _ rfl
          have q4 := fa 4 _ rfl
          have r0 := fb 0 _ rfl
          have r1 := fb 1 _ rfl
          have r2 := fb 2 _ rfl
          have r3 := fb 3 _ rfl
          have r4 := fb 4 _ rfl
          simp only [Nat.add_zero] at q0 r0
          have HJA := Lib.hid JA
          have HJB := Lib.hid JB
          clear JA JB fa fb hca hcb hja hjb
          have hky : k < ys.length := by have := HL.out; omega
          have hd : (xs.zip ys).drop k = (xs[k], ys[k]'hky) :: (xs.zip ys).drop (k + 1) := by
            rw [List.drop_eq_getElem_cons (by have := HL.out; simp; omega)]
            simp
          have h1 := HA.out
          rw [hd, List.all_cons] at h1
          have H1 := Lib.hid h1
          have hbb : ∀ o1 o2, Below wr.heap.size wr ((wr.alloc o1).alloc o2) := fun o1 o2 => ((Below.refl _ wr).alloc (Nat.le_refl _) _).alloc (by simp) _
          clear h1 hd
          go_wp2_with fail
          refine (hS S T g _ _ _ _ _ (HSM.out _ (List.getElem_mem hlt)) (HJA.out.keep (hbb _ _).size (fun i hi _ => (hbb _ _).block i hi)) (HJB.out.keep (hbb _ _).size (fun i hi _ => (hbb _ _).block i hi))).mono ?_
          rintro e W ⟨rfl, b⟩
          have hbW := hbw.trans (((hbb _ _).trans (b.mono (hbb _ _).size)).mono hbw.size)
          generalize jSame f xs[k] (ys[k]'hky) = v at *
          cases v
          · go_wp2_with fail
            go_ret
            refine ⟨?_, hbW⟩
            have := H1.out
            simp only [Bool.false_and] at this
            rw [this, Bool.and_false]
            rfl
          · go_wp2_with fail
            have H2 : Hid ((xs.zip ys).all (fun q => jSame f q.1 q.2) = ((xs.zip ys).drop (k + 1)).all (fun q => jSame f q.1 q.2)) := H1.out
            go_roundw
            case rel => exact ⟨k + 1, by go_num, by omega, hbW, H2⟩
            case measure => simp [intOf]; omega
        · go_wp2_with fail
          go_ret
          refine ⟨?_, hbw⟩
          have h1 := HA.out
          rw [List.drop_of_length_le (by have := HL.out; simp; omega)] at h1
          rw [h1]
          simp
  · obtain ⟨a1, c1, rfl⟩ := hra.slice
    obtain ⟨a2, c2, rfl⟩ := hrb.slice
    have hne : ((xs.length : Int) != (ys.length : Int)) = true := by rw [bne_iff_ne]; omega
    have hne2 : ((xs.length : Int) == (ys.length : Int)) = false := by rw [beq_eq_false_iff_ne]; omega
    have hq : (xs.length == ys.length) = false := by rw [beq_eq_false_iff_ne]; exact hl
    rw [hq]
    go_enter Tryd.func96, Tryd.ntmps96
    go_wp2_with fail
    go_ret
    exact ⟨rfl, Below.refl _ _⟩
end Go.Proofs.YtghiboknhjnlkaaDoor

namespace Go.Proofs.YtghiboknhjnlkaaDoor
open Go.RowKit

theorem below2 (w : World) (o1 o2 : Obj) : Below w.heap.size w ((w.alloc o1).alloc o2) := ((Below.refl _ w).alloc (Nat.le_refl _) _).alloc (by simp) _

theorem cell_alloc2a (w : World) (c0 c1 c2 c3 c4 : Value) (t : TypeId) (o : Obj) (i : Nat) (u : Value) (h : [c0, c1, c2, c3, c4][i]? = some u) : ((w.alloc (.cells #[c0, c1, c2, c3, c4] t)).alloc o).cell? ⟨w.heap.size, i, none⟩ = some u := by
  have h2 := heap_alloc_new w (.cells #[c0, c1, c2, c3, c4] t)
  rw [← Lib.alloc_old _ o _ (by simp)] at h2
  rw [Lib.cell_of_heap h2]
  simpa using h
theorem cell_alloc2b (w : World) (c0 c1 c2 c3 c4 : Value) (t : TypeId) (o : Obj) (i : Nat) (u : Value) (h : [c0, c1, c2, c3, c4][i]? = some u) : ((w.alloc o).alloc (.cells #[c0, c1, c2, c3, c4] t)).cell? ⟨w.heap.size + 1, i, none⟩ = some u := by
  have := heap_alloc_new (w.alloc o) (.cells #[c0, c1, c2, c3, c4] t)
  rw [show (w.alloc o).heap.size = w.heap.size + 1 by simp] at this
  rw [Lib.cell_of_heap this]
  simpa using h

set_option maxHeartbeats 1000000 in
set_option maxRecDepth 100000 in
theorem same_step (f : Nat) (hS : SameC f) : SameC (f + 1) := by
  intro S T g w ca cb A B hsm hA hB
  obtain ⟨k, t, ns, ks, p⟩ := A
  obtain ⟨vn, vk, rfl, hn, kcs, hl, hk, hj⟩ := hA
  obtain ⟨-, hs1, -, hs2, hs3⟩ := hsm
  cases g with
  | zero => exact hB.elim
  | succ g =>
    obtain ⟨k', t', ns', ks', p'⟩ := B
    obtain ⟨vn', vk', rfl, hn', kcs', hl', hk', hj'⟩ := hB
    obtain ⟨a1, c1, rfl⟩ := hn.slice
    obtain ⟨a2, c2, rfl⟩ := hk.slice
    obtain ⟨a3, c3, rfl⟩ := hn'.slice
    obtain ⟨a4, c4, rfl⟩ := hk'.slice
    unfold jSame strV
    by_cases h1 : k = k'
    · subst h1
      by_cases h2 : t = t'
      · subst h2
        have hN := Lib.hid (fun w' (h : Below w.heap.size w w') => namesEq_any (hn.keep h.size fun i hi _ => h.block i hi) (hn'.keep h.size fun i hi _ => h.block i hi) (by omega))
        have hE := Lib.hid (fun w' (h : Below w.heap.size w w') => eqFunc_any f hS S T g w' _ _ ks ks' kcs kcs' hl hl' (hk.keep h.size fun i hi _ => h.block i hi) (hk'.keep h.size fun i hi _ => h.block i hi) (fun j a b => (hj j a b).keep h.size fun i hi _ => h.block i hi) (fun j a b => (hj' j a b).keep h.size fun i hi _ => h.block i hi) hs2 hs3)
        clear hs3 hj hj' hl hl' hk hk' hn hn'
        rw [show (k == k) = true from by rw [beq_iff_eq], show (t == t) = true from by rw [beq_iff_eq], Bool.true_and, Bool.true_and]
        generalize (ns == ns') = bn at *
        generalize (ks.length == ks'.length && (ks.zip ks').all fun q => jSame f q.1 q.2) = bk at *
        go_enter Tryd.func66, Tryd.ntmps66
        go_wp2_with fail
        refine (hN.out _ (below2 _ _ _)).mono ?_
        rintro e w1 ⟨rfl, b1⟩
        have hb1 := (below2 w _ _).trans (b1.mono (below2 w _ _).size)
        have q0 := (b1.cell (p := ⟨w.heap.size, 3, none⟩) (by simp <;> omega)).trans (cell_alloc2a w _ _ _ _ _ _ _ 3 _ rfl)
        have q1 := (b1.cell (p := ⟨w.heap.size + 1, 3, none⟩) (by simp)).trans (cell_alloc2b w _ _ _ _ _ _ _ 3 _ rfl)
        cases bn
        · go_wp2_with fail
          go_ret
          exact ⟨rfl, hb1⟩
        · go_wp2_with fail
          refine (hE.out _ hb1).mono ?_
          rintro e w2 ⟨rfl, b2⟩
          go_wp2_with fail
          go_ret
          exact ⟨rfl, hb1.trans (b2.mono hb1.size)⟩
      · have e2 : (t == t') = false := by rw [beq_eq_false_iff_ne]; exact h2
        rw [e2, Bool.and_false, Bool.false_and, Bool.false_and]
        clear e2 hs3 hj hj' hl hl' hk hk' hn hn'
        go_enter Tryd.func66, Tryd.ntmps66
        go_wp2_with fail
        go_ret
        exact ⟨rfl, below2 _ _ _⟩
    · have e1 : (k == k') = false := by rw [beq_eq_false_iff_ne]; exact h1
      rw [e1, Bool.false_and, Bool.false_and, Bool.false_and]
      clear e1 hs3 hj hj' hl hl' hk hk' hn hn'
      go_enter Tryd.func66, Tryd.ntmps66
      go_wp2_with fail
      go_ret
      exact ⟨rfl, below2 _ _ _⟩
theorem same_any : ∀ f, SameC f
  | 0 => fun S T g w ca cb A B _ h _ => h.elim
  | f + 1 => same_step f (same_any f)
end Go.Proofs.YtghiboknhjnlkaaDoor
