/- What a list of JSON values is behind one more kid: whichever of the call and the append came first. -/
import Derived.Test.YtghiboknhjnlkaaDoorJFin
set_option linter.unusedVariables false
set_option linter.unusedSimpArgs false
set_option linter.unnecessarySimpa false
namespace Go.Proofs.YtghiboknhjnlkaaDoor
open Go.RowKit

/-- ahead of the stores: the row has room for the new kid, which lies elsewhere -/
structure Pre (s : ByteArray) (r N f : Nat) (vn vk : Value) (xs : List Value) (n : Nat) (c5 : List Value) (J : JV) (q2 : Nat) (w W : World) (g cap : Nat) : Prop where
  k : Kx (fun i => i = r ∨ vk.ownBlock = some i) w W
  own : W.ownsRow (N + 4) 34 5 (.slice (some ⟨g, 0, none⟩) (n + 1) cap) (n + 1) (xs ++ zero5)
  at' : vk.ownBlock = some g ∨ w.heap.size ≤ g
  rep : JRep (fun i => N + 4 ≤ i ∧ i ≠ g ∧ vn.ownBlock ≠ some i) W f c5 J
  rd : Rd s r q2 W

theorem pre_callLast {s : ByteArray} {r N f : Nat} {vn vk : Value} {xs : List Value} {n : Nat} {c5 : List Value} {J : JV} {q q2 : Nat} {w w1 w2 : World} {g cap H : Nat}
    (hN : N + 4 ≤ w.heap.size) (hvn : ∀ i, vn.ownBlock = some i → i < w.heap.size) (hlt : g < w1.heap.size) (hw1 : w.heap.size ≤ w1.heap.size)
    (hE : Hid (JRep (fun i => w1.heap.size ≤ i) w2 f c5 J ∧ Rd s r q2 w2 ∧ q < q2 ∧ q2 ≤ s.size)) (hown : w2.ownsRow (N + 4) 34 5 (.slice (some ⟨g, 0, none⟩) (n + 1) cap) (n + 1) (xs ++ zero5))
    (hat : vk.ownBlock = some g ∨ g = H) (hH : w.heap.size ≤ H) (k02 : Kx (fun i => i = r ∨ vk.ownBlock = some i) w w2) : Pre s r N f vn vk xs n c5 J q2 w w2 g cap :=
  ⟨k02, hown, hat.imp id (fun h => by omega), hE.out.1.mono (fun i _ h => ⟨by omega, by omega, fun e => by have := hvn i e; omega⟩), hE.out.2.1⟩

theorem pre_appendLast {s : ByteArray} {r N f : Nat} {vn vk : Value} {xs : List Value} {n : Nat} {c5 : List Value} {J : JV} {q q2 : Nat} {w w1 w2 : World} {g cap H A : Nat}
    (hN : N + 4 ≤ w.heap.size) (hr : r < N) (hvn : ∀ i, vn.ownBlock = some i → i < w.heap.size) (hvk : ∀ i, vk.ownBlock = some i → N + 4 ≤ i ∧ i < w.heap.size) (hA : w.heap.size ≤ A)
    (hE : Hid (JRep (fun i => A ≤ i) w2 f c5 J ∧ Rd s r q2 w2 ∧ q < q2 ∧ q2 ≤ s.size)) (hown : w1.ownsRow (N + 4) 34 5 (.slice (some ⟨g, 0, none⟩) (n + 1) cap) (n + 1) (xs ++ zero5))
    (hat : vk.ownBlock = some g ∨ g = H) (hH : w2.heap.size ≤ H) (hw2 : w.heap.size ≤ w2.heap.size) (k21 : Kx (fun i => vk.ownBlock = some i) w2 w1) (k01 : Kx (fun i => i = r ∨ vk.ownBlock = some i) w w1) : Pre s r N f vn vk xs n c5 J q2 w w1 g cap := by
  refine ⟨k01, hown, hat.imp id (fun h => by omega), ?_, hE.out.2.1.kx k21 (fun h => by have := hvk r h; omega)⟩
  have h1 : JRep (fun i => A ≤ i ∧ i ≠ g) w2 f c5 J := hE.out.1.mono (fun i hi h => ⟨h, by rcases hat with h2 | h2; have := hvk g h2; omega; omega⟩)
  refine (h1.kx k21 (fun i h e => by have := hvk i e; omega)).mono (fun i _ h => ⟨by omega, h.2, fun e => by have := hvn i e; omega⟩)

/-- the five stores of the new kid -/
abbrev set5 (W : World) (g o : Nat) (c0 c1 c2 c3 c4 : Value) : World :=
  ((((W.setCell ⟨g, o, none⟩ c0).setCell ⟨g, o + 1, none⟩ c1).setCell ⟨g, o + 2, none⟩ c2).setCell ⟨g, o + 3, none⟩ c3).setCell ⟨g, o + 4, none⟩ c4

theorem set5_kx {X : Nat → Prop} {a W : World} (h : Kx X a W) (g o : Nat) (c0 c1 c2 c3 c4 : Value) (hg : X g) : Kx X a (set5 W g o c0 c1 c2 c3 c4) :=
  ((((h.setCell ⟨g, o, none⟩ (fun _ => hg) c0).setCell ⟨g, o + 1, none⟩ (fun _ => hg) c1).setCell ⟨g, o + 2, none⟩ (fun _ => hg) c2).setCell ⟨g, o + 3, none⟩ (fun _ => hg) c3).setCell ⟨g, o + 4, none⟩ (fun _ => hg) c4

theorem set5_own {B g cap n : Nat} {e : TypeId} {xs : List Value} {W : World} (h : W.ownsRow B e 5 (.slice (some ⟨g, 0, none⟩) (n + 1) cap) (n + 1) (xs ++ zero5)) (hx : xs.length = n * 5) (c0 c1 c2 c3 c4 : Value) :
    (set5 W g (n * 5) c0 c1 c2 c3 c4).ownsRow B e 5 (.slice (some ⟨g, 0, none⟩) (n + 1) cap) (n + 1) (xs ++ [c0, c1, c2, c3, c4]) := by
  rcases h.2 with ⟨h0, _⟩ | ⟨g', cap', cur, hv, hb, hg, h1, h2, h3, h4⟩
  · cases h0
  · simp only [Value.slice.injEq, Option.some.injEq, Addr.mk.injEq, and_true, true_and] at hv
    obtain ⟨rfl, rfl⟩ := hv
    refine ⟨by simp [hx]; omega, .inr ⟨g, cap, _, rfl, hb, setFive_heap W g (n * 5) c0 c1 c2 c3 c4 cur e (0, 0) hg, h1, h2, by simpa using h3, ?_⟩⟩
    simp only [Array.toList_setIfInBounds]
    exact take_set5 cur.toList xs n h4 hx c0 c1 c2 c3 c4

theorem own_other {B : Nat} {e : TypeId} {z : Nat} {v : Value} {n : Nat} {xs : List Value} {W : World} (h : W.ownsRow B e z v n xs) (b o : Nat) (u : Value) (hb : b < B) : (W.setCell ⟨b, o, none⟩ u).ownsRow B e z v n xs :=
  ownsRow_keep h fun k _ hk => Below.heap_setCell _ _ _ _ (by intro e; simp at e; omega)

theorem fin_list {s : ByteArray} {r N f : Nat} {dz kind : Int} {pos : Nat} {st : JSt} {q q2 : Nat} {w W W' : World} {vn vk : Value} {kcs : List (List Value)} {g cap : Nat} {c5 : List Value} {J : JV}
    (hr : r < N) (hu : r ≠ 0 ∧ r ≠ 1) (hgg : 0 < N ∧ 1 < N) (henv : EnvU w) (hsz : N + 4 ≤ w.heap.size)
    (hbox : w.heap[N]? = some (.cells #[RP r] 72 (0, 0))) (hdeep : w.heap[N + 1]? = some (.cells #[.int .i64 dz] 3 (0, 0)))
    (hvb : w.heap[N + 3]? = some (.cells #[.int .i64 kind, .string ⟨#[]⟩, vn, vk, .int .i64 pos] 34 (0, 0)))
    (hres : w.heap[N + 2]? = some (.cells #[.int .i64 0, .string ⟨#[]⟩, .slice none 0 0, .slice none 0 0, .int .i64 0] 34 (0, 0)))
    (hn : w.ownsRow (N + 4) 9 1 vn st.1.length (st.1.map strV)) (hl : kcs.length = st.2.length) (hk : w.ownsRow (N + 4) 34 5 vk st.2.length kcs.flatten)
    (hj : ∀ j (h : j < kcs.length) (h2 : j < st.2.length), JRep (fun k => N + 4 ≤ k ∧ vk.ownBlock ≠ some k ∧ vn.ownBlock ≠ some k) w f kcs[j] st.2[j])
    (hP : Pre s r N f vn vk kcs.flatten st.2.length c5 J q2 w W g cap) (hq2 : q2 ≤ s.size) (hlen : st.1.length ≤ q2 ∧ st.2.length + 1 ≤ q2) (hc5 : c5.length = 5)
    (hW : Kx (fun i => i = N + 3 ∨ i = g) W W') (h3 : W'.heap[N + 3]? = some (.cells #[.int .i64 kind, .string ⟨#[]⟩, vn, .slice (some ⟨g, 0, none⟩) (st.2.length + 1) cap, .int .i64 pos] 34 (0, 0)))
    (hgr : W'.ownsRow (N + 4) 34 5 (.slice (some ⟨g, 0, none⟩) (st.2.length + 1) cap) (st.2.length + 1) (kcs.flatten ++ c5)) :
    INV s r N f dz kind pos (st.1, st.2 ++ [J]) q2 W' ∧ Kx (fun k => k = r ∨ N ≤ k) w W' := by
  have hg4 : N + 4 ≤ g := (hgr.lt g rfl).1
  have hvk : ∀ i, vk.ownBlock = some i → N + 4 ≤ i := fun i h => (hk.lt i h).1
  have hvn : ∀ i, vn.ownBlock = some i → N + 4 ≤ i := fun i h => (hn.lt i h).1
  have hnk : ∀ i, vn.ownBlock = some i → vk.ownBlock = some i → False := fun i h1 h2 => ownBlock_ne hn hk (by decide) i h1 h2
  have hnW : W.ownsRow (N + 4) 9 1 vn st.1.length (st.1.map strV) := by
    refine ⟨hn.1, ?_⟩
    rcases hn.2 with h | ⟨g', cap', cur, rfl, hb, hg, rest⟩
    · exact .inl h
    · refine .inr ⟨g', cap', cur, rfl, hb, ?_, rest⟩
      rw [hP.k.block g' (Array.getElem?_eq_some_iff.1 hg).1 (by rintro (h | h); omega; exact hnk g' rfl h)]
      exact hg
  have hng : vn.ownBlock ≠ some g := fun h => ownBlock_ne hnW hP.own (by decide) g h rfl
  have hnW' : W'.ownsRow (N + 4) 9 1 vn st.1.length (st.1.map strV) := by
    refine ⟨hnW.1, ?_⟩
    rcases hnW.2 with h | ⟨g', cap', cur, rfl, hb, hg, rest⟩
    · exact .inl h
    · refine .inr ⟨g', cap', cur, rfl, hb, ?_, rest⟩
      rw [hW.block g' (Array.getElem?_eq_some_iff.1 hg).1 (by rintro (h | h); omega; exact hng (by rw [h]; rfl))]
      exact hg
  have K : Kx (fun k => k = r ∨ N ≤ k) w W' := (hP.k.mono (fun i _ h => h.imp id (fun h => by have := hvk i h; omega))).trans' hW (fun i _ h => by omega)
  obtain ⟨_, _, _, _, e0, e1, _⟩ := (show W.cell? ⟨N, 0, none⟩ = some (RP r) ∧ True ∧ True ∧ True ∧ W.heap[N]? = w.heap[N]? ∧ W.heap[N + 1]? = w.heap[N + 1]? ∧ True from by
    have e0 := hP.k.block N (Array.getElem?_eq_some_iff.1 hbox).1 (by rintro (h | h); omega; have := hvk N h; omega)
    have e1 := hP.k.block (N + 1) (Array.getElem?_eq_some_iff.1 hdeep).1 (by rintro (h | h); omega; have := hvk (N + 1) h; omega)
    refine ⟨?_, trivial, trivial, trivial, e0, e1, trivial⟩
    rw [Lib.cell_of_heap (e0.trans hbox)]; rfl)
  refine ⟨⟨hP.rd.kx hW (by omega), hq2, henv.kx K (by rintro (h | h); exact hu.1 h.symm; omega) (by rintro (h | h); exact hu.2 h.symm; omega), ?_, ?_, ?_, by have := K.size; omega, by simp only [List.length_append, List.length_cons, List.length_nil]; omega, by rw [hW.block (N + 2) (by have := (Array.getElem?_eq_some_iff.1 hres).1; have := hP.k.size; omega) (by omega), hP.k.block (N + 2) (Array.getElem?_eq_some_iff.1 hres).1 (by rintro (h | h); omega; have := hvk (N + 2) h; omega)]; exact hres⟩, K⟩
  · rw [hW.block N (by have := (Array.getElem?_eq_some_iff.1 hbox).1; have := hP.k.size; omega) (by omega), e0]; exact hbox
  · rw [hW.block (N + 1) (by have := (Array.getElem?_eq_some_iff.1 hdeep).1; have := hP.k.size; omega) (by omega), e1]; exact hdeep
  · refine ⟨vn, _, h3, hnW', kcs ++ [c5], by simp [hl], ?_, ?_⟩
    · simp only [List.length_append, List.length_cons, List.length_nil, List.flatten_append, List.flatten_cons, List.flatten_nil, List.append_nil]
      exact hgr
    · intro j h1 h2
      by_cases hjn : j < st.2.length
      · have hjk : j < kcs.length := by omega
        rw [List.getElem_append_left hjk, List.getElem_append_left hjn]
        have a1 : JRep (fun k => (N + 4 ≤ k ∧ k ≠ g ∧ vn.ownBlock ≠ some k) ∧ vk.ownBlock ≠ some k) w f kcs[j] st.2[j] := (hj j hjk hjn).mono (fun i hi h => ⟨⟨h.1, by
          rintro rfl
          rcases hP.at' with h4 | h4
          · exact h.2.1 h4
          · omega, h.2.2⟩, h.2.1⟩)
        have a2 := a1.kx hP.k (fun i h => by rintro (h5 | h5); omega; exact h.2 h5)
        have a3 := a2.kx hW (fun i h => by omega)
        exact a3.mono (fun i _ h => ⟨h.1.1, fun h5 => h.1.2.1 (by simpa [Value.ownBlock] using h5.symm), h.1.2.2⟩)
      · simp at h2
        have hjl : j = st.2.length := by omega
        subst hjl
        rw [List.getElem_append_right (by omega), List.getElem_append_right (by omega)]
        simp only [hl, Nat.sub_self, List.getElem_cons_zero]
        exact (hP.rep.kx hW (fun i h => by omega)).mono (fun i _ h => ⟨h.1, fun h5 => h.2.1 (by simpa [Value.ownBlock] using h5.symm), h.2.2⟩)

theorem own_kx {B : Nat} {e : TypeId} {z : Nat} {v : Value} {n : Nat} {xs : List Value} {w W : World} (h : w.ownsRow B e z v n xs) (k : Kx (fun _ => False) w W) : W.ownsRow B e z v n xs :=
  ownsRow_keep h fun i hi _ => k.block i hi (fun h => h)

theorem zero5_one : ∀ u ∈ zero5, u.oneCell' = true := by
  intro u hu
  simp only [zero5, List.mem_cons, List.not_mem_nil, or_false] at hu
  rcases hu with rfl | rfl | rfl | rfl | rfl <;> rfl

theorem news_at {W : World} {b : Nat} {t : TypeId} {fr : Nat × Nat} (h : W.heap[b]? = some (.cells zero5.toArray t fr)) : ∀ j u, zero5[j]? = some u → W.cell? ((⟨b, 0, none⟩ : Addr).add j) = some u := by
  intro j u hu
  have hadd : (⟨b, 0, none⟩ : Addr).add j = ⟨b, j, none⟩ := by simp [Addr.add]; omega
  rw [hadd, Lib.cell_of_heap h]
  simpa using hu

/-- the stores into the row, and into the list's own variable: in either order -/
theorem stores_fin {s : ByteArray} {r N f : Nat} {vn vk : Value} {xs : List Value} {n : Nat} {J : JV} {q2 : Nat} {w W : World} {g cap : Nat} {c0 c1 c2 c3 c4 : Value} {kind : Int} {pos : Nat}
    (hr : r < N) (hvk : ∀ i, vk.ownBlock = some i → N + 4 ≤ i) (hP : Pre s r N f vn vk xs n [c0, c1, c2, c3, c4] J q2 w W g cap) (hx : xs.length = n * 5)
    (hvb : w.heap[N + 3]? = some (.cells #[.int .i64 kind, .string ⟨#[]⟩, vn, vk, .int .i64 pos] 34 (0, 0))) (W' : World)
    (hW' : W' = set5 (W.setCell ⟨N + 3, 3, none⟩ (.slice (some ⟨g, 0, none⟩) (n + 1) cap)) g (n * 5) c0 c1 c2 c3 c4 ∨ W' = (set5 W g (n * 5) c0 c1 c2 c3 c4).setCell ⟨N + 3, 3, none⟩ (.slice (some ⟨g, 0, none⟩) (n + 1) cap)) :
    Kx (fun i => i = N + 3 ∨ i = g) W W' ∧ W'.heap[N + 3]? = some (.cells #[.int .i64 kind, .string ⟨#[]⟩, vn, .slice (some ⟨g, 0, none⟩) (n + 1) cap, .int .i64 pos] 34 (0, 0)) ∧
      W'.ownsRow (N + 4) 34 5 (.slice (some ⟨g, 0, none⟩) (n + 1) cap) (n + 1) (xs ++ [c0, c1, c2, c3, c4]) := by
  have hg4 : N + 4 ≤ g := (hP.own.lt g rfl).1
  have e3 : W.heap[N + 3]? = some (.cells #[.int .i64 kind, .string ⟨#[]⟩, vn, vk, .int .i64 pos] 34 (0, 0)) := by
    rw [hP.k.block (N + 3) (Array.getElem?_eq_some_iff.1 hvb).1 (by rintro (h | h); omega; have := hvk (N + 3) h; omega)]; exact hvb
  have hgn : ∀ (V : World) (o : Nat) (u : Value), (V.setCell ⟨g, o, none⟩ u).heap[N + 3]? = V.heap[N + 3]? := fun V o u => Below.heap_setCell _ _ _ _ (by intro h; simp at h; omega)
  have hst : ∀ (V : World), V.heap[N + 3]? = some (.cells #[.int .i64 kind, .string ⟨#[]⟩, vn, vk, .int .i64 pos] 34 (0, 0)) → (V.setCell ⟨N + 3, 3, none⟩ (.slice (some ⟨g, 0, none⟩) (n + 1) cap)).heap[N + 3]? = some (.cells #[.int .i64 kind, .string ⟨#[]⟩, vn, .slice (some ⟨g, 0, none⟩) (n + 1) cap, .int .i64 pos] 34 (0, 0)) := by
    intro V h
    simp [World.setCell, Array.getElem?_modify, h]
  rcases hW' with rfl | rfl
  · refine ⟨set5_kx ((Kx.refl _ W).setCell ⟨N + 3, 3, none⟩ (fun _ => .inl rfl) _) g _ c0 c1 c2 c3 c4 (.inr rfl), ?_, ?_⟩
    · show (set5 _ g (n * 5) c0 c1 c2 c3 c4).heap[N + 3]? = _
      unfold set5
      rw [hgn, hgn, hgn, hgn, hgn]
      exact hst W e3
    · exact set5_own (own_other hP.own (N + 3) 3 _ (by omega)) hx c0 c1 c2 c3 c4
  · refine ⟨(set5_kx (Kx.refl _ W) g _ c0 c1 c2 c3 c4 (.inr rfl)).setCell ⟨N + 3, 3, none⟩ (fun _ => .inl rfl) _, ?_, ?_⟩
    · refine hst _ ?_
      show (set5 _ g (n * 5) c0 c1 c2 c3 c4).heap[N + 3]? = _
      unfold set5
      rw [hgn, hgn, hgn, hgn, hgn]
      exact e3
    · exact own_other (set5_own hP.own hx c0 c1 c2 c3 c4) (N + 3) 3 _ (by omega)
end Go.Proofs.YtghiboknhjnlkaaDoor
