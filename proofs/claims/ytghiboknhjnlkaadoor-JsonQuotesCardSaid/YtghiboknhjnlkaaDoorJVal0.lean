/- What holds at the begin of a JSON value; a kind is stored; the parts by the closures' own numbers. -/
import Derived.Test.YtghiboknhjnlkaaDoorJMem
set_option linter.unusedVariables false
set_option linter.unusedSimpArgs false
set_option linter.unnecessarySimpa false
namespace Go.Proofs.YtghiboknhjnlkaaDoor
open Go.RowKit

theorem enter_partA (cap : Array Value) (w : World) : Sem.run Tryd.prog (callFunc 86 cap) w = .ok (.enter 86 cap) w := by kernel_rfl
theorem enter_partO (cap : Array Value) (w : World) : Sem.run Tryd.prog (callFunc 87 cap) w = .ok (.enter 87 cap) w := by kernel_rfl

/-- what holds till the value's kind is known -/
structure Beg (s : ByteArray) (r N : Nat) (dz : Int) (pos : Nat) (q : Nat) (w : World) : Prop where
  rd : Rd s r q w
  le : q ≤ s.size
  env : EnvU w
  box : w.heap[N]? = some (.cells #[RP r] 72 (0, 0))
  deep : w.heap[N + 1]? = some (.cells #[.int .i64 dz] 3 (0, 0))
  res : w.heap[N + 2]? = some (.cells #[.int .i64 0, .string ⟨#[]⟩, .slice none 0 0, .slice none 0 0, .int .i64 0] 34 (0, 0))
  val : w.heap[N + 3]? = some (.cells #[.int .i64 0, .string ⟨#[]⟩, .slice none 0 0, .slice none 0 0, .int .i64 pos] 34 (0, 0))
  size : N + 4 ≤ w.heap.size

theorem Beg.keep {s : ByteArray} {r N : Nat} {dz : Int} {pos q q' : Nat} {w w' : World} (h : Beg s r N dz pos q w) (hr : r < N) (hu : r ≠ 0 ∧ r ≠ 1) (k : Kx (· = r) w w') (hR : Rd s r q' w') (hq : q' ≤ s.size) : Beg s r N dz pos q' w' where
  rd := hR
  le := hq
  env := h.env.kx k (fun e => hu.1 e.symm) (fun e => hu.2 e.symm)
  box := by rw [k.block N (by have := h.size; omega) (by omega)]; exact h.box
  deep := by rw [k.block (N + 1) (by have := h.size; omega) (by omega)]; exact h.deep
  res := by rw [k.block (N + 2) (by have := h.size; omega) (by omega)]; exact h.res
  val := by rw [k.block (N + 3) (by have := h.size; omega) (by omega)]; exact h.val
  size := by have := h.size; have := k.size; omega

theorem Beg.below {s : ByteArray} {r N : Nat} {dz : Int} {pos q : Nat} {w w' : World} (h : Beg s r N dz pos q w) (hr : r < N) (hu : r ≠ 0 ∧ r ≠ 1) (hb : Below w.heap.size w w') : Beg s r N dz pos q w' :=
  h.keep hr hu (Kx.of_below hb) (h.rd.below hb) h.le

theorem Beg.cells {s : ByteArray} {r N : Nat} {dz : Int} {pos q : Nat} {w : World} (h : Beg s r N dz pos q w) :
    w.cell? ⟨N, 0, none⟩ = some (RP r) ∧ w.cell? ⟨N + 1, 0, none⟩ = some (.int .i64 dz) ∧ w.cell? ⟨N + 3, 0, none⟩ = some (.int .i64 0) ∧ w.cell? ⟨N + 3, 1, none⟩ = some (.string ⟨#[]⟩) ∧ w.cell? ⟨N + 3, 2, none⟩ = some (.slice none 0 0) ∧ w.cell? ⟨N + 3, 3, none⟩ = some (.slice none 0 0) ∧ w.cell? ⟨N + 3, 4, none⟩ = some (.int .i64 pos) ∧
      w.cell? ⟨N + 2, 0, none⟩ = some (.int .i64 0) ∧ w.cell? ⟨N + 2, 1, none⟩ = some (.string ⟨#[]⟩) ∧ w.cell? ⟨N + 2, 2, none⟩ = some (.slice none 0 0) ∧ w.cell? ⟨N + 2, 3, none⟩ = some (.slice none 0 0) ∧ w.cell? ⟨N + 2, 4, none⟩ = some (.int .i64 0) ∧
      (w.frozen? ⟨N + 3, 0, none⟩ = false ∧ w.frozen? ⟨N + 3, 1, none⟩ = false) ∧ (w.frozen? ⟨N + 2, 0, none⟩ = false ∧ w.frozen? ⟨N + 2, 1, none⟩ = false ∧ w.frozen? ⟨N + 2, 2, none⟩ = false ∧ w.frozen? ⟨N + 2, 3, none⟩ = false ∧ w.frozen? ⟨N + 2, 4, none⟩ = false) := by
  refine ⟨by rw [Lib.cell_of_heap h.box]; rfl, by rw [Lib.cell_of_heap h.deep]; rfl, by rw [Lib.cell_of_heap h.val]; rfl, by rw [Lib.cell_of_heap h.val]; rfl, by rw [Lib.cell_of_heap h.val]; rfl, by rw [Lib.cell_of_heap h.val]; rfl, by rw [Lib.cell_of_heap h.val]; rfl,
    by rw [Lib.cell_of_heap h.res]; rfl, by rw [Lib.cell_of_heap h.res]; rfl, by rw [Lib.cell_of_heap h.res]; rfl, by rw [Lib.cell_of_heap h.res]; rfl, by rw [Lib.cell_of_heap h.res]; rfl, ⟨Lib.frozen_of_heap h.val 0, Lib.frozen_of_heap h.val 1⟩, Lib.frozen_of_heap h.res 0, Lib.frozen_of_heap h.res 1, Lib.frozen_of_heap h.res 2, Lib.frozen_of_heap h.res 3, Lib.frozen_of_heap h.res 4⟩

/-- an array or object, still empty -/
theorem Beg.inv {s : ByteArray} {r N : Nat} {dz : Int} {pos q : Nat} {w : World} (h : Beg s r N dz pos q w) (hr : r < N) (hg : 0 < N ∧ 1 < N) (f : Nat) (kind : Int) : INV s r N f dz kind pos ([], []) q (w.setCell ⟨N + 3, 0, none⟩ (.int .i64 kind)) where
  rd := h.rd.keep (Below.heap_setCell _ _ _ _ (by simp; omega))
  le := h.le
  env := h.env.keep (Below.heap_setCell _ _ _ _ (by simp <;> omega)) (Below.heap_setCell _ _ _ _ (by simp <;> omega))
  box := by rw [Below.heap_setCell _ _ _ _ (by simp)]; exact h.box
  deep := by rw [Below.heap_setCell _ _ _ _ (by simp)]; exact h.deep
  res := by rw [Below.heap_setCell _ _ _ _ (by simp)]; exact h.res
  val := ⟨.slice none 0 0, .slice none 0 0, by have := h.val; simp [World.setCell, Array.getElem?_modify, this], World.ownsRow_nil _ _ _ _, [], rfl, World.ownsRow_nil _ _ _ _, fun j h1 h2 => by simp at h1⟩
  size := by simp [World.setCell]; exact h.size
  len := by simp

/-- a value without parts -/
theorem jrep_scal (S : Nat → Prop) (w : World) (f : Nat) (k : Int) (t : List UInt8) (p : Int) : JRep S w (f + 1) [.int .i64 k, .string ⟨t.toArray⟩, .slice none 0 0, .slice none 0 0, .int .i64 p] (.mk k t [] [] p) :=
  ⟨_, _, rfl, .inl ⟨rfl, rfl, none, 0, rfl⟩, [], rfl, .inl ⟨rfl, rfl, none, 0, rfl⟩, fun j h => by simp at h⟩

/-- the world in which value begins -/
theorem beg_start {s : ByteArray} {r p : Nat} {dz : Int} {w : World} (hR : Rd s r p w) (hp : p ≤ s.size) (hU : EnvU w) :
    Beg s r w.heap.size dz p p ((((w.alloc (.cells #[RP r] 72)).alloc (.cells #[.int .i64 dz] 3)).alloc (.cells #[.int .i64 0, .string ⟨#[]⟩, .slice none 0 0, .slice none 0 0, .int .i64 0] 34)).alloc (.cells #[.int .i64 0, .string ⟨#[]⟩, .slice none 0 0, .slice none 0 0, .int .i64 p] 34)) where
  rd := (((hR.alloc _).alloc _).alloc _).alloc _
  le := hp
  env := hU.below (((((Below.refl _ w).alloc (Nat.le_refl _) _).alloc (by simp) _).alloc (by simp <;> omega) _).alloc (by simp <;> omega) _)
  box := by
    rw [Lib.alloc_old _ _ w.heap.size (by simp <;> omega), Lib.alloc_old _ _ w.heap.size (by simp <;> omega), Lib.alloc_old _ _ w.heap.size (by simp)]
    exact heap_alloc_new w _
  deep := by
    rw [Lib.alloc_old _ _ (w.heap.size + 1) (by simp <;> omega), Lib.alloc_old _ _ (w.heap.size + 1) (by simp)]
    have := heap_alloc_new (w.alloc (.cells #[RP r] 72)) (.cells #[.int .i64 dz] 3)
    simpa using this
  res := by
    rw [Lib.alloc_old _ _ (w.heap.size + 2) (by simp)]
    have := heap_alloc_new ((w.alloc (.cells #[RP r] 72)).alloc (.cells #[.int .i64 dz] 3)) (.cells #[.int .i64 0, .string ⟨#[]⟩, .slice none 0 0, .slice none 0 0, .int .i64 0] 34)
    simpa using this
  val := by
    have := heap_alloc_new (((w.alloc (.cells #[RP r] 72)).alloc (.cells #[.int .i64 dz] 3)).alloc (.cells #[.int .i64 0, .string ⟨#[]⟩, .slice none 0 0, .slice none 0 0, .int .i64 0] 34)) (.cells #[.int .i64 0, .string ⟨#[]⟩, .slice none 0 0, .slice none 0 0, .int .i64 p] 34)
    simpa using this
  size := by simp

set_option maxHeartbeats 1000000 in
set_option maxRecDepth 100000 in
theorem partO_any (s : ByteArray) (r N f : Nat) (dz : Int) (hdz : dz + 1 + f = 64) (hdz0 : 0 ≤ dz) (kind : Int) (pos : Nat) (hV : ValC s f) (hr : r < N) (hu : r ≠ 0 ∧ r ≠ 1) (hg : 0 < N ∧ 1 < N) (st0 : JSt) (q0 : Nat) (w0 : World) (hI0 : INV s r N (f + 1) dz kind pos st0 q0 w0) (hs : s.size ≤ 1000000) :
    Calls Tryd.prog 87 #[.pointer (some ⟨N, 0, none⟩), .pointer (some ⟨N + 3, 0, none⟩), .pointer (some ⟨N + 1, 0, none⟩)] w0 fun e w' => StepE s (fun st q w => INV s r N (f + 1) dz kind pos st q w) q0 (stepO s.data.toList (jVal s.data.toList f) st0 q0) e w' ∧ Kx (fun k => k = r ∨ N ≤ k) w0 w' := by
  have hM := member_any s r N f dz hdz hdz0 kind pos hV hr hu hg st0 q0 w0 hI0 hs
  have d0 : w0.cell? ⟨N, 0, none⟩ = some (RP r) := by rw [Lib.cell_of_heap hI0.box]; rfl
  have d1 : w0.cell? ⟨N + 1, 0, none⟩ = some (.int .i64 dz) := by rw [Lib.cell_of_heap hI0.deep]; rfl
  generalize stepO s.data.toList (jVal s.data.toList f) st0 q0 = RR at *
  have HM := Lib.hid hM
  clear hM
  cases RR with
  | error er =>
    obtain ⟨q3, er⟩ := er
    go_enter Tryd.func87, Tryd.ntmps87
    go_wp2_with fail
    refine HM.out.mono ?_
    rintro e w1 ⟨rfl, k1⟩
    go_wp2_with fail
    exact ⟨rfl, rfl, k1⟩
  | ok sq =>
    obtain ⟨st, q⟩ := sq
    go_enter Tryd.func87, Tryd.ntmps87
    go_wp2_with fail
    refine HM.out.mono ?_
    rintro e w1 ⟨⟨rfl, hI, hq⟩, k1⟩
    go_wp2_with fail
    go_end0
    exact ⟨⟨rfl, hI, hq⟩, k1⟩

theorem jDigs_lt (s : ByteArray) (p q : Nat) (h : jDigs s.data.toList p = .ok q) : p < q := by
  unfold jDigs at h
  split at h
  · cases h
  · injection h with h; omega

theorem jNum_lt (s : ByteArray) (p q : Nat) (hp : p ≤ s.size) (h : jNum s.data.toList p = .ok q) : p < q := by
  unfold jNum at h
  have h0 : p ≤ (if jHas s.data.toList p [45] = true then p + 1 else p) := by split <;> omega
  generalize (if jHas s.data.toList p [45] = true then p + 1 else p) = p1 at *
  cases e0 : jNum0 s.data.toList p1 with
  | error e => rw [e0] at h; cases h
  | ok p2 =>
    rw [e0] at h
    have h1 : p1 < p2 := by
      unfold jNum0 at e0
      split at e0
      · injection e0 with e0; omega
      · exact jDigs_lt s _ _ e0
    simp only at h
    cases e1 : jNum1 s.data.toList p2 with
    | error e => rw [e1] at h; cases h
    | ok p3 =>
      rw [e1] at h
      have h2 : p2 ≤ p3 := by
        unfold jNum1 at e1
        split at e1
        · have := jDigs_lt s _ _ e1; omega
        · injection e1 with e1; omega
      simp only at h
      unfold jNum2 at h
      split at h
      · have := jDigs_lt s _ _ h
        split at this <;> omega
      · injection h with h; omega

/-- the stores at the end of a value without parts -/
theorem fin1 {s : ByteArray} {r N q : Nat} {w w2 : World} (hr : r < N) (hR : Rd s r q w2) (K : Kx (fun k => k = r ∨ N ≤ k) w w2) (u0 c0 c1 c2 c3 c4 : Value) :
    Rd s r q (set5 (w2.setCell ⟨N + 3, 0, none⟩ u0) (N + 2) 0 c0 c1 c2 c3 c4) ∧ Kx (fun k => k = r ∨ N ≤ k) w (set5 (w2.setCell ⟨N + 3, 0, none⟩ u0) (N + 2) 0 c0 c1 c2 c3 c4) :=
  ⟨hR.kx (set5_kx (X := fun i => i = N + 2 ∨ i = N + 3) ((Kx.refl _ w2).setCell ⟨N + 3, 0, none⟩ (fun _ => .inr rfl) u0) (N + 2) 0 c0 c1 c2 c3 c4 (.inl rfl)) (by omega),
   set5_kx (K.setCell ⟨N + 3, 0, none⟩ (fun _ => .inr (by simp)) u0) (N + 2) 0 c0 c1 c2 c3 c4 (.inr (by omega))⟩

theorem fin2 {s : ByteArray} {r N q : Nat} {w w2 : World} (hr : r < N) (hR : Rd s r q w2) (K : Kx (fun k => k = r ∨ N ≤ k) w w2) (u0 u1 c0 c1 c2 c3 c4 : Value) :
    Rd s r q (set5 ((w2.setCell ⟨N + 3, 0, none⟩ u0).setCell ⟨N + 3, 1, none⟩ u1) (N + 2) 0 c0 c1 c2 c3 c4) ∧ Kx (fun k => k = r ∨ N ≤ k) w (set5 ((w2.setCell ⟨N + 3, 0, none⟩ u0).setCell ⟨N + 3, 1, none⟩ u1) (N + 2) 0 c0 c1 c2 c3 c4) :=
  ⟨hR.kx (set5_kx (X := fun i => i = N + 2 ∨ i = N + 3) (((Kx.refl _ w2).setCell ⟨N + 3, 0, none⟩ (fun _ => .inr rfl) u0).setCell ⟨N + 3, 1, none⟩ (fun _ => .inr rfl) u1) (N + 2) 0 c0 c1 c2 c3 c4 (.inl rfl)) (by omega),
   set5_kx ((K.setCell ⟨N + 3, 0, none⟩ (fun _ => .inr (by simp)) u0).setCell ⟨N + 3, 1, none⟩ (fun _ => .inr (by simp)) u1) (N + 2) 0 c0 c1 c2 c3 c4 (.inr (by omega))⟩

theorem slice_of_own {w : World} {B : Nat} {e : TypeId} {z : Nat} {v : Value} {n : Nat} {xs : List Value} (h : w.ownsRow B e z v n xs) : ∃ a n' c, v = .slice a n' c := by
  rcases h.2 with ⟨rfl, _⟩ | ⟨g, cap, cur, rfl, _⟩
  · exact ⟨_, _, _, rfl⟩
  · exact ⟨_, _, _, rfl⟩

/-- an array or object that is read to its end, behind the store of the result -/
theorem list_done {s : ByteArray} {r N f : Nat} {dz kind : Int} {pos : Nat} {st : JSt} {q : Nat} {w : World} (h : INV s r N f dz kind pos st q w) :
    ∃ a1 n1 k1 a2 n2 k2, w.heap[N + 3]? = some (.cells #[.int .i64 kind, .string ⟨#[]⟩, .slice a1 n1 k1, .slice a2 n2 k2, .int .i64 pos] 34 (0, 0)) ∧
      ∀ c0 c1 c2 c3 c4, JRep (fun k => N ≤ k) (set5 w (N + 2) 0 c0 c1 c2 c3 c4) (f + 1) [.int .i64 kind, .string ⟨#[]⟩, .slice a1 n1 k1, .slice a2 n2 k2, .int .i64 pos] (.mk kind [] st.1 st.2 pos) := by
  obtain ⟨vn, vk, hv, hn, kcs, hl, hk, hj⟩ := h.val
  obtain ⟨a1, n1, k1, rfl⟩ := slice_of_own hn
  obtain ⟨a2, n2, k2, rfl⟩ := slice_of_own hk
  refine ⟨a1, n1, k1, a2, n2, k2, hv, fun c0 c1 c2 c3 c4 => ?_⟩
  have K : Kx (fun i => i = N + 2) w (set5 w (N + 2) 0 c0 c1 c2 c3 c4) := set5_kx (Kx.refl _ w) (N + 2) 0 c0 c1 c2 c3 c4 rfl
  refine ⟨_, _, rfl, ?_, kcs, hl, ?_, fun j h1 h2 => ?_⟩
  · exact ((RowAt.of_own (World.ownsRowF_of hn)).mono (T := fun k => N + 4 ≤ k) (fun k _ e => (hn.lt k e).1)).kx K (fun k hk e => by omega) |>.mono (fun k _ hk => by omega)
  · exact ((RowAt.of_own (World.ownsRowF_of hk)).mono (T := fun k => N + 4 ≤ k) (fun k _ e => (hk.lt k e).1)).kx K (fun k hk e => by omega) |>.mono (fun k _ hk => by omega)
  · exact ((hj j h1 h2).mono (T := fun k => N + 4 ≤ k) (fun k _ e => e.1)).kx K (fun k hk e => by omega) |>.mono (fun k _ hk => by omega)

theorem fin0 {s : ByteArray} {r N q : Nat} {w w2 : World} (hr : r < N) (hR : Rd s r q w2) (K : Kx (fun k => k = r ∨ N ≤ k) w w2) (c0 c1 c2 c3 c4 : Value) :
    Rd s r q (set5 w2 (N + 2) 0 c0 c1 c2 c3 c4) ∧ Kx (fun k => k = r ∨ N ≤ k) w (set5 w2 (N + 2) 0 c0 c1 c2 c3 c4) :=
  ⟨hR.kx (set5_kx (X := fun i => i = N + 2) (Kx.refl _ w2) (N + 2) 0 c0 c1 c2 c3 c4 rfl) (by omega),
   set5_kx K (N + 2) 0 c0 c1 c2 c3 c4 (.inr (by omega))⟩

theorem kx_next {r N : Nat} {w W W' : World} (h : Kx (fun k => k = r ∨ N ≤ k) w W) (hb : Below W.heap.size W W') : Kx (fun k => k = r ∨ N ≤ k) w W' := h.trans (Kx.of_below hb)
theorem kx_nextr {r N : Nat} {w W W' : World} (h : Kx (fun k => k = r ∨ N ≤ k) w W) (hb : Kx (· = r) W W') : Kx (fun k => k = r ∨ N ≤ k) w W' := h.trans (hb.mono (fun _ _ e => .inl e))
theorem kx_fin {r : Nat} {w W : World} (h : Kx (fun k => k = r ∨ w.heap.size ≤ k) w W) : Kx (· = r) w W := h.mono (fun i hi e => by rcases e with e | e; exact e; omega)
end Go.Proofs.YtghiboknhjnlkaaDoor
