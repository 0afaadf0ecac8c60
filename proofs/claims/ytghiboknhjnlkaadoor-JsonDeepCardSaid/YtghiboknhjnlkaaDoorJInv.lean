/- What holds while json reads an array or an object. -/
import Derived.Test.YtghiboknhjnlkaaDoorJList
set_option linter.unusedVariables false
set_option linter.unusedSimpArgs false
set_option linter.unnecessarySimpa false
namespace Go.Proofs.YtghiboknhjnlkaaDoor
open Go.RowKit

/-- the value in block vb: its kind and place, the names and kids so far; their rows lie from block B on -/
def VSt (vb B f : Nat) (kind : Int) (pos : Nat) (st : JSt) (w : World) : Prop :=
  ∃ vn vk, w.heap[vb]? = some (.cells #[.int .i64 kind, .string ⟨#[]⟩, vn, vk, .int .i64 pos] 34 (0, 0)) ∧ w.ownsRow B 9 1 vn st.1.length (st.1.map strV) ∧
    ∃ kcs : List (List Value), kcs.length = st.2.length ∧ w.ownsRow B 34 5 vk st.2.length kcs.flatten ∧
      ∀ j (h : j < kcs.length) (h2 : j < st.2.length), JRep (fun k => B ≤ k ∧ vk.ownBlock ≠ some k ∧ vn.ownBlock ≠ some k) w f kcs[j] st.2[j]

theorem ownsRow_keep {w w' : World} {base : Nat} {e : TypeId} {z : Nat} {v : Value} {n : Nat} {xs : List Value} (h : w.ownsRow base e z v n xs) (hk : ∀ k, k < w.heap.size → base ≤ k → w'.heap[k]? = w.heap[k]?) : w'.ownsRow base e z v n xs := by
  refine ⟨h.1, ?_⟩
  rcases h.2 with hn | ⟨g, cap, cur, rfl, hb, hg, rest⟩
  · exact .inl hn
  · exact .inr ⟨g, cap, cur, rfl, hb, by rw [hk g (Array.getElem?_eq_some_iff.1 hg).1 hb]; exact hg, rest⟩

theorem VSt.kx {vb B f : Nat} {kind : Int} {pos : Nat} {st : JSt} {X : Nat → Prop} {w w' : World} (h : VSt vb B f kind pos st w) (k : Kx X w w') (h1 : ¬ X vb) (h2 : ∀ i, X i → i < B) : VSt vb B f kind pos st w' := by
  obtain ⟨vn, vk, hv, hn, kcs, hl, hk, hj⟩ := h
  have hkk : ∀ i, i < w.heap.size → B ≤ i → w'.heap[i]? = w.heap[i]? := fun i hi hb => k.block i hi (fun hx => by have := h2 i hx; omega)
  refine ⟨vn, vk, ?_, ownsRow_keep hn hkk, kcs, hl, ownsRow_keep hk hkk, fun j hh hh2 => (hj j hh hh2).kx k (fun i hi hx => by have := h2 i hx; omega)⟩
  rw [k.block vb (Array.getElem?_eq_some_iff.1 hv).1 h1]
  exact hv

/-- what holds between two of its parts; N: the first block of the call that reads it -/
structure INV (s : ByteArray) (r N f : Nat) (dz kind : Int) (pos : Nat) (st : JSt) (q : Nat) (w : World) : Prop where
  rd : Rd s r q w
  le : q ≤ s.size
  env : EnvU w
  box : w.heap[N]? = some (.cells #[RP r] 72 (0, 0))
  deep : w.heap[N + 1]? = some (.cells #[.int .i64 dz] 3 (0, 0))
  val : VSt (N + 3) (N + 4) f kind pos st w
  size : N + 4 ≤ w.heap.size
  len : st.1.length ≤ q ∧ st.2.length ≤ q
  res : w.heap[N + 2]? = some (.cells #[.int .i64 0, .string ⟨#[]⟩, .slice none 0 0, .slice none 0 0, .int .i64 0] 34 (0, 0))

theorem INV.keep {s : ByteArray} {r N f : Nat} {dz kind : Int} {pos : Nat} {st : JSt} {q q' : Nat} {w w' : World} (h : INV s r N f dz kind pos st q w) (hr : r < N) (hu : r ≠ 0 ∧ r ≠ 1) (k : Kx (· = r) w w') (hR : Rd s r q' w') (hqq : q ≤ q') (hq : q' ≤ s.size) : INV s r N f dz kind pos st q' w' where
  rd := hR
  le := hq
  env := h.env.kx k (fun e => hu.1 e.symm) (fun e => hu.2 e.symm)
  box := by rw [k.block N (by have := h.size; omega) (by omega)]; exact h.box
  deep := by rw [k.block (N + 1) (by have := h.size; omega) (by omega)]; exact h.deep
  val := h.val.kx k (by omega) (by omega)
  size := by have := h.size; have := k.size; omega
  len := by have := h.len; omega
  res := by rw [k.block (N + 2) (by have := h.size; omega) (by omega)]; exact h.res

/-- how value ends; the new rows lie from block H on -/
def ValE (s : ByteArray) (r f p H : Nat) (R : Except JErr (JV × Nat)) (e : Ending) (w' : World) : Prop :=
  match R with
  | .ok (J, q) => ∃ cs : List Value, e = .returned (.agg cs.toArray) ∧ JRep (fun k => H ≤ k) w' (f + 1) cs J ∧ Rd s r q w' ∧ p < q ∧ q ≤ s.size
  | .error (q, er) => e = Wr q er

/-- value's contract, within so many levels more -/
def ValC (s : ByteArray) (f : Nat) : Prop :=
  ∀ (dz : Int), dz + f = 64 → 0 ≤ dz → ∀ r p w, Rd s r p w → p ≤ s.size → EnvU w → (r ≠ 0 ∧ r ≠ 1) →
    Calls Tryd.prog 59 #[RP r, .int .i64 dz] w fun e w' => ValE s r f p w.heap.size (jVal s.data.toList f p) e w' ∧ Kx (· = r) w w'

theorem jrep_cells {S : Nat → Prop} {w : World} {f : Nat} {cs : List Value} {J : JV} (h : JRep S w f cs J) : ∃ k t vn vk p, cs = [.int .i64 k, .string t, vn, vk, .int .i64 p] ∧ (∃ a c n, vn = .slice a n c) ∧ ∃ a c n, vk = .slice a n c := by
  cases f with
  | zero => exact h.elim
  | succ f =>
    cases J with
    | mk k t ns ks p =>
      obtain ⟨vn, vk, rfl, h1, kcs, h2, h3, h4⟩ := h
      obtain ⟨a, c, h5⟩ := h1.slice
      obtain ⟨a', c', h6⟩ := h3.slice
      exact ⟨_, _, vn, vk, _, rfl, ⟨a, c, _, h5⟩, ⟨a', c', _, h6⟩⟩
end Go.Proofs.YtghiboknhjnlkaaDoor
