/- How a JSON value lies in memory. No program. -/
import Derived.Test.YtghiboknhjnlkaaDoorKx
import Derived.Test.YtghiboknhjnlkaaDoorJsonP
set_option linter.unusedVariables false
set_option linter.unusedSimpArgs false
set_option linter.unnecessarySimpa false
namespace Go.Proofs.YtghiboknhjnlkaaDoor
open Go.RowKit

def strV (l : List UInt8) : Value := .string ⟨l.toArray⟩

/-- these five cells are a JSON value of so many levels at most; all its rows lie in blocks of S -/
def JRep (S : Nat → Prop) (w : World) : Nat → List Value → JV → Prop
  | 0, _, _ => False
  | f + 1, cs, .mk k t ns ks p =>
    ∃ vn vk, cs = [.int .i64 k, strV t, vn, vk, .int .i64 p] ∧ RowAt S w vn ns.length (ns.map strV) ∧
      ∃ kcs : List (List Value), kcs.length = ks.length ∧ RowAt S w vk ks.length kcs.flatten ∧ ∀ j (h : j < kcs.length) (h2 : j < ks.length), JRep S w f kcs[j] ks[j]

theorem JRep.keep {S : Nat → Prop} {w w' : World} (hs : w.heap.size ≤ w'.heap.size) (hk : ∀ k, k < w.heap.size → S k → w'.heap[k]? = w.heap[k]?) : ∀ {f : Nat} {cs : List Value} {J : JV}, JRep S w f cs J → JRep S w' f cs J
  | 0, _, _, h => h
  | f + 1, cs, .mk k t ns ks p, h => by
    obtain ⟨vn, vk, rfl, h1, kcs, h2, h3, h4⟩ := h
    exact ⟨vn, vk, rfl, h1.keep hs hk, kcs, h2, h3.keep hs hk, fun j hj hj2 => (h4 j hj hj2).keep hs hk⟩

theorem JRep.kx {S X : Nat → Prop} {w w' : World} {f : Nat} {cs : List Value} {J : JV} (h : JRep S w f cs J) (hk : Kx X w w') (hSX : ∀ k, S k → ¬ X k) : JRep S w' f cs J :=
  h.keep hk.size fun k hlt hs => hk.block k hlt (hSX k hs)

theorem JRep.mono {S T : Nat → Prop} {w : World} (hST : ∀ k, k < w.heap.size → S k → T k) : ∀ {f : Nat} {cs : List Value} {J : JV}, JRep S w f cs J → JRep T w f cs J
  | 0, _, _, h => h
  | f + 1, cs, .mk k t ns ks p, h => by
    obtain ⟨vn, vk, rfl, h1, kcs, h2, h3, h4⟩ := h
    exact ⟨vn, vk, rfl, h1.mono hST, kcs, h2, h3.mono hST, fun j hj hj2 => (h4 j hj hj2).mono hST⟩

/-- more levels -/
theorem JRep.more {S : Nat → Prop} {w : World} : ∀ {f g : Nat} {cs : List Value} {J : JV}, f ≤ g → JRep S w f cs J → JRep S w g cs J
  | 0, _, _, _, _, h => h.elim
  | f + 1, 0, _, _, hg, _ => by omega
  | f + 1, g + 1, cs, .mk k t ns ks p, hg, h => by
    obtain ⟨vn, vk, rfl, h1, kcs, h2, h3, h4⟩ := h
    exact ⟨vn, vk, rfl, h1, kcs, h2, h3, fun j hj hj2 => (h4 j hj hj2).more (by omega)⟩

theorem JRep.len {S : Nat → Prop} {w : World} : ∀ {f : Nat} {cs : List Value} {J : JV}, JRep S w f cs J → cs.length = 5
  | 0, _, _, h => h.elim
  | f + 1, cs, .mk k t ns ks p, h => by
    obtain ⟨vn, vk, rfl, _⟩ := h
    rfl

theorem flatten_len5 : ∀ (kcs : List (List Value)), (∀ c ∈ kcs, c.length = 5) → kcs.flatten.length = 5 * kcs.length
  | [], _ => rfl
  | c :: kcs, h => by
    rw [List.flatten_cons, List.length_append, flatten_len5 kcs (fun d hd => h d (List.mem_cons_of_mem _ hd)), h c List.mem_cons_self, List.length_cons]
    omega

theorem flatten_at : ∀ (kcs : List (List Value)), (∀ c ∈ kcs, c.length = 5) → ∀ j (hj : j < kcs.length) i, i < 5 → kcs.flatten[5 * j + i]? = kcs[j][i]?
  | [], _, j, hj, _, _ => by simp at hj
  | c :: kcs, h, 0, hj, i, hi => by
    rw [List.flatten_cons, List.getElem?_append_left (by rw [h c List.mem_cons_self]; omega)]
    simp
  | c :: kcs, h, j + 1, hj, i, hi => by
    have hc := h c List.mem_cons_self
    rw [List.flatten_cons, List.getElem?_append_right (by rw [hc]; omega), hc, show 5 * (j + 1) + i - 5 = 5 * j + i by omega]
    simpa using flatten_at kcs (fun d hd => h d (List.mem_cons_of_mem _ hd)) j (by simpa using hj) i hi
end Go.Proofs.YtghiboknhjnlkaaDoor
