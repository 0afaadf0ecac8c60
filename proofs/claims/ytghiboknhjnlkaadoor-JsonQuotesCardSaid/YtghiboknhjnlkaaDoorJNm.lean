/- The names of a JSON object so far: is one among them; one more. Two rows of names are compared by slices.Equal. -/
import Derived.Test.YtghiboknhjnlkaaDoorJLs
import Derived.Deep.AppendLies
set_option linter.unusedVariables false
set_option linter.unusedSimpArgs false
set_option linter.unnecessarySimpa false
namespace Go.Proofs.YtghiboknhjnlkaaDoor
open Go.RowKit

theorem infoString : (Tryd.prog.info? 9).map (fun i => (i.zero, i.size, i.bytes)) = some (some (.string ⟨#[]⟩), 1, 16) := by kernel_rfl

def bA (l : List UInt8) : ByteArray := ⟨l.toArray⟩

theorem bA_inj {a b : List UInt8} (h : bA a = bA b) : a = b := by
  have := congrArg (fun x : ByteArray => x.data.toList) h
  simpa [bA] using this

theorem names_any {B : Nat} {vn : Value} {ns : List (List UInt8)} {w : World} (h : w.ownsRow B 9 1 vn ns.length (ns.map strV)) (hb : ns.length ≤ 9223372036854775807) (x : List UInt8) :
    Calls Tryd.prog 105 #[vn, .string ⟨x.toArray⟩] w fun e w' => e = .returned (.bool (ns.contains x)) ∧ w' = w := by
  rcases h.2 with ⟨rfl, h0⟩ | ⟨g, cap, cur, rfl, hb1, hg, h1, h2, h3, h4⟩
  · have : ns = [] := List.eq_nil_of_length_eq_zero h0
    subst this
    exact Tryd.slices_Contains_string_empty none 0 ⟨x.toArray⟩ w
  · have hz : (ns.map bA).length = ns.length := List.length_map ..
    have hc : ∀ j, j < (ns.map bA).length → w.cell? ⟨g, 0 + j, none⟩ = some (.string ((ns.map bA).getD j ByteArray.empty)) := by
      intro j hj
      rw [hz] at hj
      rw [Nat.zero_add, Lib.cell_of_heap hg]
      have hj2 : (ns.map strV)[j]? = some (strV ns[j]) := by simp [hj]
      rw [← h4, Nat.mul_one, List.getElem?_take_of_lt hj] at hj2
      rw [← Array.getElem?_toList, hj2]
      simp [List.getD_eq_getElem?_getD, hj, strV, bA]
    refine (Tryd.slices_Contains_string g 0 ns.length cap (ns.map bA) ⟨x.toArray⟩ w (by omega) hb hc).mono ?_
    rintro e w' ⟨rfl, rfl⟩
    refine ⟨?_, rfl⟩
    congr 2
    rw [List.take_of_length_le (by omega), Bool.eq_iff_iff, Lib.containsS_iff, List.mem_map]
    constructor
    · rintro ⟨a, ha, e⟩
      have := bA_inj (a := a) (b := x) e
      subst this
      simpa using ha
    · intro hx
      exact ⟨x, by simpa using hx, rfl⟩

theorem news1 (w : World) (nm : List UInt8) (t : TypeId) : ∀ (j : Nat) (u : Value), ([strV nm] : List Value)[j]? = some u → (w.alloc (.cells #[.string ⟨nm.toArray⟩] t)).cell? ((⟨w.heap.size, 0, none⟩ : Addr).add j) = some u := by
  intro j u hu
  have hadd : (⟨w.heap.size, 0, none⟩ : Addr).add j = ⟨w.heap.size, j, none⟩ := by simp [Addr.add]; omega
  rw [hadd, Lib.cell_of_heap (heap_alloc_new w _)]
  match j, hu with
  | 0, hu => simpa [strV] using hu

theorem one1 (nm : List UInt8) : ∀ u ∈ ([strV nm] : List Value), u.oneCell' = true := by
  intro u hu
  obtain rfl : u = strV nm := by simpa using hu
  rfl

/-- one more name -/
theorem fin_names {s : ByteArray} {r N f : Nat} {dz kind : Int} {pos : Nat} {st : JSt} {q : Nat} {w w1 : World} {vn : Value} {nm : List UInt8} {g cap H : Nat} {o : Obj}
    (hr : r < N) (hu : r ≠ 0 ∧ r ≠ 1) (hgg : 0 < N ∧ 1 < N) (hI : INV s r N f dz kind pos st q w) (hlt : st.1.length < q)
    (hvn : ∃ vk, w.heap[N + 3]? = some (.cells #[.int .i64 kind, .string ⟨#[]⟩, vn, vk, .int .i64 pos] 34 (0, 0)))
    (hown : w1.ownsRow (N + 4) 9 1 (.slice (some ⟨g, 0, none⟩) (st.1.length + 1) cap) (st.1.length + 1) (st.1.map strV ++ [strV nm]))
    (hgrow : World.grownBy (w.alloc o) w1 vn.ownBlock) (hat : vn.ownBlock = some g ∨ g = H) (hH : w.heap.size ≤ H) :
    INV s r N f dz kind pos (st.1 ++ [nm], st.2) q (w1.setCell ⟨N + 3, 2, none⟩ (.slice (some ⟨g, 0, none⟩) (st.1.length + 1) cap)) ∧ Kx (fun k => k = r ∨ N ≤ k) w (w1.setCell ⟨N + 3, 2, none⟩ (.slice (some ⟨g, 0, none⟩) (st.1.length + 1) cap)) := by
  obtain ⟨vk', hv'⟩ := hvn
  obtain ⟨hrd, hle, henv, hbox, hdeep, ⟨vn2, vk, hvb, hn, kcs, hl, hk, hj⟩, hsz, hlen, hres⟩ := hI
  have hee : vn2 = vn ∧ vk = vk' := by
    rw [hvb] at hv'
    injection hv' with hv'
    injection hv' with hv' _ _
    injection hv' with hv'
    simp at hv'
    exact hv'
  obtain ⟨rfl, rfl⟩ := hee
  have hg4 : N + 4 ≤ g := (hown.lt g rfl).1
  have hvnB : ∀ i, vn2.ownBlock = some i → N + 4 ≤ i := fun i h => (hn.lt i h).1
  have k1 : Kx (fun i => vn2.ownBlock = some i) w w1 := ((Kx.refl _ w).alloc o).grown hgrow (fun g h _ => h)
  have k2 : Kx (fun i => i = N + 3 ∨ vn2.ownBlock = some i) w (w1.setCell ⟨N + 3, 2, none⟩ (.slice (some ⟨g, 0, none⟩) (st.1.length + 1) cap)) := (k1.mono (fun _ _ h => .inr h)).setCell ⟨N + 3, 2, none⟩ (fun _ => .inl rfl) _
  have K : Kx (fun k => k = r ∨ N ≤ k) w (w1.setCell ⟨N + 3, 2, none⟩ (.slice (some ⟨g, 0, none⟩) (st.1.length + 1) cap)) := k2.mono (fun i _ h => by rcases h with h | h; omega; have := hvnB i h; omega)
  have e3 : w1.heap[N + 3]? = some (.cells #[.int .i64 kind, .string ⟨#[]⟩, vn2, vk, .int .i64 pos] 34 (0, 0)) := by
    rw [k1.block (N + 3) (Array.getElem?_eq_some_iff.1 hvb).1 (fun h => by have := hvnB _ h; omega)]; exact hvb
  have hkB : vk.ownBlock = none ∨ ∀ i, vk.ownBlock = some i → i ≠ N + 3 ∧ vn2.ownBlock ≠ some i := .inr fun i h => ⟨by have := (hk.lt i h).1; omega, fun h2 => ownBlock_ne hn hk (by decide) i h2 h⟩
  have hkW : (w1.setCell ⟨N + 3, 2, none⟩ (.slice (some ⟨g, 0, none⟩) (st.1.length + 1) cap)).ownsRow (N + 4) 34 5 vk st.2.length kcs.flatten := by
    refine ⟨hk.1, ?_⟩
    rcases hk.2 with h | ⟨g', cap', cur, rfl, hb, hg', rest⟩
    · exact .inl h
    · refine .inr ⟨g', cap', cur, rfl, hb, ?_, rest⟩
      rw [k2.block g' (Array.getElem?_eq_some_iff.1 hg').1 (by rintro (h | h); omega; exact ownBlock_ne hn hk (by decide) g' h rfl)]
      exact hg'
  have hnW := own_other hown (N + 3) 2 (.slice (some ⟨g, 0, none⟩) (st.1.length + 1) cap) (by omega)
  refine ⟨⟨hrd.kx k2 (by rintro (h | h); omega; have := hvnB _ h; omega), hle, henv.kx K (by rintro (h | h); exact hu.1 h.symm; omega) (by rintro (h | h); exact hu.2 h.symm; omega), ?_, ?_, ?_, by have := K.size; omega, by simp only [List.length_append, List.length_cons, List.length_nil]; omega, by rw [k2.block (N + 2) (Array.getElem?_eq_some_iff.1 hres).1 (by rintro (h | h); omega; have := hvnB _ h; omega)]; exact hres⟩, K⟩
  · rw [k2.block N (Array.getElem?_eq_some_iff.1 hbox).1 (by rintro (h | h); omega; have := hvnB _ h; omega)]; exact hbox
  · rw [k2.block (N + 1) (Array.getElem?_eq_some_iff.1 hdeep).1 (by rintro (h | h); omega; have := hvnB _ h; omega)]; exact hdeep
  · refine ⟨.slice (some ⟨g, 0, none⟩) (st.1.length + 1) cap, vk, ?_, ?_, kcs, hl, hkW, ?_⟩
    · show (w1.setCell ⟨N + 3, 2, none⟩ _).heap[N + 3]? = some (.cells #[.int .i64 kind, .string ⟨#[]⟩, .slice (some ⟨g, 0, none⟩) (st.1.length + 1) cap, vk, .int .i64 pos] 34 (0, 0))
      simp [World.setCell, Array.getElem?_modify, e3]
    · simp only [List.length_append, List.length_cons, List.length_nil, List.map_append, List.map_cons, List.map_nil]
      exact hnW
    · intro j h1 h2
      have a1 : JRep (fun k => (N + 4 ≤ k ∧ vk.ownBlock ≠ some k ∧ g ≠ k) ∧ vn2.ownBlock ≠ some k) w f kcs[j] st.2[j] := (hj j h1 h2).mono (fun i hi h => ⟨⟨h.1, h.2.1, by
        rintro rfl
        rcases hat with h4 | h4
        · exact h.2.2 h4
        · omega⟩, h.2.2⟩)
      have a2 := a1.kx k2 (fun i h => by rintro (h5 | h5); omega; exact h.2 h5)
      exact a2.mono (fun i _ h => ⟨h.1.1, h.1.2.1, fun h5 => h.1.2.2 (by simpa [Value.ownBlock] using h5)⟩)
end Go.Proofs.YtghiboknhjnlkaaDoor

namespace Go.Proofs.YtghiboknhjnlkaaDoor
open Go.RowKit

theorem row_cells {S : Nat → Prop} {w : World} {v : Value} {ns : List (List UInt8)} (h : RowAt S w v ns.length (ns.map strV)) (h0 : ns.length ≠ 0) :
    ∃ g o c, v = .slice (some ⟨g, o, none⟩) ns.length c ∧ ∀ j, j < (ns.map bA).length → w.cell? ⟨g, o + j, none⟩ = some (.string ((ns.map bA).getD j ByteArray.empty)) := by
  rcases h with ⟨h1, _⟩ | ⟨g, o, c, rfl, _, _, hc⟩
  · exact absurd h1 h0
  · refine ⟨g, o, c, rfl, fun j hj => ?_⟩
    have hj2 : j < ns.length := by simpa using hj
    have := hc j (strV ns[j]) (by simp [hj2])
    rw [this]
    simp [List.getD_eq_getElem?_getD, hj2, strV, bA]

theorem map_bA_inj : ∀ (a b : List (List UInt8)), a.map bA = b.map bA → a = b
  | [], [], _ => rfl
  | [], _ :: _, h => by simp at h
  | _ :: _, [], h => by simp at h
  | x :: a, y :: b, h => by
    simp only [List.map_cons, List.cons.injEq] at h
    rw [bA_inj h.1, map_bA_inj a b h.2]

theorem namesEq_any {S T : Nat → Prop} {w : World} {v1 v2 : Value} {n1 n2 : List (List UInt8)} (h1 : RowAt S w v1 n1.length (n1.map strV)) (h2 : RowAt T w v2 n2.length (n2.map strV)) (hb1 : n1.length ≤ 9223372036854775807) :
    Calls Tryd.prog 95 #[v1, v2] w fun e w' => e = .returned (.bool (n1 == n2)) ∧ Below w.heap.size w w' := by
  by_cases hl : n1.length = n2.length
  · by_cases h0 : n1.length = 0
    · have e1 : n1 = [] := List.eq_nil_of_length_eq_zero h0
      have e2 : n2 = [] := List.eq_nil_of_length_eq_zero (by omega)
      subst e1
      subst e2
      obtain ⟨a1, c1, rfl⟩ := h1.slice
      obtain ⟨a2, c2, rfl⟩ := h2.slice
      refine (Tryd.slices_Equal_string_empty a1 a2 c1 0 c2 w (by omega)).mono ?_
      rintro e w' ⟨rfl, rfl⟩
      exact ⟨rfl, Below.refl _ _⟩
    · obtain ⟨g1, o1, c1, rfl, hc1⟩ := row_cells h1 h0
      obtain ⟨g2, o2, c2, rfl, hc2⟩ := row_cells h2 (by omega)
      have l1 : (n1.map bA).length = n1.length := List.length_map ..
      have l2 : (n2.map bA).length = n2.length := List.length_map ..
      refine (Tryd.slices_Equal_string g1 o1 n1.length c1 g2 o2 n2.length c2 (n1.map bA) (n2.map bA) w (by omega) (by omega) hb1 (by omega) hc1 hc2).mono ?_
      rintro e w' ⟨rfl, q, rfl⟩
      refine ⟨?_, below_drewN (Below.refl _ _) _⟩
      congr 2
      rw [List.take_of_length_le (by omega), List.take_of_length_le (by omega), Bool.eq_iff_iff, decide_eq_true_iff, beq_iff_eq]
      exact ⟨fun h => map_bA_inj _ _ h, fun h => by rw [h]⟩
  · obtain ⟨a1, c1, rfl⟩ := h1.slice
    obtain ⟨a2, c2, rfl⟩ := h2.slice
    refine (Tryd.slices_Equal_string_lens a1 a2 n1.length c1 n2.length c2 w hl).mono ?_
    rintro e w' ⟨rfl, rfl⟩
    refine ⟨?_, Below.refl _ _⟩
    congr 2
    rw [eq_comm, beq_eq_false_iff_ne]
    intro h
    exact hl (by rw [h])
end Go.Proofs.YtghiboknhjnlkaaDoor
