/- Two rows of names are compared by slices.Equal. -/
import Derived.Test.YtghiboknhjnlkaaDoorJNames
set_option linter.unusedVariables false
set_option linter.unusedSimpArgs false
set_option linter.unnecessarySimpa false
namespace Go.Proofs.YtghiboknhjnlkaaDoor
open Go.RowKit

theorem row_cells {S : Nat → Prop} {w : World} {v : Value} {ns : List (List UInt8)} (h : RowAt S w v ns.length (ns.map strV)) (h0 : ns.length ≠ 0) :
    ∃ g o c, v = .slice (some ⟨g, o, none⟩) ns.length c ∧ ∀ j, j < (ns.map bA).length → w.cell? ⟨g, o + j, none⟩ = some (.string ((ns.map bA).getD j ByteArray.empty)) := by
  rcases h with ⟨h1, _⟩ | ⟨g, o, c, rfl, _, _, hc⟩
  · exact absurd h1 h0
  · refine ⟨g, o, c, rfl, fun j hj => ?_⟩
    have hj2 : j < ns.length := by simpa using hj
    have := hc j (strV ns[j]) (by simp [hj2])
    rw [this]
    simp [List.getD_eq_getElem?_getD, hj2, strV, bA]

theorem map_bA_inj : ∀ (a b : List (List UInt8)), a.map bA = b.map bA → a = b
  | [], [], _ => rfl
  | [], _ :: _, h => by simp at h
  | _ :: _, [], h => by simp at h
  | x :: a, y :: b, h => by
    simp only [List.map_cons, List.cons.injEq] at h
    rw [bA_inj h.1, map_bA_inj a b h.2]

theorem namesEq_any {S T : Nat → Prop} {w : World} {v1 v2 : Value} {n1 n2 : List (List UInt8)} (h1 : RowAt S w v1 n1.length (n1.map strV)) (h2 : RowAt T w v2 n2.length (n2.map strV)) (hb1 : n1.length ≤ 9223372036854775807) :
    Calls Tryd.prog 95 #[v1, v2] w fun e w' => e = .returned (.bool (n1 == n2)) ∧ Below w.heap.size w w' := by
  by_cases hl : n1.length = n2.length
  · by_cases h0 : n1.length = 0
    · have e1 : n1 = [] := List.eq_nil_of_length_eq_zero h0
      have e2 : n2 = [] := List.eq_nil_of_length_eq_zero (by omega)
      subst e1
      subst e2
      obtain ⟨a1, c1, rfl⟩ := h1.slice
      obtain ⟨a2, c2, rfl⟩ := h2.slice
      refine (Tryd.slices_Equal_string_empty a1 a2 c1 0 c2 w (by omega)).mono ?_
      rintro e w' ⟨rfl, rfl⟩
      exact ⟨rfl, Below.refl _ _⟩
    · obtain ⟨g1, o1, c1, rfl, hc1⟩ := row_cells h1 h0
      obtain ⟨g2, o2, c2, rfl, hc2⟩ := row_cells h2 (by omega)
      have l1 : (n1.map bA).length = n1.length := List.length_map ..
      have l2 : (n2.map bA).length = n2.length := List.length_map ..
      refine (Tryd.slices_Equal_string g1 o1 n1.length c1 g2 o2 n2.length c2 (n1.map bA) (n2.map bA) w (by omega) (by omega) hb1 (by omega) hc1 hc2).mono ?_
      rintro e w' ⟨rfl, q, rfl⟩
      refine ⟨?_, below_drewN (Below.refl _ _) _⟩
      congr 2
      rw [List.take_of_length_le (by omega), List.take_of_length_le (by omega), Bool.eq_iff_iff, decide_eq_true_iff, beq_iff_eq]
      exact ⟨fun h => map_bA_inj _ _ h, fun h => by rw [h]⟩
  · obtain ⟨a1, c1, rfl⟩ := h1.slice
    obtain ⟨a2, c2, rfl⟩ := h2.slice
    refine (Tryd.slices_Equal_string_lens a1 a2 n1.length c1 n2.length c2 w hl).mono ?_
    rintro e w' ⟨rfl, rfl⟩
    refine ⟨?_, Below.refl _ _⟩
    congr 2
    rw [eq_comm, beq_eq_false_iff_ne]
    intro h
    exact hl (by rw [h])
end Go.Proofs.YtghiboknhjnlkaaDoor
