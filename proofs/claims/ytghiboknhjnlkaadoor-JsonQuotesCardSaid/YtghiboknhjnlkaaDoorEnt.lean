/- That class.Entity finds a name's number in the table. -/
import Derived.Test.YtghiboknhjnlkaaDoorMps
import Derived.Test.YtghiboknhjnlkaaDoorProg
set_option linter.unusedVariables false
set_option linter.unusedSimpArgs false
namespace Go.Proofs.YtghiboknhjnlkaaDoor
open Go.RowKit

def entTab : List (List UInt8 × Int) := [
  ([97, 109, 112], 38),
  ([108, 116], 60),
  ([103, 116], 62),
  ([113, 117, 111, 116], 34),
  ([97, 112, 111, 115], 39),
  ([110, 98, 115, 112], 160),
  ([99, 111, 112, 121], 169),
  ([114, 101, 103], 174),
  ([116, 114, 97, 100, 101], 8482),
  ([104, 101, 108, 108, 105, 112], 8230),
  ([109, 100, 97, 115, 104], 8212),
  ([110, 100, 97, 115, 104], 8211),
  ([108, 115, 113, 117, 111], 8216),
  ([114, 115, 113, 117, 111], 8217),
  ([108, 100, 113, 117, 111], 8220),
  ([114, 100, 113, 117, 111], 8221),
  ([108, 97, 113, 117, 111], 171),
  ([114, 97, 113, 117, 111], 187),
  ([100, 101, 103], 176),
  ([112, 108, 117, 115, 109, 110], 177),
  ([116, 105, 109, 101, 115], 215),
  ([100, 105, 118, 105, 100, 101], 247),
  ([102, 114, 97, 99, 49, 50], 189),
  ([115, 101, 99, 116], 167),
  ([112, 97, 114, 97], 182),
  ([109, 105, 100, 100, 111, 116], 183),
  ([98, 117, 108, 108], 8226),
  ([101, 117, 114, 111], 8364),
  ([112, 111, 117, 110, 100], 163),
  ([121, 101, 110], 165),
  ([99, 101, 110, 116], 162),
  ([108, 97, 114, 114], 8592),
  ([114, 97, 114, 114], 8594),
  ([117, 97, 114, 114], 8593),
  ([100, 97, 114, 114], 8595),
  ([97, 117, 109, 108], 228),
  ([111, 117, 109, 108], 246),
  ([117, 117, 109, 108], 252),
  ([65, 117, 109, 108], 196),
  ([79, 117, 109, 108], 214),
  ([85, 117, 109, 108], 220),
  ([115, 122, 108, 105, 103], 223),
  ([101, 97, 99, 117, 116, 101], 233),
  ([101, 103, 114, 97, 118, 101], 232),
  ([99, 99, 101, 100, 105, 108], 231),
  ([110, 116, 105, 108, 100, 101], 241),
  ([97, 108, 112, 104, 97], 945),
  ([98, 101, 116, 97], 946),
  ([112, 105], 960),
  ([105, 110, 102, 105, 110], 8734),
  ([110, 101], 8800),
  ([108, 101], 8804),
  ([103, 101], 8805)]

def entKV : List (ByteArray × Value) := entTab.map fun p => (⟨p.1.toArray⟩, .int .i64 p.2)

def entOf (l : List UInt8) : Option Int := (entTab.find? fun p => l == p.1).map (·.2)

theorem entOf_le (l : List UInt8) (n : Int) (h : entOf l = some n) : 0 ≤ n ∧ n ≤ 1114111 := by
  unfold entOf at h
  obtain ⟨p, hp, rfl⟩ := Option.map_eq_some_iff.1 h
  have hm := List.mem_of_find?_eq_some hp
  have : ∀ p ∈ entTab, 0 ≤ p.2 ∧ p.2 ≤ 1114111 := by decide +kernel
  exact this p hm

theorem seek_ent (s : ByteArray) : ∀ t : List (List UInt8 × Int), seek s (t.map fun p => (⟨p.1.toArray⟩, Value.int .i64 p.2)) = ((t.find? fun p => s.data.toList == p.1).map (·.2)).map (Value.int .i64)
  | [] => rfl
  | (k, n) :: r => by
    simp only [List.map_cons, seek, List.find?_cons]
    have h : (s == (⟨k.toArray⟩ : ByteArray)) = (s.data.toList == k) := by
      cases s with | mk d =>
      show (d == k.toArray) = (d.toList == k)
      cases d
      simp
    rw [h]
    cases s.data.toList == k with
    | true => rfl
    | false => exact seek_ent s r

set_option maxHeartbeats 1000000 in
set_option maxRecDepth 100000 in
theorem entities_any (w : World) :
    Calls Tryd.prog 74 #[] w fun e w' => e = .returned (.map (some w.heap.size)) ∧ w' = w.alloc (mapOf entKV) := by
  have hmm := @run_makeMap Tryd.prog
  go_enter Tryd.func74, Tryd.ntmps74
  go_wp2_with (refine wpList_inserts_n Tryd.underlying91 Tryd.underlying9 1 w.heap.size rfl _ 53 (entTab.map fun p => (⟨p.1.toArray⟩, .const (.int .i64 p.2))) (by kernel_rfl) (heap_alloc_new w _) (by decide +kernel) ?_)
  go_ret
  refine ⟨rfl, ?_⟩
  exact (setIfInBounds_new w _ _).trans rfl

theorem zeroInt (w : World) : (zeroValue 3).run Tryd.prog w = .ok (.int .i64 0) w := by kernel_rfl

set_option maxHeartbeats 1000000 in
set_option maxRecDepth 100000 in
theorem entity_any (s : ByteArray) (w : World) :
    Calls Tryd.prog 41 #[.string s] w fun e w' => e = .returned (.tuple #[.int .i64 ((entOf s.data.toList).getD 0), .bool (entOf s.data.toList).isSome]) ∧ Below w.heap.size w w' := by
  have hl := run_lookup (P := Tryd.prog) (w := w.alloc (mapOf entKV)) (r := w.heap.size) (l := entKV) Tryd.underlying91 Tryd.underlying9 (heap_alloc_new w _) s _ (zeroInt _)
  have hsk : seek s entKV = (entOf s.data.toList).map (Value.int .i64) := seek_ent s entTab
  rw [hsk] at hl
  clear hsk
  generalize entOf s.data.toList = o at *
  have hv : ((o.map (Value.int IntKind.i64)).getD (.int .i64 0)) = .int .i64 (o.getD 0) := by cases o <;> rfl
  have hb : (o.map (Value.int IntKind.i64)).isSome = o.isSome := by cases o <;> rfl
  rw [hv, hb] at hl
  clear hv hb
  generalize o.getD 0 = n at *
  generalize o.isSome = f at *
  go_enter Tryd.func41, Tryd.ntmps41
  go_wp2_with (go_at_call 74; refine (entities_any _).mono ?_; rintro e w' ⟨rfl, rfl⟩)
  go_ret2
  exact ⟨rfl, (Below.refl _ w).alloc (Nat.le_refl _) _⟩
end Go.Proofs.YtghiboknhjnlkaaDoor
