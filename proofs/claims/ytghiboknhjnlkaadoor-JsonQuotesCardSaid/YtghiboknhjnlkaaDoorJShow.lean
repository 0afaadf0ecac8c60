/- json.show. -/
import Derived.Test.YtghiboknhjnlkaaDoorJSm
import Derived.Test.YtghiboknhjnlkaaDoorJQuote
import Derived.Test.YtghiboknhjnlkaaDoorMps
set_option linter.unusedVariables false
set_option linter.unusedSimpArgs false
set_option linter.unnecessarySimpa false
namespace Go.Proofs.YtghiboknhjnlkaaDoor
open Go.RowKit

abbrev BP (b : Nat) : Value := .pointer (some ⟨b, 0, none⟩)

/-- how show ends -/
def ShowE (N b : Nat) (l : List UInt8) (w : World) (e : Ending) (w' : World) : Prop := e = .returned (.tuple #[]) ∧ Bld N b l w' ∧ BK N b w w'
theorem showE {N b : Nat} {l : List UInt8} {w w' : World} (h : Bld N b l w') (k : BK N b w w') : ShowE N b l w (.returned (.tuple #[])) w' := ⟨rfl, h, k⟩

/-- show's contract, down to so many levels -/
def ShowC (n : Nat) : Prop :=
  ∀ (g : Nat) (S : Nat → Prop) (N b : Nat) (acc : List UInt8) (w : World) (cs : List Value) (V : JV) (dz : Int), dz = n →
    JRep S w g cs V → JSm g V → (∀ k, S k → k < N ∧ k ≠ b) → Bld N b acc w → N ≤ w.heap.size → acc.length + (jShow n V).length ≤ 70368744177664 →
    Calls Tryd.prog 65 #[BP b, .agg cs.toArray, .int .i64 dz] w fun e w' => ShowE N b (acc ++ jShow n V) w e w'

theorem shw5 (n : Nat) (t : List UInt8) (ns : List (List UInt8)) (ks : List JV) (p : Int) : jShow n (.mk 5 t ns ks p) = jQuote t := by cases n <;> (unfold jShow; rfl)
theorem shw4 (n : Nat) (t : List UInt8) (ns : List (List UInt8)) (ks : List JV) (p : Int) : jShow n (.mk 4 t ns ks p) = t := by cases n <;> (unfold jShow; rfl)
theorem shwW (n : Nat) (k : Int) (hk : k ≠ 4 ∧ k ≠ 5 ∧ k ≠ 6 ∧ k ≠ 7) (t : List UInt8) (ns : List (List UInt8)) (ks : List JV) (p : Int) : jShow n (.mk k t ns ks p) = kindWord k := by
  cases n <;> (unfold jShow; rw [if_neg hk.2.2.1, if_neg hk.2.2.2, if_neg hk.2.1, if_neg hk.1])

/-- what show needs of a value's cells -/
abbrev cells5 (k : Int) (t : List UInt8) (a1 : Option Addr) (n1 c1 : Nat) (a2 : Option Addr) (n2 c2 : Nat) (p : Int) : List Value := [.int .i64 k, .string ⟨t.toArray⟩, .slice a1 n1 c1, .slice a2 n2 c2, .int .i64 p]

theorem bk_below {N b : Nat} {w w' : World} (h : Below w.heap.size w w') : BK N b w w' := KB.of_below h
theorem bk_alloc {N b : Nat} {w : World} (o : Obj) : BK N b w (w.alloc o) := (KB.refl _ N b w).alloc o

set_option maxHeartbeats 1000000 in
set_option maxRecDepth 100000 in
theorem show_str (N b : Nat) (acc : List UInt8) (w : World) (t : List UInt8) (a1 : Option Addr) (n1 c1 : Nat) (a2 : Option Addr) (n2 c2 : Nat) (p dz : Int) (ht : t.length ≤ 1000000000000) (hB : Bld N b acc w) (hN : N ≤ w.heap.size) (hl : acc.length + (jQuote t).length ≤ 70368744177664) :
    Calls Tryd.prog 65 #[BP b, .agg (cells5 5 t a1 n1 c1 a2 n2 c2 p).toArray, .int .i64 dz] w fun e w' => ShowE N b (acc ++ jQuote t) w e w' := by
  have HQ := Lib.hid (fun w => jquote_any ⟨t.toArray⟩ w (by simp [ByteArray.size]; omega))
  go_enter Tryd.func65, Tryd.ntmps65
  go_wp2_with fail
  refine (HQ.out _).mono ?_
  rintro e w1 ⟨rfl, b1⟩
  go_wp2_with fail
  refine (writeString N b acc _ _ ((hB.alloc _).below b1) (by simp [ByteArray.size]; omega) (by have := b1.size; simp at this; omega)).mono ?_
  rintro e w2 ⟨rfl, hB2, k2⟩
  go_wp2_with fail
  refine bodyPost_ret (results_none rfl _ _ _) rfl ?_
  exact showE hB2 (((bk_alloc _).trans (bk_below b1)).trans k2)

set_option maxHeartbeats 1000000 in
set_option maxRecDepth 100000 in
theorem show_num (N b : Nat) (acc : List UInt8) (w : World) (t : List UInt8) (a1 : Option Addr) (n1 c1 : Nat) (a2 : Option Addr) (n2 c2 : Nat) (p dz : Int) (hB : Bld N b acc w) (hN : N ≤ w.heap.size) (hl : acc.length + t.length ≤ 70368744177664) :
    Calls Tryd.prog 65 #[BP b, .agg (cells5 4 t a1 n1 c1 a2 n2 c2 p).toArray, .int .i64 dz] w fun e w' => ShowE N b (acc ++ t) w e w' := by
  go_enter Tryd.func65, Tryd.ntmps65
  go_wp2_with fail
  refine (writeString N b acc _ _ (hB.alloc _) (by simp [ByteArray.size]; omega) (by simp; omega)).mono ?_
  rintro e w2 ⟨rfl, hB2, k2⟩
  go_wp2_with fail
  refine bodyPost_ret (results_none rfl _ _ _) rfl ?_
  exact showE hB2 ((bk_alloc _).trans k2)

def kwEnts : List (Int × Value) := [(1, .string ⟨#[110, 117, 108, 108]⟩), (2, .string ⟨#[116, 114, 117, 101]⟩), (3, .string ⟨#[102, 97, 108, 115, 101]⟩)]
theorem kw_seek (k : Int) : (seekI k kwEnts).getD (.string ⟨#[]⟩) = .string ⟨(kindWord k).toArray⟩ := by
  unfold kwEnts kindWord seekI seekI seekI seekI
  by_cases h1 : k = 1
  · subst h1; rfl
  by_cases h2 : k = 2
  · subst h2; rfl
  by_cases h3 : k = 3
  · subst h3; rfl
  · have e1 : (k == 1) = false := by rw [beq_eq_false_iff_ne]; exact h1
    have e2 : (k == 2) = false := by rw [beq_eq_false_iff_ne]; exact h2
    have e3 : (k == 3) = false := by rw [beq_eq_false_iff_ne]; exact h3
    rw [e1, e2, e3]
    simp [h1, h2, h3]
theorem zeroStr (w : World) : (zeroValue 9).run Tryd.prog w = .ok (.string ⟨#[]⟩) w := by kernel_rfl
theorem heap_alloc_new2 (w : World) (o o' : Obj) : ((w.alloc o).alloc o').heap[w.heap.size + 1]? = some o' := by
  have := heap_alloc_new (w.alloc o) o'
  rwa [show (w.alloc o).heap.size = w.heap.size + 1 by simp] at this
theorem setIfInBounds_new2 (w : World) (o o1 o' : Obj) : { ((w.alloc o).alloc o1) with heap := ((w.alloc o).alloc o1).heap.setIfInBounds (w.heap.size + 1) o' } = (w.alloc o).alloc o' := by
  have := setIfInBounds_new (w.alloc o) o1 o'
  rwa [show (w.alloc o).heap.size = w.heap.size + 1 by simp] at this
theorem kw_len (k : Int) : (kindWord k).length ≤ 5 := by
  unfold kindWord
  repeat' split
  all_goals simp

set_option maxHeartbeats 1000000 in
set_option maxRecDepth 100000 in
theorem show_word (N b : Nat) (acc : List UInt8) (w : World) (k : Int) (hk : k ≠ 4 ∧ k ≠ 5 ∧ k ≠ 6 ∧ k ≠ 7) (t : List UInt8) (a1 : Option Addr) (n1 c1 : Nat) (a2 : Option Addr) (n2 c2 : Nat) (p dz : Int) (hB : Bld N b acc w) (hN : N ≤ w.heap.size) (hl : acc.length ≤ 70368744177664) :
    Calls Tryd.prog 65 #[BP b, .agg (cells5 k t a1 n1 c1 a2 n2 c2 p).toArray, .int .i64 dz] w fun e w' => ShowE N b (acc ++ kindWord k) w e w' := by
  have e4 : (k == 4) = false := by rw [beq_eq_false_iff_ne]; exact hk.1
  have e5 : (k == 5) = false := by rw [beq_eq_false_iff_ne]; exact hk.2.1
  have e6 : (k == 6) = false := by rw [beq_eq_false_iff_ne]; exact hk.2.2.1
  have e7 : (k == 7) = false := by rw [beq_eq_false_iff_ne]; exact hk.2.2.2
  have hmm := @run_makeMap Tryd.prog
  have hl := run_lookup1I (P := Tryd.prog) (w := (w.alloc (.cells (cells5 k t a1 n1 c1 a2 n2 c2 p).toArray 34)).alloc (mapOfI kwEnts)) (r := w.heap.size + 1) (l := kwEnts) Tryd.underlying104 Tryd.underlying3 (heap_alloc_new2 _ _ _) k _ (zeroStr _)
  rw [kw_seek] at hl
  have hkl := kw_len k
  unfold kwEnts at hl
  generalize kindWord k = kw at *
  go_enter Tryd.func65, Tryd.ntmps65
  go_wp2_with (refine wpList_inserts_nI Tryd.underlying104 Tryd.underlying3 12 (w.heap.size + 1) rfl _ 3 [(1, .const (.string ⟨#[110, 117, 108, 108]⟩)), (2, .const (.string ⟨#[116, 114, 117, 101]⟩)), (3, .const (.string ⟨#[102, 97, 108, 115, 101]⟩))] (by kernel_rfl) (heap_alloc_new2 _ _ _) (by decide +kernel) ?_; rw [setIfInBounds_new2])
  refine (writeString N b acc _ _ ((hB.alloc _).alloc _) (by simp [ByteArray.size]; omega) (by simp; omega)).mono ?_
  rintro e w2 ⟨rfl, hB2, k2⟩
  go_wp2_with fail
  refine bodyPost_ret (results_none rfl _ _ _) rfl ?_
  exact showE hB2 (((bk_alloc _).alloc _).trans k2)
end Go.Proofs.YtghiboknhjnlkaaDoor
