/- json.show at no level more, and at all levels. -/
import Derived.Test.YtghiboknhjnlkaaDoorJShowO
set_option linter.unusedVariables false
set_option linter.unusedSimpArgs false
set_option linter.unnecessarySimpa false
namespace Go.Proofs.YtghiboknhjnlkaaDoor
open Go.RowKit

set_option maxHeartbeats 1000000 in
set_option maxRecDepth 100000 in
theorem show_arrZ (g : Nat) (S : Nat → Prop) (N b : Nat) (acc : List UInt8) (w : World) (t : List UInt8) (ks : List JV) (p dz : Int) (hdz : dz = 0) (a1 : Option Addr) (n1 c1 : Nat) (a2 : Option Addr) (c2 : Nat) (kcs : List (List Value))
    (hl : kcs.length = ks.length) (hk : RowAt S w (.slice a2 ks.length c2) ks.length kcs.flatten) (hj : ∀ j (h : j < kcs.length) (h2 : j < ks.length), JRep S w g kcs[j] ks[j]) (hkl : ks.length ≤ 1000000000000) (hS : ∀ k, S k → k < N ∧ k ≠ b)
    (hB : Bld N b acc w) (hN : N ≤ w.heap.size) (hln : acc.length + 2 ≤ 70368744177664) :
    Calls Tryd.prog 65 #[BP b, .agg (cells5 6 t a1 n1 c1 a2 ks.length c2 p).toArray, .int .i64 dz] w fun e w' => ShowE N b (acc ++ [91, 93]) w e w' := by
  have hbl := hB.lt
  have hd0 : (dz == 0) = true := by rw [beq_iff_eq]; exact hdz
  clear hdz
  by_cases h0 : ks.length = 0
  · have e1 : ks = [] := List.eq_nil_of_length_eq_zero h0
    subst e1
    clear hj hl
    have hx := Box5.new w (.int .i64 6) (.string ⟨t.toArray⟩) (.slice a1 n1 c1) (.slice a2 0 c2) (.int .i64 p)
    go_enter Tryd.func65, Tryd.ntmps65
    go_wp2_with fail
    refine (writeByte N b acc 91 _ (hB.alloc _) (by omega) (by simp; omega)).mono ?_
    rintro e w1 ⟨rfl, hB1, k1⟩
    have hx1 := hx.bk k1 (by omega)
    have x3 := hx1.cell 3 _ rfl
    go_wp2_with fail
    refine wp_loop_rounds 1 ?_
    rw [rounds_succ]
    go_wp2_with fail
    refine (writeByte N b _ 93 _ hB1 (by simp; omega) (by have := k1.size; simp at this; omega)).mono ?_
    rintro e w2 ⟨rfl, hB2, k2⟩
    go_wp2_with fail
    refine bodyPost_ret (results_none rfl _ _ _) rfl ?_
    refine showE (by simpa using hB2) (((bk_alloc _).trans k1).trans k2)
  · obtain ⟨ga, oa, ca, hv, hSg, hga, hca⟩ := kid_cellsS hk hl (jrep_len5 hl hj) h0
    injection hv with hv1 _ hv2
    subst hv1 hv2
    have hx := fun v => Box5.new w (.int .i64 6) (.string ⟨t.toArray⟩) (.slice a1 n1 c1) v (.int .i64 p)
    have hgN := hS _ hSg
    have hka : 0 < kcs.length := by omega
    have JA := hj 0 hka (by omega)
    obtain ⟨k0, t0, vn0, vk0, p0, e0, ⟨a3, c3, m3, rfl⟩, ⟨a4, c4, m4, rfl⟩⟩ := jrep_cells JA
    have h0' : 0 < ks.length := by omega
    clear hj hk JA
    go_enter Tryd.func65, Tryd.ntmps65
    go_wp2_with fail
    refine (writeByte N b acc 91 _ (hB.alloc _) (by omega) (by simp; omega)).mono ?_
    rintro e w1 ⟨rfl, hB1, k1⟩
    have hx1 := (hx _).bk k1 (by omega)
    have x3 := hx1.cell 3 _ rfl
    have hk1 := (bk_alloc _).trans k1
    have fa : ∀ j u, kcs[0][j]? = some u → w1.cell? ⟨ga, oa + 0 * 5 + j, none⟩ = some u := fun j u hu => (bk_cell hk1 hgN.1 hgN.2 hga _).trans (hca 0 hka j u hu)
    rw [e0] at fa
    have q0 := fa 0 _ rfl
    have q1 := fa 1 _ rfl
    have q2 := fa 2 _ rfl
    have q3 := fa 3 _ rfl
    have q4 := fa 4 _ rfl
    simp only [Nat.add_zero, Nat.zero_mul] at q0 q1 q2 q3 q4
    have hs1 := hk1.size
    clear fa hca hl hx e0
    go_wp2_with fail
    refine wp_loop_rounds 1 ?_
    rw [rounds_succ]
    go_wp2_with fail
    refine (writeByte N b _ 93 _ (hB1.alloc _) (by simp; omega) (by simp; omega)).mono ?_
    rintro e w2 ⟨rfl, hB2, k2⟩
    go_wp2_with fail
    refine bodyPost_ret (results_none rfl _ _ _) rfl ?_
    exact showE (by simpa using hB2) ((hk1.trans (bk_alloc _)).trans k2)

set_option maxHeartbeats 1000000 in
set_option maxRecDepth 100000 in
theorem show_objZ (g : Nat) (S : Nat → Prop) (N b : Nat) (acc : List UInt8) (w : World) (t : List UInt8) (ks : List JV) (p dz : Int) (hdz : dz = 0) (a1 : Option Addr) (n1 c1 : Nat) (a2 : Option Addr) (c2 : Nat) (kcs : List (List Value))
    (hl : kcs.length = ks.length) (hk : RowAt S w (.slice a2 ks.length c2) ks.length kcs.flatten) (hj : ∀ j (h : j < kcs.length) (h2 : j < ks.length), JRep S w g kcs[j] ks[j]) (hkl : ks.length ≤ 1000000000000) (hS : ∀ k, S k → k < N ∧ k ≠ b)
    (hB : Bld N b acc w) (hN : N ≤ w.heap.size) (hln : acc.length + 2 ≤ 70368744177664) :
    Calls Tryd.prog 65 #[BP b, .agg (cells5 7 t a1 n1 c1 a2 ks.length c2 p).toArray, .int .i64 dz] w fun e w' => ShowE N b (acc ++ [123, 125]) w e w' := by
  have hbl := hB.lt
  have hd0 : (dz == 0) = true := by rw [beq_iff_eq]; exact hdz
  clear hdz
  by_cases h0 : ks.length = 0
  · have e1 : ks = [] := List.eq_nil_of_length_eq_zero h0
    subst e1
    clear hj hl
    have hx := Box5.new w (.int .i64 7) (.string ⟨t.toArray⟩) (.slice a1 n1 c1) (.slice a2 0 c2) (.int .i64 p)
    go_enter Tryd.func65, Tryd.ntmps65
    go_wp2_with fail
    refine (writeByte N b acc 123 _ (hB.alloc _) (by omega) (by simp; omega)).mono ?_
    rintro e w1 ⟨rfl, hB1, k1⟩
    have hx1 := hx.bk k1 (by omega)
    have x3 := hx1.cell 3 _ rfl
    go_wp2_with fail
    refine wp_loop_rounds 1 ?_
    rw [rounds_succ]
    go_wp2_with fail
    refine (writeByte N b _ 125 _ hB1 (by simp; omega) (by have := k1.size; simp at this; omega)).mono ?_
    rintro e w2 ⟨rfl, hB2, k2⟩
    go_wp2_with fail
    refine bodyPost_ret (results_none rfl _ _ _) rfl ?_
    refine showE (by simpa using hB2) (((bk_alloc _).trans k1).trans k2)
  · obtain ⟨ga, oa, ca, hv, hSg, hga, hca⟩ := kid_cellsS hk hl (jrep_len5 hl hj) h0
    injection hv with hv1 _ hv2
    subst hv1 hv2
    have hx := fun v => Box5.new w (.int .i64 7) (.string ⟨t.toArray⟩) (.slice a1 n1 c1) v (.int .i64 p)
    have hgN := hS _ hSg
    have hka : 0 < kcs.length := by omega
    have JA := hj 0 hka (by omega)
    obtain ⟨k0, t0, vn0, vk0, p0, e0, ⟨a3, c3, m3, rfl⟩, ⟨a4, c4, m4, rfl⟩⟩ := jrep_cells JA
    have h0' : 0 < ks.length := by omega
    clear hj hk JA
    go_enter Tryd.func65, Tryd.ntmps65
    go_wp2_with fail
    refine (writeByte N b acc 123 _ (hB.alloc _) (by omega) (by simp; omega)).mono ?_
    rintro e w1 ⟨rfl, hB1, k1⟩
    have hx1 := (hx _).bk k1 (by omega)
    have x3 := hx1.cell 3 _ rfl
    have hk1 := (bk_alloc _).trans k1
    have fa : ∀ j u, kcs[0][j]? = some u → w1.cell? ⟨ga, oa + 0 * 5 + j, none⟩ = some u := fun j u hu => (bk_cell hk1 hgN.1 hgN.2 hga _).trans (hca 0 hka j u hu)
    rw [e0] at fa
    have q0 := fa 0 _ rfl
    have q1 := fa 1 _ rfl
    have q2 := fa 2 _ rfl
    have q3 := fa 3 _ rfl
    have q4 := fa 4 _ rfl
    simp only [Nat.add_zero, Nat.zero_mul] at q0 q1 q2 q3 q4
    have hs1 := hk1.size
    clear fa hca hl hx e0
    go_wp2_with fail
    refine wp_loop_rounds 1 ?_
    rw [rounds_succ]
    go_wp2_with fail
    refine (writeByte N b _ 125 _ (hB1.alloc _) (by simp; omega) (by simp; omega)).mono ?_
    rintro e w2 ⟨rfl, hB2, k2⟩
    go_wp2_with fail
    refine bodyPost_ret (results_none rfl _ _ _) rfl ?_
    exact showE (by simpa using hB2) ((hk1.trans (bk_alloc _)).trans k2)

theorem shw6z (t : List UInt8) (ns : List (List UInt8)) (ks : List JV) (p : Int) : jShow 0 (.mk 6 t ns ks p) = [91, 93] := by unfold jShow; rfl
theorem shw7z (t : List UInt8) (ns : List (List UInt8)) (ks : List JV) (p : Int) : jShow 0 (.mk 7 t ns ks p) = [123, 125] := by unfold jShow; rfl
theorem shw6 (n : Nat) (t : List UInt8) (ns : List (List UInt8)) (ks : List JV) (p : Int) : jShow (n + 1) (.mk 6 t ns ks p) = [91] ++ showKids (jShow n) false ns 0 ks ++ [93] := by unfold jShow; rfl
theorem shw7 (n : Nat) (t : List UInt8) (ns : List (List UInt8)) (ks : List JV) (p : Int) : jShow (n + 1) (.mk 7 t ns ks p) = [123] ++ showKids (jShow n) true ns 0 ks ++ [125] := by unfold jShow; rfl

theorem show_step (n : Nat) (hn : n ≤ 1001) (hIH : ∀ m, n = m + 1 → ShowC m) : ShowC n := by
  intro g S N b acc w cs V dz hdz hJ hsm hS hB hN hln
  cases g with
  | zero => exact hJ.elim
  | succ g =>
    obtain ⟨k, t, ns, ks, p⟩ := V
    obtain ⟨vn, vk, rfl, hnm, kcs, hl, hk, hj⟩ := hJ
    obtain ⟨ht, hs1, hs2, hs3, hs4⟩ := hsm
    obtain ⟨a1, c1, rfl⟩ := hnm.slice
    obtain ⟨a2, c2, rfl⟩ := hk.slice
    by_cases h5 : k = 5
    · subst h5
      rw [shw5] at hln ⊢
      exact show_str N b acc w t a1 ns.length c1 a2 ks.length c2 p dz ht hB hN hln
    by_cases h4 : k = 4
    · subst h4
      rw [shw4] at hln ⊢
      exact show_num N b acc w t a1 ns.length c1 a2 ks.length c2 p dz hB hN hln
    by_cases h6 : k = 6
    · subst h6
      cases n with
      | zero =>
        rw [shw6z] at hln ⊢
        exact show_arrZ g S N b acc w t ks p dz hdz a1 ns.length c1 a2 c2 kcs hl hk hj hs3 hS hB hN hln
      | succ n =>
        rw [shw6] at hln ⊢
        exact show_arrN n (by omega) (hIH n rfl) g S N b acc w t ns ks p dz (by rw [hdz]; simp) a1 ns.length c1 a2 c2 kcs hl hk hj hs4 hs3 hS hB hN hln
    by_cases h7 : k = 7
    · subst h7
      cases n with
      | zero =>
        rw [shw7z] at hln ⊢
        exact show_objZ g S N b acc w t ks p dz hdz a1 ns.length c1 a2 c2 kcs hl hk hj hs3 hS hB hN hln
      | succ n =>
        rw [shw7] at hln ⊢
        exact show_objN n (by omega) (hIH n rfl) g S N b acc w t ns ks p dz (by rw [hdz]; simp) a1 c1 a2 c2 kcs hl hk hj hnm hs2 hs4 hs3 hS hB hN hln
    rw [shwW n k ⟨h4, h5, h6, h7⟩] at hln ⊢
    exact show_word N b acc w k ⟨h4, h5, h6, h7⟩ t a1 ns.length c1 a2 ks.length c2 p dz hB hN (by omega)

theorem show_any : ∀ n, n ≤ 1001 → ShowC n
  | 0, h => show_step 0 h (fun m hm => by omega)
  | n + 1, h => show_step (n + 1) h (fun m hm => by
    have : m = n := by omega
    subst this
    exact show_any m (by omega))
end Go.Proofs.YtghiboknhjnlkaaDoor
