/- That the document's table of entities holds the same numbers. -/
import Derived.Test.YtghiboknhjnlkaaDoorRefChar
import Derived.Deep.WholeRow
set_option linter.unusedVariables false
set_option linter.unusedSimpArgs false
namespace Go.Proofs.YtghiboknhjnlkaaDoor
open Go.RowKit

def entNames : Array Value := (entTab.map fun p => Value.string ⟨p.1.toArray⟩).toArray
def entNums : Array Value := (entTab.map fun p => Value.int .i64 p.2).toArray

theorem entTab_len : entTab.length = 53 := by decide

theorem names_at (i : Nat) (h : i < 53) : entNames[i]? = some (.string ⟨(entTab[i]'(by rw [entTab_len]; exact h)).1.toArray⟩) := by
  unfold entNames
  rw [List.getElem?_toArray, List.getElem?_map, List.getElem?_eq_getElem (by rw [entTab_len]; exact h)]
  rfl

theorem nums_at (i : Nat) (h : i < 53) : entNums[i]? = some (.int .i64 (entTab[i]'(by rw [entTab_len]; exact h)).2) := by
  unfold entNums
  rw [List.getElem?_toArray, List.getElem?_map, List.getElem?_eq_getElem (by rw [entTab_len]; exact h)]
  rfl

/-- an array's literal, laid into a variable of its own: three operations -/
theorem wpList_bas {P : Program} {ops : Array Oper} {Q : Exit → Act → World → Prop} {o1 o2 o3 : Oper} {rest : List Oper} {a : Act} {w : World} (T : TypeId) (d1 d2 : Tmp) (cells zs : Array Value)
    (g1 : o1.guard = none) (g2 : o2.guard = none) (g3 : o3.guard = none) (e1 : o1.dst = some d1) (e2 : o2.dst = some d2) (e3 : o3.dst = none)
    (h1 : ∀ (a : Act) (w : World), (execOp a.eval o1).run P w = .ok (.value (.agg cells)) w)
    (h2 : ∀ (a : Act) (w : World), (execOp a.eval o2).run P w = .ok (.value (.pointer (some ⟨w.heap.size, 0, none⟩))) (w.alloc (.cells zs T)))
    (h3 : o3.op = .store T (.tmp d2) (.tmp d1)) (hd : d1 ≠ d2) (hl1 : d1 < a.tmps.size) (hl2 : d2 < a.tmps.size)
    (hi : (P.info? T).map (·.size) = some cells.size) (hz : zs.size = cells.size) (hc : cells.all (·.oneCell') = true)
    (h : wpList P ops Q rest ((a.put (some d1) (.agg cells)).put (some d2) (.pointer (some ⟨w.heap.size, 0, none⟩))) (w.alloc (.cells cells T))) : wpList P ops Q (o1 :: o2 :: o3 :: rest) a w := by
  refine wpList_plain g1 fun K hK => ?_
  unfold Oper.wp
  rw [h1, Oper.upon_value, e1]
  refine hK _ _ (wpList_plain g2 fun K2 hK2 => ?_)
  unfold Oper.wp
  rw [h2, Oper.upon_value, e2]
  refine hK2 _ _ (wpList_plain g3 fun K3 hK3 => ?_)
  unfold Oper.wp execOp
  have v2 : ((a.put (some d1) (.agg cells)).put (some d2) (.pointer (some ⟨w.heap.size, 0, none⟩))).eval (.tmp d2) = .pointer (some ⟨w.heap.size, 0, none⟩) := by
    simp [Act.eval, Act.put, hl2]
  have v1 : ((a.put (some d1) (.agg cells)).put (some d2) (.pointer (some ⟨w.heap.size, 0, none⟩))).eval (.tmp d1) = .agg cells := by
    simp [Act.eval, Act.put, hl1, Ne.symm hd]
  have hs := run_storeAt_new (P := P) w T zs cells hi hz hc
  simp only [h3, v1, v2, Sem.run_bind, hs, Result.andThen_ok, Sem.run_pure]
  rw [Oper.upon_skip, e3]
  exact hK3 _ _ h

set_option maxHeartbeats 4000000 in
set_option maxRecDepth 100000 in
theorem refEntTab_any (s : ByteArray) (w : World) :
    Calls Tryd.prog 48 #[.string s] w fun e w' => e = .returned (.tuple #[.int .i64 ((entOf s.data.toList).getD 0), .bool (entOf s.data.toList).isSome]) ∧ Below w.heap.size w w' := by
  go_enter Tryd.func48, Tryd.ntmps48
  iterate 12 (first | go_step | skip)
  go_step
  go_step
  refine wpList_bas 95 7 4 entNames (Array.replicate 53 (.string ⟨#[]⟩)) rfl rfl rfl rfl rfl rfl ?h1 ?h2 rfl (by decide) ?h3 ?h4 ?h5 ?h6 ?h7 ?_
  case h1 => intro a w; kernel_rfl
  case h2 => intro a w; kernel_rfl
  case h3 => simp
  case h4 => simp
  case h5 => kernel_rfl
  case h6 => kernel_rfl
  case h7 => kernel_rfl
  simp only [Act.put, List.setIfInBounds_toArray, List.set_cons_zero, List.set_cons_succ]
  iterate 5 go_step
  refine wpList_bas 96 8 5 entNums (Array.replicate 53 (.int .i64 0)) rfl rfl rfl rfl rfl rfl ?h1 ?h2 rfl (by decide) ?h3 ?h4 ?h5 ?h6 ?h7 ?_
  case h1 => intro a w; kernel_rfl
  case h2 => intro a w; kernel_rfl
  case h3 => simp
  case h4 => simp
  case h5 => kernel_rfl
  case h6 => kernel_rfl
  case h7 => kernel_rfl
  simp only [Act.put, List.setIfInBounds_toArray, List.set_cons_zero, List.set_cons_succ]
  have hb0 : ((w.alloc (.cells entNames 95)).alloc (.cells entNums 96)).heap[w.heap.size]? = some (.cells entNames 95 (0, 0)) := by
    rw [Lib.alloc_old _ _ _ (by simp)]; exact heap_alloc_new w _
  have hb1 : ((w.alloc (.cells entNames 95)).alloc (.cells entNums 96)).heap[w.heap.size + 1]? = some (.cells entNums 96 (0, 0)) := by
    have := heap_alloc_new (w.alloc (.cells entNames 95)) (.cells entNums 96)
    simpa using this
  have hbw : Below w.heap.size w ((w.alloc (.cells entNames 95)).alloc (.cells entNums 96)) := ((Below.refl _ w).alloc (Nat.le_refl _) _).alloc (by simp) _
  have hsz : (w.alloc (.cells entNames 95)).heap.size = w.heap.size + 1 := by simp
  rw [hsz]
  generalize (w.alloc (.cells entNames 95)).alloc (.cells entNums 96) = W at *
  clear hsz
  have hnm : ∀ i (h : i < 53), W.cell? ⟨w.heap.size, i, none⟩ = some (.string ⟨(entTab[i]'(by rw [entTab_len]; exact h)).1.toArray⟩) := by
    intro i h
    rw [Lib.cell_of_heap hb0, names_at i h]
  have hnu : ∀ i (h : i < 53), W.cell? ⟨w.heap.size + 1, i, none⟩ = some (.int .i64 (entTab[i]'(by rw [entTab_len]; exact h)).2) := by
    intro i h
    rw [Lib.cell_of_heap hb1, nums_at i h]
  have HNM := Lib.hid hnm
  have HNU := Lib.hid hnu
  clear hnm hnu hb0 hb1
  generalize entNames = A1
  generalize entNums = A2
  go_wp2
  go_loopw [6] (fun i wr => ∃ k : Nat, i = .int .i64 k ∧ k ≤ 53 ∧ Hid ((entTab.take k).find? (fun p => s.data.toList == p.1) = none) ∧ wr = W) (fun i _ => 53 - (intOf i).toNat)
  case atStart => exact ⟨0, rfl, by omega, rfl, rfl⟩
  case round =>
    obtain ⟨k, rfl, hk, HF, rfl⟩ := hrel
    by_cases hlt : k < 53
    · have h1 := HNM.out k hlt
      have h2 := HNU.out k hlt
      have hkl : k < entTab.length := by rw [entTab_len]; exact hlt
      have hfind : entTab.find? (fun p => s.data.toList == p.1) = ((entTab.drop k).find? (fun p => s.data.toList == p.1)) := by
        conv => lhs; rw [← List.take_append_drop k entTab, List.find?_append, HF.out]
        rfl
      have hdr : entTab.drop k = entTab[k] :: entTab.drop (k + 1) := List.drop_eq_getElem_cons hkl
      have hnext : s.data.toList ≠ (entTab[k]).1 → (entTab.take (k + 1)).find? (fun p => s.data.toList == p.1) = none := by
        intro hne
        rw [List.take_succ_eq_append_getElem hkl, List.find?_append, HF.out]
        simp [hne]
      rw [hdr] at hfind
      have HN := Lib.hid hnext
      have HFD := Lib.hid hfind
      clear hnext hfind hdr
      generalize entTab[k] = p at *
      obtain ⟨nm, num⟩ := p
      simp only at h1 h2
      by_cases he : s.data.toList = nm
      · have hbq : (nm == s.toList) = true := by rw [Lib.toList_data]; simp [he]
        have hres : entOf s.data.toList = some num := by unfold entOf; rw [HFD.out]; simp [he]
        have HR := Lib.hid hres
        clear hres he
        go_wp2
        go_ret2
        exact ⟨ret_v (by rw [HR.out]; rfl), hbw⟩
      · have hbq : (nm == s.toList) = false := by rw [Lib.toList_data, beq_eq_false_iff_ne]; exact Ne.symm he
        have HN2 := Lib.hid (HN.out he)
        clear he
        go_wp2
        exact ⟨⟨k + 1, by go_num, by omega, HN2, by first | rfl | trivial⟩, by simp [intOf]; omega⟩
    · have hke : k = 53 := by omega
      subst hke
      have hres : entOf s.data.toList = none := by
        unfold entOf
        have := HF.out
        rw [List.take_of_length_le (by rw [entTab_len]; exact Nat.le_refl _)] at this
        rw [this]; rfl
      have HR := Lib.hid hres
      clear hres
      go_wp2
      go_ret2
      exact ⟨ret_v (by rw [HR.out]; rfl), hbw⟩
end Go.Proofs.YtghiboknhjnlkaaDoor
