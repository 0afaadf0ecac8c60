/- stetref17.Same: two values are one but for their places, down to so many levels. -/
import Derived.Test.YtghiboknhjnlkaaDoorJCopy
import Derived.Deep.QuietTactic
import Derived.BigQuiet
import Derived.StillTailTactics
set_option linter.unusedVariables false
set_option linter.unusedSimpArgs false
set_option linter.unnecessarySimpa false
namespace Go.Proofs.YtghiboknhjnlkaaDoor
open Go.RowKit

theorem heap_drewN (w : World) (n : Nat) : (w.drewN n).heap = w.heap := by
  induction n generalizing w with
  | zero => rfl
  | succ n ih => exact ih w.drew

theorem jSame_eq (d : Nat) (k k2 : Int) (t t2 : List UInt8) (ns ns2 : List (List UInt8)) (ks ks2 : List JV) (p p2 : Int) : jSame (d + 1) (.mk k t ns ks p) (.mk k2 t2 ns2 ks2 p2) = (k == k2 && t == t2 && ns == ns2 && (ks.length == ks2.length && (ks.zip ks2).all fun q => jSame d q.1 q.2)) := rfl

/-- RSameC: its contract, down to so many levels -/
def RSameC (d : Nat) : Prop :=
  ∀ (S T : Nat → Prop) (f g : Nat) (w : World) (ca cb : List Value) (A B : JV) (dz : Int), dz = d → JSm f A → JRep S w f ca A → JRep T w g cb B →
    Calls Tryd.prog 34 #[.agg ca.toArray, .agg cb.toArray, .int .i64 dz] w fun e w' => e = .returned (.bool (jSame d A B)) ∧ Below w.heap.size w w'

set_option maxHeartbeats 4000000 in
set_option maxRecDepth 100000 in
theorem rsame_step (d : Nat) (hd1000 : d ≤ 1000) (hIH : ∀ m, d = m + 1 → RSameC m) : RSameC d := by
  intro S T f g w ca cb A B dz hdz hsm hA hB
  cases f with
  | zero => exact hA.elim
  | succ f =>
  cases g with
  | zero => exact hB.elim
  | succ g =>
  obtain ⟨k, t, ns, ks, p⟩ := A
  obtain ⟨vn, vk, rfl, hn, kcs, hl, hk, hj⟩ := hA
  obtain ⟨-, hs1, -, hs2, hs3⟩ := hsm
  obtain ⟨k', t', ns', ks', p'⟩ := B
  obtain ⟨vn', vk', rfl, hn', kcs', hl', hk', hj'⟩ := hB
  obtain ⟨a1, c1, rfl⟩ := hn.slice
  obtain ⟨a2, c2, rfl⟩ := hk.slice
  obtain ⟨a3, c3, rfl⟩ := hn'.slice
  obtain ⟨a4, c4, rfl⟩ := hk'.slice
  unfold strV
  generalize hR : jSame d (.mk k t ns ks p) (.mk k' t' ns' ks' p') = R
  have HDZ := Lib.hid hdz
  have FAIL : R = false → Calls Tryd.prog 34 #[.agg #[.int .i64 k, .string ⟨t.toArray⟩, .slice a1 ns.length c1, .slice a2 ks.length c2, .int .i64 p], .agg #[.int .i64 k', .string ⟨t'.toArray⟩, .slice a3 ns'.length c3, .slice a4 ks'.length c4, .int .i64 p'], .int .i64 dz] w (fun e w' => e = .returned (.bool false) ∧ Below w.heap.size w w') → Calls Tryd.prog 34 #[.agg #[.int .i64 k, .string ⟨t.toArray⟩, .slice a1 ns.length c1, .slice a2 ks.length c2, .int .i64 p], .agg #[.int .i64 k', .string ⟨t'.toArray⟩, .slice a3 ns'.length c3, .slice a4 ks'.length c4, .int .i64 p'], .int .i64 dz] w (fun e w' => e = .returned (.bool R) ∧ Below w.heap.size w w') := fun h c => by rw [h]; exact c
  have RF : jSame d (.mk k t ns ks p) (.mk k' t' ns' ks' p') = false → R = false := fun h => hR.symm.trans h
  by_cases h1 : k = k'
  · subst h1
    by_cases h2 : t = t'
    · subst h2
      by_cases h3 : ns.length = ns'.length
      · by_cases h4 : ks.length = ks'.length
        · by_cases h5 : d = 0
          · subst h5
            refine FAIL (RF rfl) ?_
            have hd0 : (dz == 0) = true := by rw [beq_iff_eq]; omega
            rw [← h3, ← h4]
            clear FAIL RF hR hIH hdz hs3 hj hj' hl hl' hk hk' hn hn' h3 h4
            go_enter Tryd.func34, Tryd.ntmps34
            go_wp2_with fail
            go_ret
            exact ⟨rfl, below2 _ _ _⟩
          · obtain ⟨d, rfl⟩ : ∃ m, d = m + 1 := ⟨d - 1, by omega⟩
            have hd0 : (dz == 0) = false := by rw [beq_eq_false_iff_ne]; omega
            have hdz1 : 1 ≤ dz := by omega
            have hdz2 : dz ≤ 1000 := by omega
            have hC := Lib.hid (hIH d rfl)
            have HR := Lib.hid hR
            have HN := Lib.hid (fun W (h : Below w.heap.size w W) => hn.keep (w' := W) h.size (fun i hi _ => h.block i hi))
            have HN' := Lib.hid (fun W (h : Below w.heap.size w W) => hn'.keep (w' := W) h.size (fun i hi _ => h.block i hi))
            have HK := Lib.hid (fun W (h : Below w.heap.size w W) => hk.keep (w' := W) h.size (fun i hi _ => h.block i hi))
            have HK' := Lib.hid (fun W (h : Below w.heap.size w W) => hk'.keep (w' := W) h.size (fun i hi _ => h.block i hi))
            have HJ := Lib.hid (fun W (h : Below w.heap.size w W) j a b => (hj j a b).keep (w' := W) h.size (fun i hi _ => h.block i hi))
            have HJ' := Lib.hid (fun W (h : Below w.heap.size w W) j a b => (hj' j a b).keep (w' := W) h.size (fun i hi _ => h.block i hi))
            have HSM := Lib.hid hs3
            have H5 := Lib.hid (jrep_len5 hl hj)
            have H5' := Lib.hid (jrep_len5 hl' hj')
            have HL := Lib.hid hl
            have HL' := Lib.hid hl'
            rw [← h3, ← h4]
            have H3 := Lib.hid h3
            have H4 := Lib.hid h4
            have HBA := Lib.hid ((Box5.new w (.int .i64 k) (.string ⟨t.toArray⟩) (.slice a1 ns.length c1) (.slice a2 ks.length c2) (.int .i64 p)).alloc (.cells #[.int .i64 k, .string ⟨t.toArray⟩, .slice a3 ns.length c3, .slice a4 ks.length c4, .int .i64 p'] 34))
            have HBB : Hid (Box5 (w.heap.size + 1) [.int .i64 k, .string ⟨t.toArray⟩, .slice a3 ns.length c3, .slice a4 ks.length c4, .int .i64 p'] ((w.alloc (.cells #[.int .i64 k, .string ⟨t.toArray⟩, .slice a1 ns.length c1, .slice a2 ks.length c2, .int .i64 p] 34)).alloc (.cells #[.int .i64 k, .string ⟨t.toArray⟩, .slice a3 ns.length c3, .slice a4 ks.length c4, .int .i64 p'] 34))) := heap_alloc_new2 w _ _
            clear FAIL RF hR hIH hdz hs3 hj hj' hl hl' hk hk' hn hn' h3 h4 h5
            go_enter Tryd.func34, Tryd.ntmps34
            go_wp2_with fail
            go_loopw [7] (fun v wr => ∃ i : Nat, v = .int .i64 i ∧ i ≤ ns.length ∧ Hid (Box5 w.heap.size [.int .i64 k, .string ⟨t.toArray⟩, .slice a1 ns.length c1, .slice a2 ks.length c2, .int .i64 p] wr) ∧ Hid (Box5 (w.heap.size + 1) [.int .i64 k, .string ⟨t.toArray⟩, .slice a3 ns.length c3, .slice a4 ks.length c4, .int .i64 p'] wr) ∧ Hid (Below w.heap.size w wr) ∧ Hid (ns.take i = ns'.take i)) (fun v _ => ns.length - (intOf v).toNat)
            case atStart => exact ⟨0, rfl, Nat.zero_le _, HBA, HBB, below2 _ _ _, rfl⟩
            case round =>
              obtain ⟨i, rfl, hik, HA, HB, HW, HT⟩ := hrel
              by_cases hlt : i < ns.length
              · have hlt' : i < ns'.length := by have := H3.out; omega
                obtain ⟨ga, oa, ca, hva, -, hga, hca⟩ := row_cellsS (HN.out wr HW.out) i hlt
                obtain ⟨gb, ob, cb, hvb, -, hgb, hcb⟩ := row_cellsS (HN'.out wr HW.out) i hlt'
                injection hva with hv1 _ hv2
                injection hvb with hv3 _ hv4
                subst hv1 hv2 hv3 hv4
                have x2 := HA.out.cell 2 _ rfl
                have y2 := HB.out.cell 2 _ rfl
                unfold strV at hca hcb
                have hi0 : (0 : Int) ≤ (i : Int) ∧ (i : Int) < ns.length := by omega
                have hTs : ns.take (i + 1) = ns.take i ++ [ns[i]] := List.take_succ_eq_append_getElem hlt
                have hTs' : ns'.take (i + 1) = ns'.take i ++ [ns'[i]] := List.take_succ_eq_append_getElem hlt'
                have HT2 : ns[i] = ns'[i] → Hid (ns.take (i + 1) = ns'.take (i + 1)) := fun h => by show _ = _; rw [hTs, hTs', HT.out, h]
                have HNE : ns[i] ≠ ns'[i] → Hid (R = false) := fun h => by
                  show _ = _
                  rw [← HR.out]
                  have : (ns == ns') = false := by rw [beq_eq_false_iff_ne]; intro e; subst e; exact h rfl
                  rw [jSame_eq, this]
                  simp
                clear hTs hTs'
                generalize ns[i] = na at *
                generalize ns'[i] = nb at *
                by_cases hab : na = nb
                · have HT3 := HT2 hab
                  subst hab
                  clear HNE HT2
                  go_wp2_with fail
                  go_quiet (fail)
                  go_wp2_with fail
                  go_roundw
                  case rel => exact ⟨i + 1, by go_num, by omega, HA.out.below (below_drewN (Below.refl _ _) _), HB.out.below (below_drewN (Below.refl _ _) _), HW.out.trans (below_drewN (Below.refl _ _) _), HT3⟩
                  case measure => simp [intOf]; omega
                · have hne := HNE hab
                  have hq : (na != nb) = true := by rw [bne_iff_ne]; exact hab
                  have hq2 : (na == nb) = false := by rw [beq_eq_false_iff_ne]; exact hab
                  clear HNE HT2 hab
                  go_wp2_with fail
                  go_quiet (fail)
                  go_wp2_with fail
                  go_ret
                  exact ⟨by rw [hne.out]; rfl, HW.out.trans (below_drewN (Below.refl _ _) _)⟩
              · have hns : Hid (ns = ns') := by
                  have := HT.out
                  rw [List.take_of_length_le (by omega), List.take_of_length_le (by have := H3.out; omega)] at this
                  exact this
                have x2 := HA.out.cell 2 _ rfl
                go_wp2_with fail
                clear x2
                go_loopw [8] (fun v wr => ∃ i : Nat, v = .int .i64 i ∧ i ≤ ks.length ∧ Hid (Box5 w.heap.size [.int .i64 k, .string ⟨t.toArray⟩, .slice a1 ns.length c1, .slice a2 ks.length c2, .int .i64 p] wr) ∧ Hid (Box5 (w.heap.size + 1) [.int .i64 k, .string ⟨t.toArray⟩, .slice a3 ns.length c3, .slice a4 ks.length c4, .int .i64 p'] wr) ∧ Hid (Below w.heap.size w wr) ∧ Hid (R = ((ks.zip ks').drop i).all (fun q => jSame d q.1 q.2))) (fun v _ => ks.length - (intOf v).toNat)
                case atStart =>
                  refine ⟨0, rfl, Nat.zero_le _, HA, HB, HW, ?_⟩
                  show _ = _
                  have e1 := hns.out
                  have e2 := H4.out
                  rw [← HR.out, jSame_eq]
                  subst e1
                  simp [e2]
                case round =>
                  obtain ⟨j, rfl, hjk, HA2, HB2, HW2, HZ⟩ := hrel
                  by_cases hlj : j < ks.length
                  · have hlj' : j < ks'.length := by have := H4.out; omega
                    have hka : j < kcs.length := by have := HL.out; omega
                    have hkb : j < kcs'.length := by have := HL'.out; omega
                    obtain ⟨ga, oa, ca, hva, -, hga, hca⟩ := kid_cellsS (HK.out wr HW2.out) HL.out H5.out (by omega)
                    obtain ⟨gb, ob, cb, hvb, -, hgb, hcb⟩ := kid_cellsS (HK'.out wr HW2.out) HL'.out H5'.out (by omega)
                    injection hva with hv1 _ hv2
                    injection hvb with hv3 _ hv4
                    subst hv1 hv2 hv3 hv4
                    have JA := HJ.out wr HW2.out j hka hlj
                    have JB := HJ'.out wr HW2.out j hkb hlj'
                    obtain ⟨k1, t1, vn1, vk1, p1, e1, ⟨b1, d1, m1, rfl⟩, ⟨b2, d2, m2, rfl⟩⟩ := jrep_cells JA
                    obtain ⟨k2, t2, vn2, vk2, p2, e2, ⟨b3, d3, m3, rfl⟩, ⟨b4, d4, m4, rfl⟩⟩ := jrep_cells JB
                    have fa := fun i u hu => hca j hka i u hu
                    have fb := fun i u hu => hcb j hkb i u hu
                    rw [e1] at fa JA
                    rw [e2] at fb JB
                    have q0 := fa 0 _ rfl
                    have q1 := fa 1 _ rfl
                    have q2 := fa 2 _ rfl
                    have q3 := fa 3 _ rfl
                    have q4 := fa 4 _ rfl
                    have r0 := fb 0 _ rfl
                    have r1 := fb 1 _ rfl
                    have r2 := fb 2 _ rfl
                    have r3 := fb 3 _ rfl
                    have r4 := fb 4 _ rfl
                    simp only [Nat.add_zero] at q0 r0
                    have x3 := HA2.out.cell 3 _ rfl
                    have y3 := HB2.out.cell 3 _ rfl
                    have hj0 : (0 : Int) ≤ (j : Int) ∧ (j : Int) < ks.length := by omega
                    have HCP := Lib.hid (fun n => hC.out S T f g (wr.drewN n) _ _ ks[j] ks'[j] (dz - 1) (by have := HDZ.out; omega) (HSM.out _ (List.getElem_mem hlj)) (JA.keep (w' := wr.drewN n) (Nat.le_of_eq (by rw [heap_drewN])) (fun _ _ _ => by rw [heap_drewN])) (JB.keep (w' := wr.drewN n) (Nat.le_of_eq (by rw [heap_drewN])) (fun _ _ _ => by rw [heap_drewN])))
                    have hdr : (ks.zip ks').drop j = (ks[j], ks'[j]) :: (ks.zip ks').drop (j + 1) := by
                      rw [List.drop_eq_getElem_cons (by have := H4.out; simp; omega)]
                      simp
                    have hz := HZ.out
                    rw [hdr, List.all_cons] at hz
                    have HZ2 := Lib.hid hz
                    clear JA JB fa fb hca hcb hz hdr e1 e2
                    generalize jSame d ks[j] ks'[j] = v at *
                    go_wp2_with fail
                    go_still_tail 12, (by kernel_rfl)
                    go_wp2_with fail
                    refine (HCP.out _).mono ?_
                    rintro e W ⟨rfl, b⟩
                    have hbd := (below_drewN (Below.refl wr.heap.size wr) _).trans (b.mono (Nat.le_of_eq (by rw [heap_drewN])))
                    have hbW := HW2.out.trans (hbd.mono HW2.out.size)
                    have hA3 := Lib.hid (HA2.out.below hbd)
                    have hB3 := Lib.hid (HB2.out.below hbd)
                    clear q0 q1 q2 q3 q4 r0 r1 r2 r3 r4 x3 y3 HCP b
                    cases v
                    · go_wp2_with fail
                      go_ret
                      refine ⟨?_, hbW⟩
                      have := HZ2.out
                      rw [Bool.false_and] at this
                      rw [this]
                      rfl
                    · have hz3 := HZ2.out
                      rw [Bool.true_and] at hz3
                      have HZ3 := Lib.hid hz3
                      have hBW := Lib.hid hbW
                      clear hz3 HZ2 hbW
                      go_wp2_with fail
                      go_roundw
                      case rel => exact ⟨j + 1, by go_num, by omega, hA3, hB3, hBW, HZ3⟩
                      case measure => simp [intOf]; omega
                  · have hz := HZ.out
                    rw [List.drop_of_length_le (by have := H4.out; simp; omega)] at hz
                    have HZ2 := Lib.hid hz
                    have x3 := HA2.out.cell 3 _ rfl
                    clear hz HZ
                    go_wp2_with fail
                    go_ret
                    refine ⟨?_, HW2.out⟩
                    rw [HZ2.out]
                    rfl
        · have hne : ((ks.length : Int) != (ks'.length : Int)) = true := by rw [bne_iff_ne]; omega
          have hne2 : ((ks.length : Int) == (ks'.length : Int)) = false := by rw [beq_eq_false_iff_ne]; omega
          refine FAIL (RF ?_) ?_
          · cases d with
            | zero => rfl
            | succ d => rw [jSame_eq, show (ks.length == ks'.length) = false by rw [beq_eq_false_iff_ne]; exact h4]; simp
          rw [← h3]
          clear h3
          (clear FAIL RF hR hIH hdz hs3 hj hj' hl hl' hk hk' hn hn'; go_enter Tryd.func34, Tryd.ntmps34; go_wp2_with fail; go_ret; exact ⟨rfl, below2 _ _ _⟩)
      · have hne : ((ns.length : Int) != (ns'.length : Int)) = true := by rw [bne_iff_ne]; omega
        have hne2 : ((ns.length : Int) == (ns'.length : Int)) = false := by rw [beq_eq_false_iff_ne]; omega
        refine FAIL (RF ?_) ?_
        · cases d with
          | zero => rfl
          | succ d => rw [jSame_eq, show (ns == ns') = false by rw [beq_eq_false_iff_ne]; intro e; exact h3 (by rw [e])]; simp
        · (clear FAIL RF hR hIH hdz hs3 hj hj' hl hl' hk hk' hn hn'; go_enter Tryd.func34, Tryd.ntmps34; go_wp2_with fail; go_ret; exact ⟨rfl, below2 _ _ _⟩)
    · refine FAIL (RF ?_) ?_
      · cases d with
        | zero => rfl
        | succ d => rw [jSame_eq, show (t == t') = false by rw [beq_eq_false_iff_ne]; exact h2]; simp
      · (clear FAIL RF hR hIH hdz hs3 hj hj' hl hl' hk hk' hn hn'; go_enter Tryd.func34, Tryd.ntmps34; go_wp2_with fail; go_ret; exact ⟨rfl, below2 _ _ _⟩)
  · refine FAIL (RF ?_) ?_
    · cases d with
      | zero => rfl
      | succ d => rw [jSame_eq, show (k == k') = false by rw [beq_eq_false_iff_ne]; exact h1]; simp
    · (clear FAIL RF hR hIH hdz hs3 hj hj' hl hl' hk hk' hn hn'; go_enter Tryd.func34, Tryd.ntmps34; go_wp2_with fail; go_ret; exact ⟨rfl, below2 _ _ _⟩)

theorem rsame_any : ∀ d, d ≤ 1000 → RSameC d
  | 0, h => rsame_step 0 h (fun m hm => by omega)
  | d + 1, h => rsame_step (d + 1) h (fun m hm => by
    have : m = d := by omega
    subst this
    exact rsame_any m (by omega))
end Go.Proofs.YtghiboknhjnlkaaDoor
