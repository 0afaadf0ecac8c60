/- That json.cutLeft gives a text without the bytes of an ASCII set at its begin. -/
import Derived.Test.YtghiboknhjnlkaaDoorCutLeft
set_option linter.unusedVariables false
set_option linter.unusedSimpArgs false
namespace Go.Proofs.YtghiboknhjnlkaaDoor
open Go.RowKit

set_option maxHeartbeats 1000000 in
set_option maxRecDepth 100000 in
theorem jcut_any (set s : ByteArray) (w : World) (ha : Ascii set) (hs : s.size ≤ 140737488351232) (hset : set.size ≤ 140737488351232) :
    Calls Tryd.prog 81 #[.string s, .string set] w fun e w' => e = .returned (.string (s.extract (lead set s) s.size)) ∧ Below w.heap.size w w' := by
  have HA : Hid (Ascii set) := ha
  clear ha
  go_enter Tryd.func81, Tryd.ntmps81
  go_wp2
  go_loopw [] (fun wr => ∃ pos : Nat, pos ≤ s.size ∧ Hid (∀ j (h : j < s.size), j < pos → inSet set set.size ((s[j]'h).toNat : Int) = true) ∧ wr.heap[w.heap.size]? = some (.stringIter s pos) ∧ Below w.heap.size w wr) (fun wr => s.size - wr.iterPos w.heap.size)
  case atStart => exact ⟨0, Nat.zero_le _, fun j h hj => by omega, World.iter_heap w s 0, (Below.refl _ w).alloc (Nat.le_refl _) _⟩
  case round =>
    obtain ⟨pos, hpos, HP, hit, hbw⟩ := hrel
    by_cases hp : pos < s.size
    · have hnx : ∀ ty, (Instr.next (.pointer (some ⟨w.heap.size, 0, none⟩)) true ty).run Tryd.prog wr = _ := fun ty => Lib.run_next_any_at wr w.heap.size s pos ty hit hp
      have hwd := dwidth s pos hp
      have hd1 := decode_le s pos
      have hit2 := Lib.iterAt_heap wr w.heap.size s pos (pos + (Utf8.decode s pos).2) hit
      have hbw2 := Lib.below_iterAt hbw (Nat.le_refl _) s (pos + (Utf8.decode s pos).2)
      have hsz2 : w.heap.size < (wr.iterAt w.heap.size s (pos + (Utf8.decode s pos).2)).heap.size := (Array.getElem?_eq_some_iff.1 hit2).1
      generalize wr.iterAt w.heap.size s (pos + (Utf8.decode s pos).2) = W1 at *
      generalize hdec : Utf8.decode s pos = dc at *
      have HD := Lib.hid hdec
      clear hdec
      go_wp2
      go_loopw [7] (fun f wi => ∃ q : Nat, q ≤ set.size ∧ f = .bool (inSet set q dc.1) ∧ wi.heap[W1.heap.size]? = some (.stringIter set q) ∧ wi.heap[w.heap.size]? = some (.stringIter s (pos + dc.2)) ∧ Below w.heap.size w wi) (fun _ wi => set.size - wi.iterPos W1.heap.size)
      case atStart =>
        refine ⟨0, Nat.zero_le _, by simp [inSet], World.iter_heap W1 set 0, ?_, hbw2.alloc (by omega) _⟩
        rw [← hit2]
        exact Below.heap_alloc W1 _ _ hsz2
      case round =>
        obtain ⟨q, hq, rfl, hiq, his, hbi⟩ := hrel
        by_cases hqs : q < set.size
        · have hnx2 : ∀ ty, (Instr.next (.pointer (some ⟨W1.heap.size, 0, none⟩)) true ty).run Tryd.prog wr = _ := fun ty => Lib.run_next_ascii_at wr W1.heap.size set q ty hiq hqs (HA.out q hqs)
          have hn := inSet_succ set q hqs dc.1
          have hiq2 := Lib.iterAt_heap wr W1.heap.size set q (q + 1) hiq
          have his2 := Lib.iterAt_other wr W1.heap.size w.heap.size set (q + 1) (by omega)
          rw [his] at his2
          have hbi2 := Lib.below_iterAt hbi (k := W1.heap.size) (by omega) set (q + 1)
          generalize wr.iterAt W1.heap.size set (q + 1) = W2 at *
          generalize inSet set q dc.1 = b at *
          have HN := Lib.hid hn
          clear hn
          cases b with
          | true =>
            go_wp2
            refine ⟨⟨q + 1, by omega, by rw [HN.out]; rfl, hiq2, his2, hbi2⟩, ?_⟩
            simp only [World.iterPos, hiq2, hiq]
            omega
          | false =>
            go_wp2
            refine ⟨⟨q + 1, by omega, ?_, hiq2, his2, hbi2⟩, ?_⟩
            · rw [HN.out, Bool.false_or]
              congr 1
              rw [Bool.eq_iff_iff, beq_iff_eq, decide_eq_true_iff]
              exact eq_comm
            · simp only [World.iterPos, hiq2, hiq]
              omega
        · have hqe : q = set.size := by omega
          subst hqe
          have hnx2 : ∀ ty, (Instr.next (.pointer (some ⟨W1.heap.size, 0, none⟩)) true ty).run Tryd.prog wr = _ := fun ty => Lib.run_next_end_at wr W1.heap.size set set.size ty hiq hqs
          have hin : (s[pos]'hp).toNat < 128 → dc.1 = (s[pos]'hp).toNat ∧ dc.2 = 1 := by
            intro h
            have := decode_ascii s pos hp h
            rw [HD.out] at this
            rw [this]
            exact ⟨rfl, rfl⟩
          have hhi : ¬ (s[pos]'hp).toNat < 128 → inSet set set.size dc.1 = false := by
            intro h
            have := decode_high s pos hp (by omega)
            rw [HD.out] at this
            exact inSet_high set HA.out _ _ (by omega)
          have hhi2 : ¬ (s[pos]'hp).toNat < 128 → inSet set set.size ((s[pos]'hp).toNat : Int) = false := fun h => inSet_high set HA.out _ _ (by omega)
          have HI := Lib.hid hin
          have HH := Lib.hid hhi
          have HH2 := Lib.hid hhi2
          clear hin hhi hhi2
          generalize hb : inSet set set.size dc.1 = b at *
          have HB := Lib.hid hb
          clear hb
          cases b with
          | true =>
            have hlt : (s[pos]'hp).toNat < 128 := by
              by_cases h : (s[pos]'hp).toNat < 128
              · exact h
              · have := HH.out h; cases this
            go_wp2
            refine ⟨⟨pos + dc.2, by have := (HI.out hlt).2; omega, ?_, his, hbi⟩, ?_⟩
            · intro j hj hlj
              obtain ⟨e1, e2⟩ := HI.out hlt
              by_cases hjp : j < pos
              · exact HP.out j hj hjp
              · have : j = pos := by omega
                subst this
                rw [← e1]; exact HB.out
            · simp only [World.iterPos, his, hit]
              omega
          | false =>
            go_wp2
            go_ret
            refine ⟨?_, hbi⟩
            have : lead set s = pos := by
              refine lead_eq set s pos hpos HP.out (fun h => ?_)
              by_cases h : (s[pos]'hp).toNat < 128
              · rw [← (HI.out h).1]; exact HB.out
              · exact HH2.out h
            rw [this]; rfl
    · have hpe : pos = s.size := by omega
      subst hpe
      have hnx : ∀ ty, (Instr.next (.pointer (some ⟨w.heap.size, 0, none⟩)) true ty).run Tryd.prog wr = _ := fun ty => Lib.run_next_end_at wr w.heap.size s s.size ty hit hp
      go_wp2
      go_ret
      refine ⟨?_, hbw⟩
      rw [lead_eq set s s.size (Nat.le_refl _) HP.out (fun h => absurd h (Nat.lt_irrefl _)), extract_end]; rfl
end Go.Proofs.YtghiboknhjnlkaaDoor
