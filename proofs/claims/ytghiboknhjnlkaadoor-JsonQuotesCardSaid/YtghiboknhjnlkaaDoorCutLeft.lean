/- That the two cutLeft functions give a text without the bytes of an ASCII set at its begin. -/
import Derived.Test.YtghiboknhjnlkaaDoorProg
import Derived.WalkKit
import Derived.BigCall
import Derived.BigGuard
import Derived.Lib.Hide
import Derived.Lib.OthersKept
set_option linter.unusedVariables false
set_option linter.unusedSimpArgs false
namespace Go.Proofs.YtghiboknhjnlkaaDoor
open Go.RowKit

theorem dwidth (s : ByteArray) (pos : Nat) (h : pos < s.size) : 1 ≤ (Utf8.decode s pos).2 := by
  by_cases ha : (s[pos]'h).toNat < 128
  · rw [decode_ascii s pos h ha]; exact Nat.le_refl _
  · exact (decode_high s pos h (by omega)).2

/-- is this number a byte of a set, among the first k of them -/
def inSet (set : ByteArray) (k : Nat) (c : Int) : Bool := (set.data.toList.take k).any fun b => decide ((b.toNat : Int) = c)

theorem inSet_succ (set : ByteArray) (k : Nat) (h : k < set.size) (c : Int) : inSet set (k + 1) c = (inSet set k c || decide (((set[k]'h).toNat : Int) = c)) := by
  unfold inSet
  rw [List.take_succ_eq_append_getElem (by simpa using h), List.any_append]
  simp
  rfl

def Ascii (set : ByteArray) : Prop := ∀ k (h : k < set.size), (set[k]'h).toNat < 128

/-- how many bytes stand ahead of the first that is none of the set -/
def lead (set : ByteArray) (s : ByteArray) : Nat := (s.data.toList.takeWhile fun b => inSet set set.size b.toNat).length

theorem inSet_high (set : ByteArray) (ha : Ascii set) (k : Nat) (c : Int) (h : 128 ≤ c) : inSet set k c = false := by
  unfold inSet
  rw [List.any_eq_false]
  intro b hb
  obtain ⟨i, hi, rfl⟩ := List.getElem_of_mem (List.mem_of_mem_take hb)
  have hi' : i < set.size := by simpa using hi
  have h1 := ha i hi'
  have e : (set.data.toList[i]) = (set[i]'hi') := rfl
  rw [e]
  simp
  omega

theorem lead_le (set s : ByteArray) : lead set s ≤ s.size := by
  unfold lead
  have := (List.takeWhile_sublist (fun b : UInt8 => inSet set set.size b.toNat) (l := s.data.toList)).length_le
  simpa using this

theorem takeWhile_length_eq {α : Type} (p : α → Bool) : ∀ (l : List α) (k : Nat), k ≤ l.length → (∀ j (h : j < l.length), j < k → p l[j] = true) → (∀ h : k < l.length, p l[k] = false) → (l.takeWhile p).length = k
  | [], k, hk, _, _ => by simp at hk; simp [hk]
  | a :: l, 0, _, _, h2 => by have := h2 (by simp); simp at this; simp [List.takeWhile_cons, this]
  | a :: l, k + 1, hk, h1, h2 => by
    have ha := h1 0 (by simp) (by omega)
    simp at ha
    rw [List.takeWhile_cons, ha]
    simp
    exact takeWhile_length_eq p l k (by simpa using hk) (fun j h hj => h1 (j + 1) (by simpa using h) (by omega)) (fun h => h2 (by simpa using h))

theorem lead_eq (set s : ByteArray) (k : Nat) (hk : k ≤ s.size) (h1 : ∀ j (h : j < s.size), j < k → inSet set set.size ((s[j]'h).toNat : Int) = true) (h2 : ∀ h : k < s.size, inSet set set.size ((s[k]'h).toNat : Int) = false) : lead set s = k :=
  takeWhile_length_eq _ _ _ (by simpa using hk) (fun j h hj => h1 j (by simpa using h) hj) (fun h => h2 (by simpa using h))

theorem extract_end (s : ByteArray) : s.extract s.size s.size = ⟨#[]⟩ := by
  apply ByteArray.ext; simp

set_option maxHeartbeats 1000000 in
set_option maxRecDepth 100000 in
theorem cutLeft_any (set s : ByteArray) (w : World) (ha : Ascii set) (hs : s.size ≤ 140737488351232) (hset : set.size ≤ 140737488351232) :
    Calls Tryd.prog 73 #[.string s, .string set] w fun e w' => e = .returned (.string (s.extract (lead set s) s.size)) ∧ Below w.heap.size w w' := by
  have HA : Hid (Ascii set) := ha
  clear ha
  go_enter Tryd.func73, Tryd.ntmps73
  go_wp2
  go_loopw [] (fun wr => ∃ pos : Nat, pos ≤ s.size ∧ Hid (∀ j (h : j < s.size), j < pos → inSet set set.size ((s[j]'h).toNat : Int) = true) ∧ wr.heap[w.heap.size]? = some (.stringIter s pos) ∧ Below w.heap.size w wr) (fun wr => s.size - wr.iterPos w.heap.size)
  case atStart => exact ⟨0, Nat.zero_le _, fun j h hj => by omega, World.iter_heap w s 0, (Below.refl _ w).alloc (Nat.le_refl _) _⟩
  case round =>
    obtain ⟨pos, hpos, HP, hit, hbw⟩ := hrel
    by_cases hp : pos < s.size
    · have hnx : ∀ ty, (Instr.next (.pointer (some ⟨w.heap.size, 0, none⟩)) true ty).run Tryd.prog wr = _ := fun ty => Lib.run_next_any_at wr w.heap.size s pos ty hit hp
      have hwd := dwidth s pos hp
      have hd1 := decode_le s pos
      have hit2 := Lib.iterAt_heap wr w.heap.size s pos (pos + (Utf8.decode s pos).2) hit
      have hbw2 := Lib.below_iterAt hbw (Nat.le_refl _) s (pos + (Utf8.decode s pos).2)
      have hsz2 : w.heap.size < (wr.iterAt w.heap.size s (pos + (Utf8.decode s pos).2)).heap.size := (Array.getElem?_eq_some_iff.1 hit2).1
      generalize wr.iterAt w.heap.size s (pos + (Utf8.decode s pos).2) = W1 at *
      generalize hdec : Utf8.decode s pos = dc at *
      have HD := Lib.hid hdec
      clear hdec
      go_wp2
      go_loopw [7] (fun f wi => ∃ q : Nat, q ≤ set.size ∧ f = .bool (inSet set q dc.1) ∧ wi.heap[W1.heap.size]? = some (.stringIter set q) ∧ wi.heap[w.heap.size]? = some (.stringIter s (pos + dc.2)) ∧ Below w.heap.size w wi) (fun _ wi => set.size - wi.iterPos W1.heap.size)
      case atStart =>
        refine ⟨0, Nat.zero_le _, by simp [inSet], World.iter_heap W1 set 0, ?_, hbw2.alloc (by omega) _⟩
        rw [← hit2]
        exact Below.heap_alloc W1 _ _ hsz2
      case round =>
        obtain ⟨q, hq, rfl, hiq, his, hbi⟩ := hrel
        by_cases hqs : q < set.size
        · have hnx2 : ∀ ty, (Instr.next (.pointer (some ⟨W1.heap.size, 0, none⟩)) true ty).run Tryd.prog wr = _ := fun ty => Lib.run_next_ascii_at wr W1.heap.size set q ty hiq hqs (HA.out q hqs)
          have hn := inSet_succ set q hqs dc.1
          have hiq2 := Lib.iterAt_heap wr W1.heap.size set q (q + 1) hiq
          have his2 := Lib.iterAt_other wr W1.heap.size w.heap.size set (q + 1) (by omega)
          rw [his] at his2
          have hbi2 := Lib.below_iterAt hbi (k := W1.heap.size) (by omega) set (q + 1)
          generalize wr.iterAt W1.heap.size set (q + 1) = W2 at *
          generalize inSet set q dc.1 = b at *
          have HN := Lib.hid hn
          clear hn
          cases b with
          | true =>
            go_wp2
            refine ⟨⟨q + 1, by omega, by rw [HN.out]; rfl, hiq2, his2, hbi2⟩, ?_⟩
            simp only [World.iterPos, hiq2, hiq]
            omega
          | false =>
            go_wp2
            refine ⟨⟨q + 1, by omega, ?_, hiq2, his2, hbi2⟩, ?_⟩
            · rw [HN.out, Bool.false_or]
              congr 1
              rw [Bool.eq_iff_iff, beq_iff_eq, decide_eq_true_iff]
              exact eq_comm
            · simp only [World.iterPos, hiq2, hiq]
              omega
        · have hqe : q = set.size := by omega
          subst hqe
          have hnx2 : ∀ ty, (Instr.next (.pointer (some ⟨W1.heap.size, 0, none⟩)) true ty).run Tryd.prog wr = _ := fun ty => Lib.run_next_end_at wr W1.heap.size set set.size ty hiq hqs
          have hin : (s[pos]'hp).toNat < 128 → dc.1 = (s[pos]'hp).toNat ∧ dc.2 = 1 := by
            intro h
            have := decode_ascii s pos hp h
            rw [HD.out] at this
            rw [this]
            exact ⟨rfl, rfl⟩
          have hhi : ¬ (s[pos]'hp).toNat < 128 → inSet set set.size dc.1 = false := by
            intro h
            have := decode_high s pos hp (by omega)
            rw [HD.out] at this
            exact inSet_high set HA.out _ _ (by omega)
          have hhi2 : ¬ (s[pos]'hp).toNat < 128 → inSet set set.size ((s[pos]'hp).toNat : Int) = false := fun h => inSet_high set HA.out _ _ (by omega)
          have HI := Lib.hid hin
          have HH := Lib.hid hhi
          have HH2 := Lib.hid hhi2
          clear hin hhi hhi2
          generalize hb : inSet set set.size dc.1 = b at *
          have HB := Lib.hid hb
          clear hb
          cases b with
          | true =>
            have hlt : (s[pos]'hp).toNat < 128 := by
              by_cases h : (s[pos]'hp).toNat < 128
              · exact h
              · have := HH.out h; cases this
            go_wp2
            refine ⟨⟨pos + dc.2, by have := (HI.out hlt).2; omega, ?_, his, hbi⟩, ?_⟩
            · intro j hj hlj
              obtain ⟨e1, e2⟩ := HI.out hlt
              by_cases hjp : j < pos
              · exact HP.out j hj hjp
              · have : j = pos := by omega
                subst this
                rw [← e1]; exact HB.out
            · simp only [World.iterPos, his, hit]
              omega
          | false =>
            go_wp2
            go_ret
            refine ⟨?_, hbi⟩
            have : lead set s = pos := by
              refine lead_eq set s pos hpos HP.out (fun h => ?_)
              by_cases h : (s[pos]'hp).toNat < 128
              · rw [← (HI.out h).1]; exact HB.out
              · exact HH2.out h
            rw [this]; rfl
    · have hpe : pos = s.size := by omega
      subst hpe
      have hnx : ∀ ty, (Instr.next (.pointer (some ⟨w.heap.size, 0, none⟩)) true ty).run Tryd.prog wr = _ := fun ty => Lib.run_next_end_at wr w.heap.size s s.size ty hit hp
      go_wp2
      go_ret
      refine ⟨?_, hbw⟩
      rw [lead_eq set s s.size (Nat.le_refl _) HP.out (fun h => absurd h (Nat.lt_irrefl _)), extract_end]; rfl
end Go.Proofs.YtghiboknhjnlkaaDoor
