/- The methods of json's reader that read single bytes: need, rest, eat, has, one, word. -/
import Derived.Test.YtghiboknhjnlkaaDoorShelf
import Derived.Test.YtghiboknhjnlkaaDoorJCut
import Derived.Test.YtghiboknhjnlkaaDoorJRep
import Derived.Test.YtghiboknhjnlkaaDoorEntP
import Derived.BigQuiet
import Derived.WalkLawsBesides
set_option linter.unusedVariables false
set_option linter.unusedSimpArgs false
set_option linter.unnecessarySimpa false
namespace Go.Proofs.YtghiboknhjnlkaaDoor
open Go.RowKit

/-- the reader in block r reads s, at p -/
def Rd (s : ByteArray) (r p : Nat) (w : World) : Prop := w.heap[r]? = some (.cells #[.string s, .int .i64 p] 74 (0, 0))

theorem Rd.c0 {s : ByteArray} {r p : Nat} {w : World} (h : Rd s r p w) : w.cell? ⟨r, 0, none⟩ = some (.string s) := by rw [Lib.cell_of_heap h]; rfl
theorem Rd.c1 {s : ByteArray} {r p : Nat} {w : World} (h : Rd s r p w) : w.cell? ⟨r, 1, none⟩ = some (.int .i64 p) := by rw [Lib.cell_of_heap h]; rfl
theorem Rd.fz {s : ByteArray} {r p : Nat} {w : World} (h : Rd s r p w) : w.frozen? ⟨r, 1, none⟩ = false := Lib.frozen_of_heap h 1
theorem Rd.lt {s : ByteArray} {r p : Nat} {w : World} (h : Rd s r p w) : r < w.heap.size := (Array.getElem?_eq_some_iff.1 h).1
theorem Rd.keep {s : ByteArray} {r p : Nat} {w w' : World} (h : Rd s r p w) (hk : w'.heap[r]? = w.heap[r]?) : Rd s r p w' := by unfold Rd; rw [hk]; exact h
theorem Rd.below {s : ByteArray} {r p : Nat} {w w' : World} (h : Rd s r p w) (hb : Below w.heap.size w w') : Rd s r p w' := h.keep (hb.block r h.lt)
theorem Rd.kx {s : ByteArray} {r p : Nat} {X : Nat → Prop} {w w' : World} (h : Rd s r p w) (hk : Kx X w w') (hx : ¬ X r) : Rd s r p w' := h.keep (hk.block r h.lt hx)
theorem Rd.alloc {s : ByteArray} {r p : Nat} {w : World} (h : Rd s r p w) (o : Obj) : Rd s r p (w.alloc o) := h.keep (Lib.alloc_old w o r h.lt)
theorem Rd.set {s : ByteArray} {r p : Nat} {w : World} (h : Rd s r p w) (q : Int) (m : Nat) (hq : q = m) : Rd s r m (w.setCell ⟨r, 1, none⟩ (.int .i64 q)) := by
  subst hq
  unfold Rd at h ⊢
  simp [World.setCell, Array.getElem?_modify, h]

/-- what is wrong: its place and number -/
abbrev Wr (p : Nat) (e : Int) : Ending := .panicked [{ v := .iface 71 (.agg #[.int .i64 p, .int .i64 e]), recovered := false }]

theorem idx_has (c : UInt8) : ∀ l : List UInt8, (0 ≤ Lib.indexByte l c ↔ l.contains c = true)
  | [] => by simp [Lib.indexByte]
  | b :: l => by
    have ih := idx_has c l
    have hge := Lib.indexByte_ge l c
    unfold Lib.indexByte
    by_cases h : (b == c) = true
    · rw [if_pos h]
      have : c = b := (beq_iff_eq.1 h).symm
      simp [this]
    · rw [if_neg h]
      have hne : ¬ c = b := fun e => h (by rw [e]; exact beq_self_eq_true b)
      by_cases h1 : (Lib.indexByte l c == -1) = true
      · rw [if_pos h1]
        have h2 : Lib.indexByte l c = -1 := by simpa using h1
        rw [h2] at ih
        simp only [List.contains_cons]
        constructor
        · intro h; omega
        · intro h3
          simp [hne] at h3
          have := ih.2 (by simpa using h3)
          omega
      · rw [if_neg h1]
        have h2 : Lib.indexByte l c ≠ -1 := by simpa using h1
        simp only [List.contains_cons]
        constructor
        · intro _
          have := ih.1 (by omega)
          rw [this]; simp
        · intro _; omega

abbrev RP (r : Nat) : Value := .pointer (some ⟨r, 0, none⟩)

theorem rest_size (s : ByteArray) (p : Nat) (hp : p ≤ s.size) : (s.extract p s.size).size = s.size - p := by simp

set_option maxHeartbeats 1000000 in
theorem need_ok (r : Nat) (w : World) : Calls Tryd.prog 60 #[RP r, .bool true] w fun e w' => e = .returned (.tuple #[]) ∧ w' = w := by
  go_enter Tryd.func60, Tryd.ntmps60
  go_wp2
  go_end0
  exact ⟨rfl, rfl⟩

set_option maxHeartbeats 1000000 in
theorem need_bad (s : ByteArray) (r p : Nat) (w : World) (h : Rd s r p w) : Calls Tryd.prog 60 #[RP r, .bool false] w fun e w' => e = Wr p 40 ∧ w' = w := by
  have h1 := h.c1
  go_enter Tryd.func60, Tryd.ntmps60
  go_wp2
  exact ⟨rfl, rfl, rfl⟩

set_option maxHeartbeats 1000000 in
set_option maxRecDepth 100000 in
theorem rest_any (s : ByteArray) (r p : Nat) (w : World) (h : Rd s r p w) (hp : p ≤ s.size) : Calls Tryd.prog 61 #[RP r] w fun e w' => e = .returned (.string (s.extract p s.size)) ∧ Below w.heap.size w w' := by
  have h0 := h.c0
  have h1 := h.c1
  have hp' : (0 : Int) ≤ (p : Int) ∧ (p : Int) ≤ s.size := by omega
  go_enter Tryd.func61, Tryd.ntmps61
  go_wp2_with fail
  go_quiet (fail)
  go_wp2
  go_ret
  exact ⟨rfl, below_drewN (Below.refl _ _) _⟩

theorem data_get (s : ByteArray) (p : Nat) (h : p < s.size) : s.data.toList[p]? = some (s[p]'h) := by
  rw [List.getElem?_eq_getElem (by simpa using h)]; rfl
theorem data_none (s : ByteArray) (p : Nat) (h : ¬ p < s.size) : s.data.toList[p]? = none := by
  rw [List.getElem?_eq_none (by simp; omega)]

theorem has_at (s : ByteArray) (p : Nat) (h : p < s.size) (set : List UInt8) : jHas s.data.toList p set = set.contains (s[p]'h) := by
  unfold jHas; rw [data_get s p h]; rfl
theorem has_none (s : ByteArray) (p : Nat) (h : ¬ p < s.size) (set : List UInt8) : jHas s.data.toList p set = false := by
  unfold jHas; rw [data_none s p h]; rfl

theorem rest_at (s : ByteArray) (p : Nat) (h : p < s.size) : ∀ h0, (s.extract p s.size)[0]'h0 = s[p]'h := by
  intro h0
  simp [ByteArray.getElem_extract]

theorem rest_empty (s : ByteArray) (p : Nat) (hp : p ≤ s.size) : (s.extract p s.size).toList.isEmpty = decide (s.size ≤ p) := by
  rw [ByteArray.toList_eq]
  have hz := rest_size s p hp
  cases e : (s.extract p s.size).data.toList with
  | nil =>
    have : (s.extract p s.size).size = 0 := by show (s.extract p s.size).data.size = 0; rw [← Array.length_toList, e]; rfl
    simp; omega
  | cons c r =>
    have : (s.extract p s.size).size = r.length + 1 := by show (s.extract p s.size).data.size = _; rw [← Array.length_toList, e]; rfl
    simp; omega

set_option maxHeartbeats 1000000 in
set_option maxRecDepth 100000 in
theorem one_any (s : ByteArray) (r p : Nat) (set : List UInt8) (w : World) (hR : Rd s r p w) (hp : p ≤ s.size) (hs : s.size ≤ 140737488351232) :
    Calls Tryd.prog 103 #[RP r, .string ⟨set.toArray⟩] w fun e w' => e = .returned (.bool (jHas s.data.toList p set)) ∧ Rd s r (if jHas s.data.toList p set = true then p + 1 else p) w' ∧ Kx (· = r) w w' := by
  have HR := Lib.hid (fun w h => rest_any s r p w h hp)
  have hem := rest_empty s p hp
  by_cases hlt : p < s.size
  · have hat := rest_at s p hlt
    have hsz := rest_size s p hp
    rw [has_at s p hlt]
    have hem2 : (s.extract p s.size).toList.isEmpty = false := by rw [hem]; simp; omega
    have hI := Lib.hid (fun (c : UInt8) w => Tryd.strings_IndexByte ⟨set.toArray⟩ c.toNat w)
    have hIk := hI.out (s[p]'hlt)
    have hu8 : (((s[p]'hlt).toNat : Int).toNat.toUInt8) = s[p]'hlt := by simp
    rw [hu8] at hIk
    have HIK := Lib.hid hIk
    have hidx := idx_has (s[p]'hlt) set
    have h0 : 0 < (s.extract p s.size).size := by omega
    generalize hx : s.extract p s.size = x at *
    clear hx hem hI hIk hu8 hsz
    have HD := Lib.hid hidx
    clear hidx
    rw [← hat h0] at HIK HD ⊢
    generalize hbb : set.contains (x[0]'h0) = b at *
    clear hbb hat
    have h1 := hR.c1
    cases b with
    | true =>
      have hz : (0 : Int) ≤ Lib.indexByte set (x[0]'h0) := HD.out.2 rfl
      generalize Lib.indexByte set (x[0]'h0) = z at *
      go_enter Tryd.func103, Tryd.ntmps103
      go_wp2_with (first | (go_at_call 61; refine (HR.out _ hR).mono ?_; rintro e w1 ⟨rfl, b1⟩))
      refine (HR.out _ (hR.below b1)).mono ?_
      rintro e w2 ⟨rfl, b2⟩
      have b12 := bthen b1 b2
      have hh := hR.below b12
      have c1 := hh.c1
      have f1 := hh.fz
      go_wp2_with (go_at_call 54; refine (HIK.out _).mono ?_; rintro e w3 ⟨rfl, rfl⟩)
      go_ret
      refine ⟨rfl, hh.set _ _ (by omega), Kx.setCell (X := (· = r)) (Kx.of_below b12) ⟨r, 1, none⟩ (fun _ => rfl) _⟩
    | false =>
      have hz : ¬ (0 : Int) ≤ Lib.indexByte set (x[0]'h0) := fun h => by have := HD.out.1 h; cases this
      generalize Lib.indexByte set (x[0]'h0) = z at *
      have hz2 : decide (0 ≤ z) = false := decide_eq_false hz
      go_enter Tryd.func103, Tryd.ntmps103
      go_wp2_with (first | (go_at_call 61; refine (HR.out _ hR).mono ?_; rintro e w1 ⟨rfl, b1⟩))
      refine (HR.out _ (hR.below b1)).mono ?_
      rintro e w2 ⟨rfl, b2⟩
      have b12 := bthen b1 b2
      go_wp2_with (go_at_call 54; refine (HIK.out _).mono ?_; rintro e w3 ⟨rfl, rfl⟩)
      go_ret
      exact ⟨rfl, hR.below b12, Kx.of_below b12⟩
  · have hem2 : (s.extract p s.size).toList.isEmpty = true := by rw [hem]; simp; omega
    rw [has_none s p hlt]
    generalize s.extract p s.size = x at *
    clear hem
    go_enter Tryd.func103, Tryd.ntmps103
    go_wp2_with (first | (go_at_call 61; refine (HR.out _ hR).mono ?_; rintro e w1 ⟨rfl, b1⟩))
    go_ret
    exact ⟨rfl, hR.below b1, Kx.of_below b1⟩

theorem takeWhile_le {α : Type} (f : α → Bool) (l : List α) : (l.takeWhile f).length ≤ l.length := (List.takeWhile_sublist f).length_le

set_option maxHeartbeats 1000000 in
set_option maxRecDepth 100000 in
theorem eat_any (s : ByteArray) (r p : Nat) (set : List UInt8) (ha : Ascii ⟨set.toArray⟩) (hset : set.length ≤ 1000) (w : World) (hR : Rd s r p w) (hp : p ≤ s.size) (hs : s.size ≤ 140737488351232) :
    Calls Tryd.prog 58 #[RP r, .string ⟨set.toArray⟩] w fun e w' => e = .returned (.int .i64 ((s.data.toList.drop p).takeWhile set.contains).length) ∧ Rd s r (p + ((s.data.toList.drop p).takeWhile set.contains).length) w' ∧ Kx (· = r) w w' := by
  have HR := Lib.hid (fun w h => rest_any s r p w h hp)
  have hsz := rest_size s p hp
  have HC := Lib.hid (fun w => jcut_any ⟨set.toArray⟩ (s.extract p s.size) w ha (by omega) (by simp [ByteArray.size]; omega))
  have hl := lead_list set (s.extract p s.size)
  have hle := lead_le ⟨set.toArray⟩ (s.extract p s.size)
  have hd : (s.extract p s.size).data.toList = s.data.toList.drop p := by simp [List.take_of_length_le]
  have hsz2 : ∀ n, n ≤ (s.extract p s.size).size → ((s.extract p s.size).extract n (s.extract p s.size).size).size = (s.extract p s.size).size - n := fun n hn => rest_size _ _ hn
  rw [hd] at hl
  rw [← hl]
  clear hl hd
  generalize s.extract p s.size = x at *
  have hq := hsz2 _ hle
  clear hsz2
  generalize lead ⟨set.toArray⟩ x = n at *
  generalize x.extract n x.size = y at *
  have hfin : (x.size : Int) - y.size = n := by omega
  have HF := Lib.hid hfin
  have hb1 : (x.size : Int) ≤ 140737488351232 := by omega
  have hb2 : (y.size : Int) ≤ x.size := by omega
  have hb3 : (p : Int) ≤ 140737488351232 := by omega
  clear hfin hq hsz
  go_enter Tryd.func58, Tryd.ntmps58
  go_wp2_with (first | (go_at_call 61; refine (HR.out _ hR).mono ?_; rintro e w1 ⟨rfl, b1⟩))
  refine (HR.out _ (hR.below b1)).mono ?_
  rintro e w2 ⟨rfl, b2⟩
  have b12 := bthen b1 b2
  go_wp2_with (go_at_call 81; refine (HC.out _).mono ?_; rintro e w3 ⟨rfl, b3⟩; have hh := hR.below (bthen b12 b3); have c1 := hh.c1; have f1 := hh.fz)
  go_ret
  exact ⟨ret_v (congrArg (Value.int IntKind.i64) HF.out), hh.set _ _ (by have := HF.out; omega), Kx.setCell (X := (· = r)) (Kx.of_below (bthen b12 b3)) ⟨r, 1, none⟩ (fun _ => rfl) _⟩

set_option maxHeartbeats 1000000 in
set_option maxRecDepth 100000 in
/-- one byte -/
theorem has_any (s : ByteArray) (r p : Nat) (c : UInt8) (w : World) (hR : Rd s r p w) (hp : p ≤ s.size) :
    Calls Tryd.prog 82 #[RP r, .string ⟨[c].toArray⟩] w fun e w' => e = .returned (.bool (jHas s.data.toList p [c])) ∧ Below w.heap.size w w' := by
  have HR := Lib.hid (fun w h => rest_any s r p w h hp)
  have hd : (s.extract p s.size).data.toList = s.data.toList.drop p := by simp [List.take_of_length_le]
  have HH := Lib.hid (fun w => Tryd.strings_HasPrefix (s.extract p s.size) ⟨[c].toArray⟩ w)
  have hv : Lib.hasPrefix (s.extract p s.size).data.toList [c] = jHas s.data.toList p [c] := by
    rw [hd]
    unfold jHas
    cases e : s.data.toList.drop p with
    | nil =>
      have : s.data.toList[p]? = none := by
        have h2 : (s.data.toList.drop p)[0]? = none := by rw [e]; rfl
        rwa [List.getElem?_drop] at h2
      rw [this]; rfl
    | cons b l =>
      have : s.data.toList[p]? = some b := by
        have h2 : (s.data.toList.drop p)[0]? = some b := by rw [e]; rfl
        rwa [List.getElem?_drop] at h2
      rw [this]
      show (c == b && true) = ([c].contains b)
      rw [Bool.and_true, Bool.eq_iff_iff, beq_iff_eq]
      simp only [List.contains_cons, List.contains_nil, Bool.or_false, beq_iff_eq]
      exact eq_comm
  simp only [hv] at HH
  clear hv hd
  generalize s.extract p s.size = x at *
  generalize jHas s.data.toList p [c] = b at *
  go_enter Tryd.func82, Tryd.ntmps82
  go_wp2_with (first | (go_at_call 61; refine (HR.out _ hR).mono ?_; rintro e w1 ⟨rfl, b1⟩) | (go_at_call 42; refine (HH.out _).mono ?_; rintro e w2 ⟨rfl, rfl⟩))
  go_ret
  exact ⟨rfl, b1⟩
end Go.Proofs.YtghiboknhjnlkaaDoor
