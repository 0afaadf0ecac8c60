/- The methods of json's reader that read single bytes: need, rest, eat, has, one, word. json's reader: word. json's reader: number. json's reader: four. -/
import Derived.Test.YtghiboknhjnlkaaDoorShelf
import Derived.Test.YtghiboknhjnlkaaDoorJCut
import Derived.Test.YtghiboknhjnlkaaDoorKxR
import Derived.Test.YtghiboknhjnlkaaDoorEntP
import Derived.BigQuiet
import Derived.WalkLawsBesides
import Derived.Deep.DeepCutAuto
import Derived.StillTailTactics
set_option linter.unusedVariables false
set_option linter.unusedSimpArgs false
set_option linter.unnecessarySimpa false
namespace Go.Proofs.YtghiboknhjnlkaaDoor
open Go.RowKit

/-- the reader in block r reads s, at p -/
def Rd (s : ByteArray) (r p : Nat) (w : World) : Prop := w.heap[r]? = some (.cells #[.string s, .int .i64 p] 74 (0, 0))

theorem Rd.c0 {s : ByteArray} {r p : Nat} {w : World} (h : Rd s r p w) : w.cell? ⟨r, 0, none⟩ = some (.string s) := by rw [Lib.cell_of_heap h]; rfl
theorem Rd.c1 {s : ByteArray} {r p : Nat} {w : World} (h : Rd s r p w) : w.cell? ⟨r, 1, none⟩ = some (.int .i64 p) := by rw [Lib.cell_of_heap h]; rfl
theorem Rd.fz {s : ByteArray} {r p : Nat} {w : World} (h : Rd s r p w) : w.frozen? ⟨r, 1, none⟩ = false := Lib.frozen_of_heap h 1
theorem Rd.lt {s : ByteArray} {r p : Nat} {w : World} (h : Rd s r p w) : r < w.heap.size := (Array.getElem?_eq_some_iff.1 h).1
theorem Rd.keep {s : ByteArray} {r p : Nat} {w w' : World} (h : Rd s r p w) (hk : w'.heap[r]? = w.heap[r]?) : Rd s r p w' := by unfold Rd; rw [hk]; exact h
theorem Rd.below {s : ByteArray} {r p : Nat} {w w' : World} (h : Rd s r p w) (hb : Below w.heap.size w w') : Rd s r p w' := h.keep (hb.block r h.lt)
theorem Rd.kx {s : ByteArray} {r p : Nat} {X : Nat → Prop} {w w' : World} (h : Rd s r p w) (hk : Kx X w w') (hx : ¬ X r) : Rd s r p w' := h.keep (hk.block r h.lt hx)
theorem Rd.alloc {s : ByteArray} {r p : Nat} {w : World} (h : Rd s r p w) (o : Obj) : Rd s r p (w.alloc o) := h.keep (Lib.alloc_old w o r h.lt)
theorem Rd.set {s : ByteArray} {r p : Nat} {w : World} (h : Rd s r p w) (q : Int) (m : Nat) (hq : q = m) : Rd s r m (w.setCell ⟨r, 1, none⟩ (.int .i64 q)) := by
  subst hq
  unfold Rd at h ⊢
  simp [World.setCell, Array.getElem?_modify, h]

/-- what is wrong: its place and number -/
abbrev Wr (p : Nat) (e : Int) : Ending := .panicked [{ v := .iface 71 (.agg #[.int .i64 p, .int .i64 e]), recovered := false }]

theorem idx_has (c : UInt8) : ∀ l : List UInt8, (0 ≤ Lib.indexByte l c ↔ l.contains c = true)
  | [] => by simp [Lib.indexByte]
  | b :: l => by
    have ih := idx_has c l
    have hge := Lib.indexByte_ge l c
    unfold Lib.indexByte
    by_cases h : (b == c) = true
    · rw [if_pos h]
      have : c = b := (beq_iff_eq.1 h).symm
      simp [this]
    · rw [if_neg h]
      have hne : ¬ c = b := fun e => h (by rw [e]; exact beq_self_eq_true b)
      by_cases h1 : (Lib.indexByte l c == -1) = true
      · rw [if_pos h1]
        have h2 : Lib.indexByte l c = -1 := by simpa using h1
        rw [h2] at ih
        simp only [List.contains_cons]
        constructor
        · intro h; omega
        · intro h3
          simp [hne] at h3
          have := ih.2 (by simpa using h3)
          omega
      · rw [if_neg h1]
        have h2 : Lib.indexByte l c ≠ -1 := by simpa using h1
        simp only [List.contains_cons]
        constructor
        · intro _
          have := ih.1 (by omega)
          rw [this]; simp
        · intro _; omega

abbrev RP (r : Nat) : Value := .pointer (some ⟨r, 0, none⟩)

theorem rest_size (s : ByteArray) (p : Nat) (hp : p ≤ s.size) : (s.extract p s.size).size = s.size - p := by simp

set_option maxHeartbeats 1000000 in
theorem need_ok (r : Nat) (w : World) : Calls Tryd.prog 60 #[RP r, .bool true] w fun e w' => e = .returned (.tuple #[]) ∧ w' = w := by
  go_enter Tryd.func60, Tryd.ntmps60
  go_wp2
  go_end0
  exact ⟨rfl, rfl⟩

set_option maxHeartbeats 1000000 in
theorem need_bad (s : ByteArray) (r p : Nat) (w : World) (h : Rd s r p w) : Calls Tryd.prog 60 #[RP r, .bool false] w fun e w' => e = Wr p 40 ∧ w' = w := by
  have h1 := h.c1
  go_enter Tryd.func60, Tryd.ntmps60
  go_wp2
  exact ⟨rfl, rfl, rfl⟩

set_option maxHeartbeats 1000000 in
set_option maxRecDepth 100000 in
theorem rest_any (s : ByteArray) (r p : Nat) (w : World) (h : Rd s r p w) (hp : p ≤ s.size) : Calls Tryd.prog 61 #[RP r] w fun e w' => e = .returned (.string (s.extract p s.size)) ∧ Below w.heap.size w w' := by
  have h0 := h.c0
  have h1 := h.c1
  have hp' : (0 : Int) ≤ (p : Int) ∧ (p : Int) ≤ s.size := by omega
  go_enter Tryd.func61, Tryd.ntmps61
  go_wp2_with fail
  go_quiet (fail)
  go_wp2
  go_ret
  exact ⟨rfl, below_drewN (Below.refl _ _) _⟩

theorem data_get (s : ByteArray) (p : Nat) (h : p < s.size) : s.data.toList[p]? = some (s[p]'h) := by
  rw [List.getElem?_eq_getElem (by simpa using h)]; rfl
theorem data_none (s : ByteArray) (p : Nat) (h : ¬ p < s.size) : s.data.toList[p]? = none := by
  rw [List.getElem?_eq_none (by simp; omega)]

theorem has_at (s : ByteArray) (p : Nat) (h : p < s.size) (set : List UInt8) : jHas s.data.toList p set = set.contains (s[p]'h) := by
  unfold jHas; rw [data_get s p h]; rfl
theorem has_none (s : ByteArray) (p : Nat) (h : ¬ p < s.size) (set : List UInt8) : jHas s.data.toList p set = false := by
  unfold jHas; rw [data_none s p h]; rfl

theorem rest_at (s : ByteArray) (p : Nat) (h : p < s.size) : ∀ h0, (s.extract p s.size)[0]'h0 = s[p]'h := by
  intro h0
  simp [ByteArray.getElem_extract]

theorem rest_empty (s : ByteArray) (p : Nat) (hp : p ≤ s.size) : (s.extract p s.size).toList.isEmpty = decide (s.size ≤ p) := by
  rw [ByteArray.toList_eq]
  have hz := rest_size s p hp
  cases e : (s.extract p s.size).data.toList with
  | nil =>
    have : (s.extract p s.size).size = 0 := by show (s.extract p s.size).data.size = 0; rw [← Array.length_toList, e]; rfl
    simp; omega
  | cons c r =>
    have : (s.extract p s.size).size = r.length + 1 := by show (s.extract p s.size).data.size = _; rw [← Array.length_toList, e]; rfl
    simp; omega

set_option maxHeartbeats 1000000 in
set_option maxRecDepth 100000 in
theorem one_any (s : ByteArray) (r p : Nat) (set : List UInt8) (w : World) (hR : Rd s r p w) (hp : p ≤ s.size) (hs : s.size ≤ 140737488351232) :
    Calls Tryd.prog 103 #[RP r, .string ⟨set.toArray⟩] w fun e w' => e = .returned (.bool (jHas s.data.toList p set)) ∧ Rd s r (if jHas s.data.toList p set = true then p + 1 else p) w' ∧ Kx (· = r) w w' := by
  have HR := Lib.hid (fun w h => rest_any s r p w h hp)
  have hem := rest_empty s p hp
  by_cases hlt : p < s.size
  · have hat := rest_at s p hlt
    have hsz := rest_size s p hp
    rw [has_at s p hlt]
    have hem2 : (s.extract p s.size).toList.isEmpty = false := by rw [hem]; simp; omega
    have hI := Lib.hid (fun (c : UInt8) w => Tryd.strings_IndexByte ⟨set.toArray⟩ c.toNat w)
    have hIk := hI.out (s[p]'hlt)
    have hu8 : (((s[p]'hlt).toNat : Int).toNat.toUInt8) = s[p]'hlt := by simp
    rw [hu8] at hIk
    have HIK := Lib.hid hIk
    have hidx := idx_has (s[p]'hlt) set
    have h0 : 0 < (s.extract p s.size).size := by omega
    generalize hx : s.extract p s.size = x at *
    clear hx hem hI hIk hu8 hsz
    have HD := Lib.hid hidx
    clear hidx
    rw [← hat h0] at HIK HD ⊢
    generalize hbb : set.contains (x[0]'h0) = b at *
    clear hbb hat
    have h1 := hR.c1
    cases b with
    | true =>
      have hz : (0 : Int) ≤ Lib.indexByte set (x[0]'h0) := HD.out.2 rfl
      generalize Lib.indexByte set (x[0]'h0) = z at *
      go_enter Tryd.func103, Tryd.ntmps103
      go_wp2_with (first | (go_at_call 61; refine (HR.out _ hR).mono ?_; rintro e w1 ⟨rfl, b1⟩))
      refine (HR.out _ (hR.below b1)).mono ?_
      rintro e w2 ⟨rfl, b2⟩
      have b12 := bthen b1 b2
      have hh := hR.below b12
      have c1 := hh.c1
      have f1 := hh.fz
      go_wp2_with (go_at_call 54; refine (HIK.out _).mono ?_; rintro e w3 ⟨rfl, rfl⟩)
      go_ret
      refine ⟨rfl, hh.set _ _ (by omega), Kx.setCell (X := (· = r)) (Kx.of_below b12) ⟨r, 1, none⟩ (fun _ => rfl) _⟩
    | false =>
      have hz : ¬ (0 : Int) ≤ Lib.indexByte set (x[0]'h0) := fun h => by have := HD.out.1 h; cases this
      generalize Lib.indexByte set (x[0]'h0) = z at *
      have hz2 : decide (0 ≤ z) = false := decide_eq_false hz
      go_enter Tryd.func103, Tryd.ntmps103
      go_wp2_with (first | (go_at_call 61; refine (HR.out _ hR).mono ?_; rintro e w1 ⟨rfl, b1⟩))
      refine (HR.out _ (hR.below b1)).mono ?_
      rintro e w2 ⟨rfl, b2⟩
      have b12 := bthen b1 b2
      go_wp2_with (go_at_call 54; refine (HIK.out _).mono ?_; rintro e w3 ⟨rfl, rfl⟩)
      go_ret
      exact ⟨rfl, hR.below b12, Kx.of_below b12⟩
  · have hem2 : (s.extract p s.size).toList.isEmpty = true := by rw [hem]; simp; omega
    rw [has_none s p hlt]
    generalize s.extract p s.size = x at *
    clear hem
    go_enter Tryd.func103, Tryd.ntmps103
    go_wp2_with (first | (go_at_call 61; refine (HR.out _ hR).mono ?_; rintro e w1 ⟨rfl, b1⟩))
    go_ret
    exact ⟨rfl, hR.below b1, Kx.of_below b1⟩

theorem takeWhile_le {α : Type} (f : α → Bool) (l : List α) : (l.takeWhile f).length ≤ l.length := (List.takeWhile_sublist f).length_le

set_option maxHeartbeats 1000000 in
set_option maxRecDepth 100000 in
theorem eat_any (s : ByteArray) (r p : Nat) (set : List UInt8) (ha : Ascii ⟨set.toArray⟩) (hset : set.length ≤ 1000) (w : World) (hR : Rd s r p w) (hp : p ≤ s.size) (hs : s.size ≤ 140737488351232) :
    Calls Tryd.prog 58 #[RP r, .string ⟨set.toArray⟩] w fun e w' => e = .returned (.int .i64 ((s.data.toList.drop p).takeWhile set.contains).length) ∧ Rd s r (p + ((s.data.toList.drop p).takeWhile set.contains).length) w' ∧ Kx (· = r) w w' := by
  have HR := Lib.hid (fun w h => rest_any s r p w h hp)
  have hsz := rest_size s p hp
  have HC := Lib.hid (fun w => jcut_any ⟨set.toArray⟩ (s.extract p s.size) w ha (by omega) (by simp [ByteArray.size]; omega))
  have hl := lead_list set (s.extract p s.size)
  have hle := lead_le ⟨set.toArray⟩ (s.extract p s.size)
  have hd : (s.extract p s.size).data.toList = s.data.toList.drop p := by simp [List.take_of_length_le]
  have hsz2 : ∀ n, n ≤ (s.extract p s.size).size → ((s.extract p s.size).extract n (s.extract p s.size).size).size = (s.extract p s.size).size - n := fun n hn => rest_size _ _ hn
  rw [hd] at hl
  rw [← hl]
  clear hl hd
  generalize s.extract p s.size = x at *
  have hq := hsz2 _ hle
  clear hsz2
  generalize lead ⟨set.toArray⟩ x = n at *
  generalize x.extract n x.size = y at *
  have hfin : (x.size : Int) - y.size = n := by omega
  have HF := Lib.hid hfin
  have hb1 : (x.size : Int) ≤ 140737488351232 := by omega
  have hb2 : (y.size : Int) ≤ x.size := by omega
  have hb3 : (p : Int) ≤ 140737488351232 := by omega
  clear hfin hq hsz
  go_enter Tryd.func58, Tryd.ntmps58
  go_wp2_with (first | (go_at_call 61; refine (HR.out _ hR).mono ?_; rintro e w1 ⟨rfl, b1⟩))
  refine (HR.out _ (hR.below b1)).mono ?_
  rintro e w2 ⟨rfl, b2⟩
  have b12 := bthen b1 b2
  go_wp2_with (go_at_call 81; refine (HC.out _).mono ?_; rintro e w3 ⟨rfl, b3⟩; have hh := hR.below (bthen b12 b3); have c1 := hh.c1; have f1 := hh.fz)
  go_ret
  exact ⟨ret_v (congrArg (Value.int IntKind.i64) HF.out), hh.set _ _ (by have := HF.out; omega), Kx.setCell (X := (· = r)) (Kx.of_below (bthen b12 b3)) ⟨r, 1, none⟩ (fun _ => rfl) _⟩

set_option maxHeartbeats 1000000 in
set_option maxRecDepth 100000 in
/-- one byte -/
theorem has_any (s : ByteArray) (r p : Nat) (c : UInt8) (w : World) (hR : Rd s r p w) (hp : p ≤ s.size) :
    Calls Tryd.prog 82 #[RP r, .string ⟨[c].toArray⟩] w fun e w' => e = .returned (.bool (jHas s.data.toList p [c])) ∧ Below w.heap.size w w' := by
  have HR := Lib.hid (fun w h => rest_any s r p w h hp)
  have hd : (s.extract p s.size).data.toList = s.data.toList.drop p := by simp [List.take_of_length_le]
  have HH := Lib.hid (fun w => Tryd.strings_HasPrefix (s.extract p s.size) ⟨[c].toArray⟩ w)
  have hv : Lib.hasPrefix (s.extract p s.size).data.toList [c] = jHas s.data.toList p [c] := by
    rw [hd]
    unfold jHas
    cases e : s.data.toList.drop p with
    | nil =>
      have : s.data.toList[p]? = none := by
        have h2 : (s.data.toList.drop p)[0]? = none := by rw [e]; rfl
        rwa [List.getElem?_drop] at h2
      rw [this]; rfl
    | cons b l =>
      have : s.data.toList[p]? = some b := by
        have h2 : (s.data.toList.drop p)[0]? = some b := by rw [e]; rfl
        rwa [List.getElem?_drop] at h2
      rw [this]
      show (c == b && true) = ([c].contains b)
      rw [Bool.and_true, Bool.eq_iff_iff, beq_iff_eq]
      simp only [List.contains_cons, List.contains_nil, Bool.or_false, beq_iff_eq]
      exact eq_comm
  simp only [hv] at HH
  clear hv hd
  generalize s.extract p s.size = x at *
  generalize jHas s.data.toList p [c] = b at *
  go_enter Tryd.func82, Tryd.ntmps82
  go_wp2_with (first | (go_at_call 61; refine (HR.out _ hR).mono ?_; rintro e w1 ⟨rfl, b1⟩) | (go_at_call 42; refine (HH.out _).mono ?_; rintro e w2 ⟨rfl, rfl⟩))
  go_ret
  exact ⟨rfl, b1⟩
end Go.Proofs.YtghiboknhjnlkaaDoor

namespace Go.Proofs.YtghiboknhjnlkaaDoor
open Go.RowKit

/-- how a method that hands back nothing ends -/
def Ended (s : ByteArray) (r : Nat) (R : Except Nat Nat) (e : Ending) (w' : World) : Prop :=
  match R with
  | .ok q => e = .returned (.tuple #[]) ∧ Rd s r q w' ∧ q ≤ s.size
  | .error q => e = Wr q 40 ∧ q ≤ s.size

theorem jHas_one (l : List UInt8) (p : Nat) (c : UInt8) : jHas l p [c] = decide (l[p]? = some c) := by
  unfold jHas
  cases l[p]? with
  | none => simp
  | some b =>
    simp only [Option.any_some, List.contains_cons, List.contains_nil, Bool.or_false, Option.some.injEq]
    rw [Bool.eq_iff_iff, beq_iff_eq, decide_eq_true_iff]

set_option maxHeartbeats 2000000 in
set_option maxRecDepth 100000 in
theorem word_any (s : ByteArray) (r p : Nat) (wd : List UInt8) (hwd : wd.length ≤ 1000) (w : World) (hR : Rd s r p w) (hp : p ≤ s.size) (hs : s.size ≤ 140737488351232) :
    Calls Tryd.prog 83 #[RP r, .string ⟨wd.toArray⟩] w fun e w' => Ended s r (jWord s.data.toList p wd) e w' ∧ Kx (· = r) w w' := by
  have hO := Lib.hid (fun (q : Nat) (c : UInt8) w h hq => one_any s r q [c] w h hq hs)
  generalize hRR : jWord s.data.toList p wd = RR
  have HRR := Lib.hid hRR
  clear hRR
  go_enter Tryd.func83, Tryd.ntmps83
  go_wp2
  go_loopw [7] (fun v wr => ∃ k : Nat, v = .int .i64 k ∧ k ≤ wd.length ∧ Rd s r (p + k) wr ∧ p + k ≤ s.size ∧ Hid (jWord s.data.toList (p + k) (wd.drop k) = RR) ∧ Kx (· = r) w wr) (fun v _ => wd.length - (intOf v).toNat)
  case atStart => exact ⟨0, rfl, Nat.zero_le _, hR, hp, HRR.out, Kx.refl _ _⟩
  case round =>
    obtain ⟨k, rfl, hk, hRk, hpk, HJ, hK⟩ := hrel
    by_cases hlt : k < wd.length
    · have hx : (⟨wd.toArray⟩ : ByteArray).extract k (k + 1) = ⟨[wd[k]].toArray⟩ := by
        apply ByteArray.ext
        apply Array.ext'
        simp [List.take_one, List.head?_drop, List.getElem?_eq_getElem hlt]
      have hone := hO.out (p + k) wd[k] wr hRk hpk
      rw [← hx] at hone
      have hj := HJ.out
      rw [List.drop_eq_getElem_cons hlt] at hj
      unfold jWord at hj
      have hj1 := jHas_one s.data.toList (p + k) wd[k]
      have hsl : (0 : Int) ≤ (k : Int) ∧ (k : Int) ≤ (k : Int) + 1 ∧ (k : Int) + 1 ≤ wd.length := by omega
      have HO1 := Lib.hid hone
      clear hone hx hO HJ
      by_cases hc : s.data.toList[p + k]? = some wd[k]
      · rw [if_pos hc] at hj
        rw [decide_eq_true hc] at hj1
        have hlt2 : p + k < s.size := by
          rcases Nat.lt_or_ge (p + k) s.size with h | h
          · exact h
          · rw [data_none s _ (by omega)] at hc; cases hc
        have HO2 := HO1.out
        rw [hj1] at HO2
        have HO3 := Lib.hid HO2
        have HJ2 := Lib.hid hj
        have HKK := Lib.hid hK
        clear hj hj1 hc HO1 HO2 hK
        go_wp2_with (first | (go_at_call 103; refine HO3.out.mono ?_; rintro e w2 ⟨rfl, hR2, k2⟩) | (go_at_call 60; refine (need_ok r _).mono ?_; rintro e w3 ⟨rfl, rfl⟩))
        rw [if_pos trivial] at hR2
        exact ⟨⟨k + 1, by go_num, by omega, hR2, by omega, HJ2.out, HKK.out.trans k2⟩, by simp [intOf]; omega⟩
      · rw [if_neg hc] at hj
        rw [decide_eq_false hc] at hj1
        have HO2 := HO1.out
        rw [hj1] at HO2
        have HO3 := Lib.hid HO2
        have HJ2 := Lib.hid hj
        have HKK := Lib.hid hK
        clear hj hj1 hc HO1 HO2 hK
        go_wp2_with (first | (go_at_call 103; refine HO3.out.mono ?_; rintro e w2 ⟨rfl, hR2, k2⟩; rw [if_neg (by simp)] at hR2) | (go_at_call 60; refine (need_bad s r _ _ hR2).mono ?_; rintro e w3 ⟨rfl, rfl⟩))
        refine ⟨rfl, ?_, HKK.out.trans k2⟩
        rw [← HJ2.out]
        exact ⟨rfl, hpk⟩
    · have hke : k = wd.length := by omega
      have hj := HJ.out
      rw [hke, List.drop_length] at hj
      unfold jWord at hj
      have HJ2 := Lib.hid hj
      clear hj
      go_wp2
      go_end0
      refine ⟨?_, hK⟩
      rw [← HJ2.out]
      exact ⟨rfl, hke ▸ hRk, hke ▸ hpk⟩
end Go.Proofs.YtghiboknhjnlkaaDoor

namespace Go.Proofs.YtghiboknhjnlkaaDoor
open Go.RowKit

def dgS : List UInt8 := [48, 49, 50, 51, 52, 53, 54, 55, 56, 57]

theorem ascii_dgS : Ascii ⟨dgS.toArray⟩ := by
  intro k hk
  have : ∀ k : Fin 10, ((⟨dgS.toArray⟩ : ByteArray)[k.1]'(by exact k.2)).toNat < 128 := by decide
  exact this ⟨k, hk⟩

theorem has_lt (s : ByteArray) (p : Nat) (set : List UInt8) (h : jHas s.data.toList p set = true) : p < s.size := by
  rcases Nat.lt_or_ge p s.size with h2 | h2
  · exact h2
  · rw [has_none s p (by omega)] at h; cases h

theorem drop_len (s : ByteArray) (p : Nat) (hp : p ≤ s.size) : (s.data.toList.drop p).length = s.size - p := by simp

theorem jDigs_le (s : ByteArray) (p q : Nat) (hp : p ≤ s.size) (h : jDigs s.data.toList p = .ok q) : p ≤ q ∧ q ≤ s.size := by
  unfold jDigs at h
  have := takeWhile_le isDg (s.data.toList.drop p)
  rw [drop_len s p hp] at this
  split at h
  · cases h
  · injection h; omega

/-- the digits that must stand here: how many, and what comes of it -/
theorem digs_cases (s : ByteArray) (r p : Nat) (hp : p ≤ s.size) (hs : s.size ≤ 140737488351232) :
    ∃ n : Nat, (∀ w, Rd s r p w → Calls Tryd.prog 58 #[RP r, .string ⟨dgS.toArray⟩] w fun e w' => e = .returned (.int .i64 n) ∧ Rd s r (p + n) w' ∧ Kx (· = r) w w') ∧
      ((n = 0 ∧ jDigs s.data.toList p = .error p) ∨ (0 < n ∧ jDigs s.data.toList p = .ok (p + n) ∧ p + n ≤ s.size)) := by
  refine ⟨((s.data.toList.drop p).takeWhile dgS.contains).length, fun w h => eat_any s r p dgS ascii_dgS (by decide) w h hp hs, ?_⟩
  have hle := takeWhile_le isDg (s.data.toList.drop p)
  rw [drop_len s p hp] at hle
  have hd : jDigs s.data.toList p = if ((s.data.toList.drop p).takeWhile dgS.contains).length = 0 then .error p else .ok (p + ((s.data.toList.drop p).takeWhile dgS.contains).length) := rfl
  have he : ((s.data.toList.drop p).takeWhile isDg).length = ((s.data.toList.drop p).takeWhile dgS.contains).length := rfl
  rw [he] at hle
  generalize ((s.data.toList.drop p).takeWhile dgS.contains).length = n at *
  by_cases hn : n = 0
  · rw [if_pos hn] at hd; exact .inl ⟨hn, hd⟩
  · rw [if_neg hn] at hd; exact .inr ⟨by omega, hd, by omega⟩

/-- how a method that hands back what it has read ends -/
def Read (s : ByteArray) (r p : Nat) (R : Except Nat Nat) (e : Ending) (w' : World) : Prop :=
  match R with
  | .ok q => e = .returned (.string (s.extract p q)) ∧ Rd s r q w' ∧ p ≤ q ∧ q ≤ s.size
  | .error q => e = Wr q 40 ∧ q ≤ s.size

set_option maxHeartbeats 400000 in
set_option maxRecDepth 100000 in
theorem number_any (s : ByteArray) (r p : Nat) (w : World) (hR : Rd s r p w) (hp : p ≤ s.size) (hs : s.size ≤ 140737488351232) :
    Calls Tryd.prog 89 #[RP r] w fun e w' => Read s r p (jNum s.data.toList p) e w' ∧ Kx (· = r) w w' := by
  have hO := Lib.hid (fun (q : Nat) (set : List UInt8) w h hq => one_any s r q set w h hq hs)
  have HD := Lib.hid (fun q hq => digs_cases s r q hq hs)
  generalize hRR : jNum s.data.toList p = RR
  unfold jNum at hRR
  obtain ⟨p1, hp1⟩ : ∃ p1, (if jHas s.data.toList p [45] = true then p + 1 else p) = p1 := ⟨_, rfl⟩
  rw [hp1] at hRR
  have hp1s : p ≤ p1 ∧ p1 ≤ s.size := by
    subst hp1
    split
    · rename_i h; have := has_lt s p _ h; omega
    · omega
  have O45 := hO.out p [45] w hR hp
  rw [hp1] at O45
  generalize jHas s.data.toList p [45] = b45 at *
  have hj0 : jNum0 s.data.toList p1 = if jHas s.data.toList p1 [48] = true then .ok (p1 + 1) else jDigs s.data.toList p1 := rfl
  have hl48 := has_lt s p1 [48]
  have O48 := Lib.hid (fun w h => hO.out p1 [48] w h hp1s.2)
  generalize jHas s.data.toList p1 [48] = b48 at *
  have HRR := Lib.hid hRR
  have HJ0 := Lib.hid hj0
  have c1 := hR.c1
  clear hRR hp1 hj0
  go_enter Tryd.func89, Tryd.ntmps89
  go_wp2_with fail
  refine O45.mono ?_
  rintro e w1 ⟨rfl, hR1, k1⟩
  go_wp2_with fail
  refine (O48.out _ hR1).mono ?_
  rintro e w2 ⟨rfl, hR2, k2⟩
  go_upto_if 12 with fail
  go_cut [3] (fun v3 wx => v3 = .int .i64 p ∧ ∃ p2, Hid (jNum0 s.data.toList p1 = .ok p2) ∧ p ≤ p2 ∧ p2 ≤ s.size ∧ Rd s r p2 wx ∧ Kx (· = r) w wx)
  case first =>
    have hj := HJ0.out
    cases b48 with
    | true =>
      rw [if_pos rfl] at hj hR2
      have HJ := Lib.hid hj
      clear hj HJ0
      have := hl48 rfl
      go_wp2
      go_meet
      case rel => exact ⟨rfl, p1 + 1, HJ.out, by omega, by omega, hR2, k1.trans k2⟩
    | false =>
      rw [if_neg (by simp)] at hj hR2
      obtain ⟨n, E, hn⟩ := HD.out p1 hp1s.2
      have HE := Lib.hid E
      rcases hn with ⟨hn, hj2⟩ | ⟨hn, hj2, hn2⟩
      · rw [hj2] at hj
        have hrr := HRR.out
        rw [hj] at hrr
        have HR2 := Lib.hid hrr
        clear hj hj2 hrr HJ0 HRR E
        subst hn
        go_wp2_with fail
        refine (HE.out _ hR2).mono ?_
        rintro e w3 ⟨rfl, hR3, k3⟩
        go_wp2_with fail
        refine (need_bad s r _ _ hR3).mono ?_
        rintro e w4 ⟨rfl, rfl⟩
        go_wp2_with fail
        refine ⟨rfl, ?_, (k1.trans k2).trans k3⟩
        rw [← HR2.out]
        exact ⟨rfl, hp1s.2⟩
      · rw [hj2] at hj
        have HJ := Lib.hid hj
        clear hj hj2 HJ0 E
        go_wp2_with fail
        refine (HE.out _ hR2).mono ?_
        rintro e w3 ⟨rfl, hR3, k3⟩
        go_wp2_with fail
        refine (need_ok r _).mono ?_
        rintro e w4 ⟨rfl, rfl⟩
        go_wp2_with fail
        go_meet
        case rel => exact ⟨rfl, p1 + n, HJ.out, by omega, hn2, hR3, (k1.trans k2).trans k3⟩
  case rest =>
    obtain ⟨rfl, p2, HJ0', hpp2, hp2s, hR2, k2⟩ := hcut
    have hrr := HRR.out
    rw [HJ0'.out] at hrr
    have HRR1 : Hid ((match jNum1 s.data.toList p2 with | .error e => .error e | .ok p3 => jNum2 s.data.toList p3) = RR) := hrr
    clear hrr HRR HJ0 HJ0' O48 O45 hl48 c1
    have hj1 : jNum1 s.data.toList p2 = if jHas s.data.toList p2 [46] = true then jDigs s.data.toList (p2 + 1) else .ok p2 := rfl
    have hl := has_lt s p2 [46]
    have O46 := Lib.hid (hO.out p2 [46] wc hR2 hp2s)
    generalize jHas s.data.toList p2 [46] = b46 at *
    have HJ1 := Lib.hid hj1
    clear hj1
    go_wp2_with fail
    refine O46.out.mono ?_
    rintro e w3 ⟨rfl, hR3, k3⟩
    go_upto_if 19 with fail
    go_cut [3] (fun v3 wx => v3 = .int .i64 p ∧ ∃ p3, Hid (jNum1 s.data.toList p2 = .ok p3) ∧ p ≤ p3 ∧ p3 ≤ s.size ∧ Rd s r p3 wx ∧ Kx (· = r) w wx)
    case first =>
      have hj := HJ1.out
      cases b46 with
      | false =>
        rw [if_neg (by simp)] at hj hR3
        have HJ := Lib.hid hj
        clear hj HJ1
        go_wp2
        go_meet
        case rel => exact ⟨rfl, p2, HJ.out, hpp2, hp2s, hR3, k2.trans k3⟩
      | true =>
        rw [if_pos rfl] at hj hR3
        have hlt := hl rfl
        obtain ⟨n, E, hn⟩ := HD.out (p2 + 1) (by omega)
        have HE := Lib.hid E
        rcases hn with ⟨hn, hj2⟩ | ⟨hn, hj2, hn2⟩
        · rw [hj2] at hj
          have hrr := HRR1.out
          rw [hj] at hrr
          have HR2 := Lib.hid hrr
          clear hj hj2 hrr HJ1 HRR1 E
          subst hn
          go_wp2_with fail
          refine (HE.out _ hR3).mono ?_
          rintro e w3 ⟨rfl, hR4, k4⟩
          go_wp2_with fail
          refine (need_bad s r _ _ hR4).mono ?_
          rintro e w4 ⟨rfl, rfl⟩
          go_wp2_with fail
          refine ⟨rfl, ?_, (k2.trans k3).trans k4⟩
          rw [← HR2.out]
          exact ⟨rfl, by omega⟩
        · rw [hj2] at hj
          have HJ := Lib.hid hj
          clear hj hj2 HJ1 E
          go_wp2_with fail
          refine (HE.out _ hR3).mono ?_
          rintro e w3 ⟨rfl, hR4, k4⟩
          go_wp2_with fail
          refine (need_ok r _).mono ?_
          rintro e w4 ⟨rfl, rfl⟩
          go_wp2_with fail
          go_meet
          case rel => exact ⟨rfl, p2 + 1 + n, HJ.out, by omega, hn2, hR4, (k2.trans k3).trans k4⟩
    case rest =>
      obtain ⟨rfl, p3, HJ1', hpp3, hp3s, hR3, k3⟩ := hcut
      have hrr := HRR1.out
      rw [HJ1'.out] at hrr
      have HRR2 : Hid (jNum2 s.data.toList p3 = RR) := hrr
      clear hrr HRR1 HJ1 HJ1' O46 hl
      have hj1 : jNum2 s.data.toList p3 = if jHas s.data.toList p3 [101, 69] = true then jDigs s.data.toList (if jHas s.data.toList (p3 + 1) [43, 45] = true then p3 + 2 else p3 + 1) else .ok p3 := rfl
      have hl := has_lt s p3 [101, 69]
      have O46 := Lib.hid (hO.out p3 [101, 69] wc hR3 hp3s)
      generalize jHas s.data.toList p3 [101, 69] = b46 at *
      have HJ1 := Lib.hid hj1
      clear hj1
      go_wp2_with fail
      refine O46.out.mono ?_
      rintro e w3 ⟨rfl, hR4, k4⟩
      go_upto_if 26 with fail
      go_cut [3] (fun v3 wx => v3 = .int .i64 p ∧ ∃ p3', Hid (jNum2 s.data.toList p3 = .ok p3') ∧ p ≤ p3' ∧ p3' ≤ s.size ∧ Rd s r p3' wx ∧ Kx (· = r) w wx)
      case first =>
        have hj := HJ1.out
        cases b46 with
        | false =>
          rw [if_neg (by simp)] at hj hR4
          have HJ := Lib.hid hj
          clear hj HJ1
          go_wp2
          go_meet
          case rel => exact ⟨rfl, p3, HJ.out, hpp3, hp3s, hR4, k3.trans k4⟩
        | true =>
          rw [if_pos rfl] at hj hR4
          have hlt := hl rfl
          obtain ⟨p4, hp4⟩ : ∃ p4, (if jHas s.data.toList (p3 + 1) [43, 45] = true then p3 + 2 else p3 + 1) = p4 := ⟨_, rfl⟩
          rw [hp4] at hj
          have hp4s : p ≤ p4 ∧ p4 ≤ s.size := by
            subst hp4
            split
            · rename_i h; have := has_lt s (p3 + 1) _ h; omega
            · omega
          have OS := Lib.hid (fun w h => hO.out (p3 + 1) [43, 45] w h (by omega))
          rw [show p3 + 1 + 1 = p3 + 2 from rfl, hp4] at OS
          generalize jHas s.data.toList (p3 + 1) [43, 45] = bs at *
          clear hp4
          obtain ⟨n, E, hn⟩ := HD.out p4 hp4s.2
          have HE := Lib.hid E
          rcases hn with ⟨hn, hj2⟩ | ⟨hn, hj2, hn2⟩
          · rw [hj2] at hj
            have hrr := HRR2.out
            rw [hj] at hrr
            have HR2 := Lib.hid hrr
            clear hj hj2 hrr HJ1 HRR2 E
            subst hn
            go_wp2_with fail
            refine (OS.out _ hR4).mono ?_
            rintro e w5 ⟨rfl, hR5, k5⟩
            go_wp2_with fail
            refine (HE.out _ hR5).mono ?_
            rintro e w6 ⟨rfl, hR6, k6⟩
            go_wp2_with fail
            refine (need_bad s r _ _ hR6).mono ?_
            rintro e w4 ⟨rfl, rfl⟩
            go_wp2_with fail
            refine ⟨rfl, ?_, ((k3.trans k4).trans k5).trans k6⟩
            rw [← HR2.out]
            exact ⟨rfl, by omega⟩
          · rw [hj2] at hj
            have HJ := Lib.hid hj
            clear hj hj2 HJ1 E
            go_wp2_with fail
            refine (OS.out _ hR4).mono ?_
            rintro e w5 ⟨rfl, hR5, k5⟩
            go_wp2_with fail
            refine (HE.out _ hR5).mono ?_
            rintro e w6 ⟨rfl, hR6, k6⟩
            go_wp2_with fail
            refine (need_ok r _).mono ?_
            rintro e w4 ⟨rfl, rfl⟩
            go_wp2_with fail
            go_meet
            case rel => exact ⟨rfl, p4 + n, HJ.out, by omega, hn2, hR6, ((k3.trans k4).trans k5).trans k6⟩
      case rest =>
        obtain ⟨rfl, q, HJ2, hpq, hqs, hR5, k5⟩ := hcut
        have hrr := HRR2.out
        rw [HJ2.out] at hrr
        have HF := Lib.hid hrr
        clear hrr HRR2 HJ1 HJ2
        have c0 := hR5.c0
        have c1 := hR5.c1
        have hsl : (0 : Int) ≤ (p : Int) ∧ (p : Int) ≤ (q : Int) ∧ (q : Int) ≤ s.size := by omega
        go_wp2_with fail
        go_quiet (fail)
        go_wp2
        go_ret
        refine ⟨?_, k5.trans (Kx.of_below (below_drewN (Below.refl _ _) _))⟩
        rw [← HF.out]
        exact ⟨rfl, hR5, hpq, hqs⟩
end Go.Proofs.YtghiboknhjnlkaaDoor

namespace Go.Proofs.YtghiboknhjnlkaaDoor
open Go.RowKit

theorem u8_all (P : UInt8 → Prop) [DecidablePred P] (h : ∀ n : Fin 256, P (UInt8.ofNat n.val)) : ∀ c, P c := fun c => by
  have := h ⟨c.toNat, c.toNat_lt⟩
  simpa using this

theorem hexv : ∀ c : UInt8, hexS.contains c = decide (dval c < 16) := u8_all _ (by decide +kernel)

theorem jhas_hex (l : List UInt8) (p : Nat) : jHas l p hexS = (l[p]?).any fun c => decide (dval c < 16) := by
  unfold jHas
  congr 1
  funext c
  exact hexv c

set_option maxHeartbeats 1000000 in
set_option maxRecDepth 100000 in
theorem parseUintP_any (s : ByteArray) (base : Nat) (B : Int) (hb : base = 10 ∧ B = 10 ∨ base = 16 ∧ B = 16) (bits : Int) (hbits : bits = 32 ∨ bits = 64) (w : World) (hne : s.size ≠ 0) (hs : s.size ≤ 7) (hd : ∀ c ∈ s.data.toList, dval c < base) :
    Calls Tryd.prog 123 #[.string s, .int .i64 B, .int .i64 bits] w fun e w' => e = .returned (.tuple #[.int .u64 (numVal base s.data.toList), .nilIface]) ∧ Below w.heap.size w w' := by
  have hP := Lib.hid (fun w => parseUint_any s base B hb bits hbits w hne hs hd)
  clear hb hne hs hd hbits
  go_enter Tryd.func123, Tryd.ntmps123
  go_wp2_with (go_at_call 109; refine (hP.out _).mono ?_; rintro e w' ⟨rfl, hb⟩)
  go_ret2
  exact ⟨rfl, hb⟩

/-- how four ends -/
def FourE (s : ByteArray) (r p : Nat) (R : Except Nat Nat) (e : Ending) (w' : World) : Prop :=
  match R with
  | .ok v => e = .returned (.int .i32 v) ∧ Rd s r (p + 4) w' ∧ p + 4 ≤ s.size ∧ v < 65536
  | .error q => e = Wr q 40 ∧ q ≤ s.size

theorem take_snoc_at (l : List UInt8) (p k : Nat) (c : UInt8) (h : l[p + k]? = some c) : (l.drop p).take (k + 1) = (l.drop p).take k ++ [c] := by
  have h2 : (l.drop p)[k]? = some c := by rw [List.getElem?_drop]; exact h
  rw [List.take_add_one, h2]
  rfl

set_option maxHeartbeats 2000000 in
set_option maxRecDepth 100000 in
theorem four_any (s : ByteArray) (r p : Nat) (w : World) (hR : Rd s r p w) (hp : p ≤ s.size) (hs : s.size ≤ 140737488351232) :
    Calls Tryd.prog 114 #[RP r] w fun e w' => FourE s r p (jFour s.data.toList p) e w' ∧ Kx (· = r) w w' := by
  have hO := Lib.hid (fun (q : Nat) w h hq => one_any s r q hexS w h hq hs)
  generalize hRR : jFour s.data.toList p = RR
  have HRR := Lib.hid hRR
  have c1 := hR.c1
  clear hRR
  go_enter Tryd.func114, Tryd.ntmps114
  go_wp2
  go_loopw [10] (fun v wr => ∃ k : Nat, v = .int .i64 k ∧ k ≤ 4 ∧ Rd s r (p + k) wr ∧ p + k ≤ s.size ∧ Hid (jHex s.data.toList (4 - k) (p + k) (numVal 16 ((s.data.toList.drop p).take k)) = RR) ∧ Hid (∀ c ∈ (s.data.toList.drop p).take k, dval c < 16) ∧ Kx (· = r) w wr) (fun v _ => 4 - (intOf v).toNat)
  case atStart => exact ⟨0, rfl, by omega, hR, hp, HRR.out, by intro c hc; simp at hc, Kx.refl _ _⟩
  case round =>
    obtain ⟨k, rfl, hk, hRk, hpk, HJ, HD, hK⟩ := hrel
    by_cases hlt : k < 4
    · have hone := hO.out (p + k) wr hRk hpk
      rw [jhas_hex] at hone
      have hj := HJ.out
      obtain ⟨m, hm⟩ : ∃ m, 4 - k = m + 1 := ⟨3 - k, by omega⟩
      rw [hm] at hj
      unfold jHex at hj
      by_cases hc : ∃ c, s.data.toList[p + k]? = some c ∧ dval c < 16
      · obtain ⟨c, hc1, hc2⟩ := hc
        have hlt2 : p + k < s.size := by
          rcases Nat.lt_or_ge (p + k) s.size with h | h
          · exact h
          · rw [data_none s _ (by omega)] at hc1; cases hc1
        rw [hc1] at hj hone
        simp only [hc2, if_true, Option.any_some, decide_true] at hj hone
        have hsn := take_snoc_at _ _ _ _ hc1
        have hj2 : Hid (jHex s.data.toList (4 - (k + 1)) (p + (k + 1)) (numVal 16 ((s.data.toList.drop p).take (k + 1))) = RR) := by
          show _ = _
          rw [hsn, numVal_snoc, show 4 - (k + 1) = m by omega]
          exact hj
        have hd2 : Hid (∀ c ∈ (s.data.toList.drop p).take (k + 1), dval c < 16) := by
          intro b hb
          rw [hsn, List.mem_append] at hb
          rcases hb with hb | hb
          · exact HD.out b hb
          · obtain rfl : b = c := by simpa using hb
            exact hc2
        have HO := Lib.hid hone
        have HKK := Lib.hid hK
        clear hone hj hsn hc1 hc2 hK hO HJ HD
        go_wp2_with fail
        refine HO.out.mono ?_
        rintro e w2 ⟨rfl, hR2, k2⟩
        go_wp2_with fail
        refine (need_ok r _).mono ?_
        rintro e w3 ⟨rfl, rfl⟩
        go_wp2_with fail
        exact ⟨⟨k + 1, by go_num, by omega, hR2, by omega, hj2, hd2, HKK.out.trans k2⟩, by simp [intOf]; omega⟩
      · have hf : ((s.data.toList[p + k]?).any fun c => decide (dval c < 16)) = false := by
          cases h : s.data.toList[p + k]? with
          | none => rfl
          | some c =>
            simp only [Option.any_some, decide_eq_false_iff_not]
            intro h2
            exact hc ⟨c, h, h2⟩
        rw [hf] at hone
        have hj2 : (Except.error (p + k) : Except Nat Nat) = RR := by
          rw [← hj]
          cases h : s.data.toList[p + k]? with
          | none => rfl
          | some c =>
            simp only
            rw [if_neg (fun h2 => hc ⟨c, h, h2⟩)]
        have HO := Lib.hid hone
        have HJ2 := Lib.hid hj2
        have HKK := Lib.hid hK
        clear hone hj hj2 hc hf hK hO HJ HD
        go_wp2_with fail
        refine HO.out.mono ?_
        rintro e w2 ⟨rfl, hR2, k2⟩
        rw [if_neg (by simp)] at hR2
        go_wp2_with fail
        refine (need_bad s r _ _ hR2).mono ?_
        rintro e w3 ⟨rfl, rfl⟩
        go_wp2_with fail
        refine ⟨rfl, ?_, HKK.out.trans k2⟩
        rw [← HJ2.out]
        exact ⟨rfl, hpk⟩
    · have hke : k = 4 := by omega
      subst hke
      have hj := HJ.out
      unfold jHex at hj
      have hex : (s.extract p (p + 4)).data.toList = (s.data.toList.drop p).take 4 := by simp [List.take_drop]
      have hsz : (s.extract p (p + 4)).size = 4 := by rw [extract_size]; omega
      have HP := Lib.hid (fun w => parseUintP_any (s.extract p (p + 4)) 16 16 (.inr ⟨rfl, rfl⟩) 32 (.inl rfl) w (by omega) (by omega) (by rw [hex]; exact HD.out))
      rw [hex] at HP
      have hlt2 := numVal_lt 16 _ HD.out
      have hl4 : ((s.data.toList.drop p).take 4).length ≤ 4 := List.length_take_le _ _
      have hpow : 16 ^ ((s.data.toList.drop p).take 4).length ≤ 16 ^ 4 := Nat.pow_le_pow_right (by omega) hl4
      generalize numVal 16 ((s.data.toList.drop p).take 4) = v at *
      have hv : (v : Int) < 65536 := by omega
      have HJ2 := Lib.hid hj
      have HKK := Lib.hid hK
      clear hj hex hsz hl4 hpow hlt2 HJ HD hO hK
      have hq4 : p ≤ p + 4 := by omega
      have hfin : ∀ w', Rd s r (p + 4) w' → FourE s r p RR (.returned (.int .i32 v)) w' := by
        intro w' h
        rw [← HJ2.out]
        exact ⟨rfl, h, hpk, by omega⟩
      have HFIN := Lib.hid hfin
      clear hfin HJ2
      generalize p + 4 = q at *
      have d0 := hRk.c0
      have d1 := hRk.c1
      have hsl : (0 : Int) ≤ (p : Int) ∧ (p : Int) ≤ (q : Int) ∧ (q : Int) ≤ s.size := by omega
      go_wp2_with fail
      go_region_with (first | (go_at_call 123; refine (HP.out _).mono ?_; rintro e w2 ⟨rfl, b2⟩))
      all_goals go_wp2
      all_goals go_ret
      all_goals exact ⟨HFIN.out _ (hRk.below (bthen (Below.refl _ _).drew b2)), HKK.out.trans (Kx.of_below (bthen (Below.refl _ _).drew b2))⟩
end Go.Proofs.YtghiboknhjnlkaaDoor
