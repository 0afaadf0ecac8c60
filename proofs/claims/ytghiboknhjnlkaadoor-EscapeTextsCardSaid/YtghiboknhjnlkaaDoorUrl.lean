/- That escape.Url gives the clean text with other bytes as "%" and two digits. -/
import Derived.Test.YtghiboknhjnlkaaDoorNumeric
import Derived.Test.YtghiboknhjnlkaaDoorDropS
import Derived.Test.YtghiboknhjnlkaaDoorClean
set_option linter.unusedVariables false
set_option linter.unusedSimpArgs false
namespace Go.Proofs.YtghiboknhjnlkaaDoor
open Go.RowKit

def stayS : List UInt8 := letS ++ digS ++ [45, 95, 46, 33, 126, 42, 39, 40, 41, 59, 47, 63, 58, 64, 38, 61, 43, 36, 44, 35]
def capS : List UInt8 := [48, 49, 50, 51, 52, 53, 54, 55, 56, 57, 65, 66, 67, 68, 69, 70]
def capB (n : Nat) : UInt8 := capS.getD n 0
def urlByte (c : UInt8) (l : List UInt8) : List UInt8 :=
  if stayS.contains c = true ∨ c = 37 ∧ (frontL hexS 2 l).length = 2 then [c] else [37, capB (c.toNat / 16), capB (c.toNat % 16)]

/-- a clean text as a URL -/
def urlG : List UInt8 → List UInt8
  | [] => []
  | c :: l => urlByte c l ++ urlG l

def url (l : List UInt8) : List UInt8 := urlG (clean l)

theorem idx_contains (c : UInt8) : ∀ l : List UInt8, (0 ≤ Lib.indexByte l c ↔ l.contains c = true)
  | [] => by simp [Lib.indexByte]
  | b :: l => by
    have ih := idx_contains c l
    have hge := Lib.indexByte_ge l c
    unfold Lib.indexByte
    by_cases h : (b == c) = true
    · rw [if_pos h]
      have : c = b := (beq_iff_eq.1 h).symm
      simp [this]
    · rw [if_neg h]
      have hne : ¬ c = b := fun e => h (by rw [e]; exact beq_self_eq_true b)
      by_cases h1 : (Lib.indexByte l c == -1) = true
      · rw [if_pos h1]
        have h2 : Lib.indexByte l c = -1 := by simpa using h1
        rw [h2] at ih
        simp only [List.contains_cons]
        constructor
        · intro h; omega
        · intro h3
          simp [hne] at h3
          have := ih.2 (by simpa using h3)
          omega
      · rw [if_neg h1]
        have h2 : Lib.indexByte l c ≠ -1 := by simpa using h1
        simp only [List.contains_cons]
        constructor
        · intro _
          have := ih.1 (by omega)
          rw [this]; simp
        · intro _; omega

theorem url_drop (t : List UInt8) (k : Nat) (h : k < t.length) : urlG (t.drop k) = urlByte t[k] (t.drop (k + 1)) ++ urlG (t.drop (k + 1)) := by
  rw [List.drop_eq_getElem_cons h]; rfl

theorem cap_at (n : Nat) (h : n < 16) : (⟨#[48, 49, 50, 51, 52, 53, 54, 55, 56, 57, 65, 66, 67, 68, 69, 70]⟩ : ByteArray)[n]'h = capB n := by
  have : ∀ n : Fin 16, (⟨#[48, 49, 50, 51, 52, 53, 54, 55, 56, 57, 65, 66, 67, 68, 69, 70]⟩ : ByteArray)[n.1]'n.2 = capB n.1 := by decide
  exact this ⟨n, h⟩

theorem urlByte_len (c : UInt8) (l : List UInt8) : (urlByte c l).length ≤ 3 := by
  unfold urlByte; split <;> simp

set_option maxHeartbeats 4000000 in
set_option maxRecDepth 100000 in
theorem url_any (s : ByteArray) (w : World) (hs : s.size ≤ 4398046511104) :
    Calls Tryd.prog 22 #[.string s] w fun e w' => e = .returned (.string ⟨(url s.data.toList).toArray⟩) ∧ Below w.heap.size w w' := by
  have HC := Lib.hid (fun w => clean_any s w (by omega))
  have hl := clean_len s.data.toList
  unfold url
  generalize clean s.data.toList = t at *
  have ht : t.length ≤ 17592186044416 := by simp at hl; have : s.data.size = s.size := rfl; omega
  clear hl
  have hI := Lib.hid (fun (c : UInt8) w => Tryd.strings_IndexByte ⟨stayS.toArray⟩ c.toNat w)
  have hF := Lib.hid (fun (k : Nat) (h : k < t.length) w => frontL_any hexS ascii_hex (by decide) ⟨(t.drop (k + 1)).toArray⟩ 2 2 rfl w (by rw [size_list]; simp; omega) (by decide))
  have hget : ∀ k (h : k < t.length), (⟨t.toArray⟩ : ByteArray)[k]'(by rw [size_list]; exact h) = t[k] := fun k h => rfl
  have HG := Lib.hid hget
  clear hget
  go_enter Tryd.func22, Tryd.ntmps22
  go_wp2_with (go_at_call 25; refine (HC.out _).mono ?_; rintro e w1 ⟨rfl, hb1⟩)
  go_loopw [10] (fun v wr => ∃ (k : Nat) (acc : List UInt8), v = .int .i64 k ∧ Bld w1.heap.size w1.heap.size acc wr ∧ Below w1.heap.size w1 wr ∧ Hid (acc ++ urlG (t.drop k) = urlG t) ∧ acc.length ≤ 3 * k ∧ k ≤ t.length) (fun v _ => t.length - (intOf v).toNat)
  case atStart => exact ⟨0, [], rfl, BldG.fresh 57 5 w1.heap.size w1, (Below.refl _ w1).alloc (Nat.le_refl _) _, rfl, by simp, by omega⟩
  case round =>
    obtain ⟨k, acc, rfl, hB, hbw, hacc, hal, hk⟩ := hrel
    by_cases hlt : k < t.length
    · have hn := url_drop t k hlt
      have hul := urlByte_len t[k] (t.drop (k + 1))
      have hsl : (0 : Int) ≤ (k : Int) + 1 ∧ (k : Int) + 1 ≤ t.length := by omega
      have hFk := Lib.hid (hF.out k hlt)
      have hIk := Lib.hid (hI.out t[k])
      have hx2 : (⟨t.toArray⟩ : ByteArray).extract (k + 1) t.length = ⟨(t.drop (k + 1)).toArray⟩ := by
        have := extract_list ⟨t.toArray⟩ (k + 1)
        rw [size_list] at this
        exact this
      rw [← hx2] at hFk
      have hidx := idx_contains t[k] stayS
      have hu8 : ((t[k].toNat : Int).toNat.toUInt8) = t[k] := by simp
      rw [hu8] at hIk
      clear hx2 hu8
      have HN := Lib.hid hn
      clear hn
      by_cases hs1 : stayS.contains t[k] = true
      · have hub : urlByte t[k] (t.drop (k + 1)) = [t[k]] := by unfold urlByte; rw [if_pos (.inl hs1)]
        have hi0 := hidx.2 hs1
        rw [hub] at HN
        generalize Lib.indexByte stayS t[k] = z at *
        clear hidx hs1 hub hul
        go_wp2_with (first | (go_at_call 54; refine (hIk.out _).mono ?_; rintro e w2 ⟨rfl, rfl⟩) | (go_at_call 50; refine (writeByte _ _ _ _ _ hB (by omega) hbw.size).mono ?_; rintro e w3 ⟨rfl, h1, k1⟩))
        refine ⟨⟨k + 1, acc ++ [t[k]], by go_num, h1, hbw.trans (k1.below hbw.size (Nat.le_refl _) (Nat.le_refl _)), ?_, by simp; omega, by omega⟩, by simp [intOf]; omega⟩
        show _ = _
        rw [← hacc.out, HN.out, List.append_assoc]
      · have hi0 : ¬ 0 ≤ Lib.indexByte stayS t[k] := fun h => hs1 (hidx.1 h)
        by_cases h37 : t[k] = 37
        · have e37 : ((((⟨t.toArray⟩ : ByteArray)[k]'(by rw [size_list]; exact hlt)).toNat : Int) == 37) = true := beq_u8_pos _ 37 (by decide) h37
          by_cases hf : (frontL hexS 2 (t.drop (k + 1))).length = 2
          · have hub : urlByte t[k] (t.drop (k + 1)) = [t[k]] := by unfold urlByte; rw [if_pos (.inr ⟨h37, hf⟩)]
            rw [hub] at HN
            generalize frontL hexS 2 (t.drop (k + 1)) = fr at *
            generalize Lib.indexByte stayS t[k] = z at *
            clear hidx hs1 hub hul h37
            have hfs : ((((⟨fr.toArray⟩ : ByteArray).size : Int)) == 2) = true := by rw [beq_iff_eq, size_list, hf]; rfl
            go_wp2_with (first | (go_at_call 54; refine (hIk.out _).mono ?_; rintro e w2 ⟨rfl, rfl⟩) | (go_at_call 40; refine (hFk.out _).mono ?_; rintro e w3 ⟨rfl, hb3⟩) | (go_at_call 50; refine (writeByte _ _ _ _ _ (hB.below hb3) (by omega) (by have := hbw.size; have := hb3.size; omega)).mono ?_; rintro e w3 ⟨rfl, h1, k1⟩))
            refine ⟨⟨k + 1, acc ++ [t[k]], by go_num, h1, (hbw.trans (hb3.mono hbw.size)).trans (k1.below (by have := hbw.size; have := hb3.size; omega) (Nat.le_refl _) (Nat.le_refl _)), ?_, by simp; omega, by omega⟩, by simp [intOf]; omega⟩
            show _ = _
            rw [← hacc.out, HN.out, List.append_assoc]
          · have hub : urlByte t[k] (t.drop (k + 1)) = [37, capB (t[k].toNat / 16), capB (t[k].toNat % 16)] := by unfold urlByte; rw [if_neg (by rintro (h | ⟨_, h⟩); exact hs1 h; exact hf h)]
            rw [hub] at HN
            generalize frontL hexS 2 (t.drop (k + 1)) = fr at *
            generalize Lib.indexByte stayS t[k] = z at *
            have hfs : ((fr.length : Int) == 2) = false := by rw [beq_eq_false_iff_ne]; omega
            have hfz : (decide (0 ≤ z) || ((fr.length : Int) == 2)) = false := by rw [hfs, Bool.or_false, decide_eq_false_iff_not]; exact hi0
            have hd1 : (0 : Int) ≤ ((((⟨t.toArray⟩ : ByteArray)[k]'(by rw [size_list]; exact hlt)).toNat : Int)) / 16 ∧ ((((⟨t.toArray⟩ : ByteArray)[k]'(by rw [size_list]; exact hlt)).toNat : Int)) / 16 < 16 := by
              have := UInt8.toNat_lt ((⟨t.toArray⟩ : ByteArray)[k]'(by rw [size_list]; exact hlt))
              omega
            have hd2 : (0 : Int) ≤ ((((⟨t.toArray⟩ : ByteArray)[k]'(by rw [size_list]; exact hlt)).toNat : Int)) % 16 ∧ ((((⟨t.toArray⟩ : ByteArray)[k]'(by rw [size_list]; exact hlt)).toNat : Int)) % 16 < 16 := by
              have := UInt8.toNat_lt ((⟨t.toArray⟩ : ByteArray)[k]'(by rw [size_list]; exact hlt))
              omega
            have HC1 := Lib.hid (cap_at (((⟨t.toArray⟩ : ByteArray)[k]'(by rw [size_list]; exact hlt)).toNat / 16) (by have := UInt8.toNat_lt ((⟨t.toArray⟩ : ByteArray)[k]'(by rw [size_list]; exact hlt)); omega))
            have HC2 := Lib.hid (cap_at (((⟨t.toArray⟩ : ByteArray)[k]'(by rw [size_list]; exact hlt)).toNat % 16) (by omega))
            clear hidx hs1 hub hul h37
            go_wp2_with (first | (go_at_call 54; refine (hIk.out _).mono ?_; rintro e w2 ⟨rfl, rfl⟩) | (go_at_call 40; refine (hFk.out _).mono ?_; rintro e w3 ⟨rfl, hb3⟩))
            refine (writeByte _ _ _ 37 _ (hB.below hb3) (by omega) (by have := hbw.size; have := hb3.size; omega)).mono ?_
            rintro e w4 ⟨rfl, h1, k1⟩
            go_wp2_with fail
            refine (writeByte _ _ _ _ _ h1 (by simp; omega) (by have := k1.size; have := hbw.size; have := hb3.size; omega)).mono ?_
            rintro e w5 ⟨rfl, h2, k2⟩
            go_wp2_with fail
            refine (writeByte _ _ _ _ _ h2 (by simp; omega) (by have := k1.size; have := k2.size; have := hbw.size; have := hb3.size; omega)).mono ?_
            rintro e w6 ⟨rfl, h3, k3⟩
            go_wp2
            refine ⟨⟨k + 1, _, by go_num, h3, (hbw.trans (hb3.mono hbw.size)).trans (((k1.trans k2).trans k3).below (by have := hbw.size; have := hb3.size; omega) (Nat.le_refl _) (Nat.le_refl _)), ?_, by simp; omega, by omega⟩, by simp [intOf]; omega⟩
            show _ = _
            rw [HC1.out, HC2.out, ← hacc.out, HN.out]
            simp [List.append_assoc]
            exact ⟨rfl, rfl⟩
        · have e37 : ((((⟨t.toArray⟩ : ByteArray)[k]'(by rw [size_list]; exact hlt)).toNat : Int) == 37) = false := beq_u8 _ 37 (by decide) h37
          have hub : urlByte t[k] (t.drop (k + 1)) = [37, capB (t[k].toNat / 16), capB (t[k].toNat % 16)] := by unfold urlByte; rw [if_neg (by rintro (h | ⟨h, _⟩); exact hs1 h; exact h37 h)]
          rw [hub] at HN
          generalize Lib.indexByte stayS t[k] = z at *
          have hz : decide (0 ≤ z) = false := by rw [decide_eq_false_iff_not]; exact hi0
          have hd1 : (0 : Int) ≤ ((((⟨t.toArray⟩ : ByteArray)[k]'(by rw [size_list]; exact hlt)).toNat : Int)) / 16 ∧ ((((⟨t.toArray⟩ : ByteArray)[k]'(by rw [size_list]; exact hlt)).toNat : Int)) / 16 < 16 := by
            have := UInt8.toNat_lt ((⟨t.toArray⟩ : ByteArray)[k]'(by rw [size_list]; exact hlt))
            omega
          have hd2 : (0 : Int) ≤ ((((⟨t.toArray⟩ : ByteArray)[k]'(by rw [size_list]; exact hlt)).toNat : Int)) % 16 ∧ ((((⟨t.toArray⟩ : ByteArray)[k]'(by rw [size_list]; exact hlt)).toNat : Int)) % 16 < 16 := by
            have := UInt8.toNat_lt ((⟨t.toArray⟩ : ByteArray)[k]'(by rw [size_list]; exact hlt))
            omega
          have HC1 := Lib.hid (cap_at (((⟨t.toArray⟩ : ByteArray)[k]'(by rw [size_list]; exact hlt)).toNat / 16) (by have := UInt8.toNat_lt ((⟨t.toArray⟩ : ByteArray)[k]'(by rw [size_list]; exact hlt)); omega))
          have HC2 := Lib.hid (cap_at (((⟨t.toArray⟩ : ByteArray)[k]'(by rw [size_list]; exact hlt)).toNat % 16) (by omega))
          clear hidx hs1 hub hul h37
          go_wp2_with (first | (go_at_call 54; refine (hIk.out _).mono ?_; rintro e w2 ⟨rfl, rfl⟩))
          refine (writeByte _ _ _ 37 _ (hB) (by omega) (by have := hbw.size; omega)).mono ?_
          rintro e w4 ⟨rfl, h1, k1⟩
          go_wp2_with fail
          refine (writeByte _ _ _ _ _ h1 (by simp; omega) (by have := k1.size; have := hbw.size; omega)).mono ?_
          rintro e w5 ⟨rfl, h2, k2⟩
          go_wp2_with fail
          refine (writeByte _ _ _ _ _ h2 (by simp; omega) (by have := k1.size; have := k2.size; have := hbw.size; omega)).mono ?_
          rintro e w6 ⟨rfl, h3, k3⟩
          go_wp2
          refine ⟨⟨k + 1, _, by go_num, h3, (hbw).trans (((k1.trans k2).trans k3).below (by have := hbw.size; omega) (Nat.le_refl _) (Nat.le_refl _)), ?_, by simp; omega, by omega⟩, by simp [intOf]; omega⟩
          show _ = _
          rw [HC1.out, HC2.out, ← hacc.out, HN.out]
          simp [List.append_assoc]
          exact ⟨rfl, rfl⟩
    · have hke : k = t.length := by omega
      have hfull := hacc.out
      rw [hke, List.drop_length, show urlG ([] : List UInt8) = [] from rfl, List.append_nil] at hfull
      have HF := Lib.hid hfull
      clear hfull
      go_wp2_with (go_at_call 51; refine (toString_any w1.heap.size w1.heap.size acc _ hB w1.heap.size (Nat.le_refl _) (Nat.le_refl _) hbw.size).mono ?_; rintro e w9 ⟨rfl, b1⟩)
      go_ret
      exact ⟨ret_str HF.out, (hb1.trans (hbw.mono hb1.size)).trans (b1.mono hb1.size)⟩
end Go.Proofs.YtghiboknhjnlkaaDoor
