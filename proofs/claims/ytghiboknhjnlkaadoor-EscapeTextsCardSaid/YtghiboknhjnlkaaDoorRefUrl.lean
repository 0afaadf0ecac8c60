/- That stetref07.Url gives the same URL. -/
import Derived.Test.YtghiboknhjnlkaaDoorRefHtml
import Derived.Test.YtghiboknhjnlkaaDoorUrl
import Derived.Test.YtghiboknhjnlkaaDoorRefEntP
import Derived.Test.YtghiboknhjnlkaaDoorBufS
set_option linter.unusedVariables false
set_option linter.unusedSimpArgs false
set_option linter.unnecessarySimpa false
namespace Go.Proofs.YtghiboknhjnlkaaDoor
open Go.RowKit

def stay20 : List UInt8 := [45, 95, 46, 33, 126, 42, 39, 40, 41, 59, 47, 63, 58, 64, 38, 61, 43, 36, 44, 35]

theorem stay_all : ∀ c : UInt8, ((isLet c || isDig c) || stay20.contains c) = stayS.contains c := all_u8 _ (by decide +kernel)
theorem digs_hex (l : List UInt8) : digsL 16 2 l = frontL hexS 2 l := by
  unfold digsL frontL
  congr 2
  funext c
  exact (hex_dval c).symm

theorem stay_at (k : Nat) (h : k < 20) (c : UInt8) : ((((⟨#[45, 95, 46, 33, 126, 42, 39, 40, 41, 59, 47, 63, 58, 64, 38, 61, 43, 36, 44, 35]⟩ : ByteArray)[k]'h).toNat : Int) == (c.toNat : Int)) = ((stay20.take (k + 1)).contains c && !(stay20.take k).contains c || ((stay20.take k).contains c && (stay20.getD k 0 == c))) := by
  have h1 : ∀ k : Fin 20, (⟨#[45, 95, 46, 33, 126, 42, 39, 40, 41, 59, 47, 63, 58, 64, 38, 61, 43, 36, 44, 35]⟩ : ByteArray)[k.1]'k.2 = stay20.getD k.1 0 := by decide
  have h2 := h1 ⟨k, h⟩
  rw [h2]
  have h3 : ∀ (k : Fin 20), stay20.take (k.1 + 1) = stay20.take k.1 ++ [stay20.getD k.1 0] := by decide
  rw [show stay20.take (k + 1) = stay20.take k ++ [stay20.getD k 0] from h3 ⟨k, h⟩]
  generalize stay20.getD k 0 = b
  generalize stay20.take k = l
  have hb : ((b.toNat : Int) == (c.toNat : Int)) = (b == c) := by
    rw [Bool.eq_iff_iff, beq_iff_eq, beq_iff_eq]
    exact ⟨fun h => UInt8.toNat_inj.1 (by omega), fun h => by rw [h]⟩
  rw [hb]
  have hbc : (b == c) = (c == b) := by rw [Bool.eq_iff_iff, beq_iff_eq, beq_iff_eq]; exact eq_comm
  rw [hbc]
  simp only [List.contains_eq_any_beq, List.any_append, List.any_cons, List.any_nil, Bool.or_false]
  cases l.any (c == ·) <;> cases (c == b) <;> rfl

theorem stay_step (k : Nat) (h : k < 20) (c : UInt8) : (stay20.take (k + 1)).contains c = ((stay20.take k).contains c || ((((⟨#[45, 95, 46, 33, 126, 42, 39, 40, 41, 59, 47, 63, 58, 64, 38, 61, 43, 36, 44, 35]⟩ : ByteArray)[k]'h).toNat : Int) == (c.toNat : Int))) := by
  rw [stay_at k h c]
  have h3 : ∀ (k : Fin 20), stay20.take (k.1 + 1) = stay20.take k.1 ++ [stay20.getD k.1 0] := by decide
  rw [show stay20.take (k + 1) = stay20.take k ++ [stay20.getD k 0] from h3 ⟨k, h⟩]
  generalize stay20.getD k 0 = b
  generalize stay20.take k = l
  have hbc : (b == c) = (c == b) := by rw [Bool.eq_iff_iff, beq_iff_eq, beq_iff_eq]; exact eq_comm
  rw [hbc]
  simp only [List.contains_eq_any_beq, List.any_append, List.any_cons, List.any_nil, Bool.or_false]
  cases l.any (c == ·) <;> cases (c == b) <;> rfl

set_option maxHeartbeats 4000000 in
set_option maxRecDepth 100000 in
theorem refUrl_any (s : ByteArray) (w : World) (hs : s.size ≤ 4398046511104) :
    Calls Tryd.prog 23 #[.string s] w fun e w' => e = .returned (.string ⟨(url s.data.toList).toArray⟩) ∧ Below w.heap.size w w' := by
  have HC := Lib.hid (fun w => refClean_any s w (by omega))
  have hl := clean_len s.data.toList
  unfold url
  generalize clean s.data.toList = t at *
  have ht : t.length ≤ 17592186044416 := by simp at hl; have : s.data.size = s.size := rfl; omega
  clear hl
  have HN := Lib.hid (fun (k : Nat) (h : k < t.length) w => refNumber_any ⟨t.toArray⟩ (k + 1) 16 16 (.inr ⟨rfl, rfl⟩) 2 2 rfl (by decide) w (by rw [size_list]; omega) (by rw [size_list]; omega))
  have HL := Lib.hid (fun c w => refLetter_any c w)
  have HD := Lib.hid (fun c w => refDigit_any c w)
  go_enter Tryd.func23, Tryd.ntmps23
  go_wp2_with (go_at_call 53; refine (HC.out _).mono ?_; rintro e w1 ⟨rfl, b1⟩)
  go_loopw [6, 7] (fun b v wr => ∃ (k : Nat) (acc : List UInt8), v = .int .i64 k ∧ k ≤ t.length ∧ Buf w.heap.size b acc w wr ∧ Hid (acc ++ urlG (t.drop k) = urlG t) ∧ acc.length ≤ 3 * k) (fun _ v _ => t.length - (intOf v).toNat)
  case atStart => exact ⟨0, [], rfl, Nat.zero_le _, Buf.nil b1 b1.size, rfl, by simp⟩
  case round =>
    obtain ⟨k, acc, rfl, hk, hB, hacc, hal⟩ := hrel
    by_cases hlt : k < t.length
    · have hn := url_drop t k hlt
      have hul := urlByte_len t[k] (t.drop (k + 1))
      have hNk := Lib.hid (fun w => HN.out k hlt w)
      simp only [digs_hex, Int.natCast_add, Int.natCast_one] at hNk
      have hget : (⟨t.toArray⟩ : ByteArray)[k]'(by rw [size_list]; exact hlt) = t[k] := rfl
      have hub : urlByte t[k] (t.drop (k + 1)) = if stayS.contains t[k] = true ∨ t[k] = 37 ∧ (frontL hexS 2 (t.drop (k + 1))).length = 2 then [t[k]] else [37, capB (t[k].toNat / 16), capB (t[k].toNat % 16)] := rfl
      generalize urlByte t[k] (t.drop (k + 1)) = ub at *
      generalize t[k] = c at *
      generalize (frontL hexS 2 (t.drop (k + 1))).length = fl at *
      generalize (numVal 16 (frontL hexS 2 (t.drop (k + 1)))) = fv at *
      have hst := stay_all c
      have HLc := Lib.hid (fun w => HL.out c w)
      have HDc := Lib.hid (fun w => HD.out c w)
      generalize isLet c = a at *
      generalize isDig c = b at *
      obtain ⟨ab, hab⟩ : ∃ ab, (a || b) = ab := ⟨_, rfl⟩
      rw [hab] at hst
      have HAB := Lib.hid hab
      clear hab
      have HST := Lib.hid hst
      have HSS := Lib.hid (fun j hj => stay_step j hj c)
      have HU := Lib.hid hn
      have HUB := Lib.hid hub
      clear hst hn hub
      have FIN : ∀ (v' : Value) (w3 : World), Buf w.heap.size v' (acc ++ ub) w w3 → (∃ (k_1 : Nat) (acc_1 : List UInt8), Value.int IntKind.i64 ((k : Int) + 1) = .int .i64 k_1 ∧ k_1 ≤ t.length ∧ Buf w.heap.size v' acc_1 w w3 ∧ Hid (acc_1 ++ urlG (t.drop k_1) = urlG t) ∧ acc_1.length ≤ 3 * k_1) ∧ t.length - (intOf (Value.int IntKind.i64 ((k : Int) + 1))).toNat < t.length - (intOf (Value.int IntKind.i64 (k : Int))).toNat := by
        intro v' w3 h
        refine ⟨⟨k + 1, acc ++ ub, by go_num, by omega, h, ?_, by simp; omega⟩, by simp [intOf]; omega⟩
        show _ = _
        rw [← hacc.out, HU.out, List.append_assoc]
      have HFIN := Lib.hid FIN
      clear FIN
      cases a <;> cases b
      all_goals
        go_wp2_with (first | (go_at_call 46; refine (HLc.out _).mono ?_; rintro e w2 ⟨rfl, rfl⟩) | (go_at_call 47; refine (HDc.out _).mono ?_; rintro e w2 ⟨rfl, rfl⟩))
        go_loopw [9, 10] (fun vo vk w2 => ∃ (j : Nat) (o : Bool), vk = .int .i64 j ∧ j ≤ 20 ∧ vo = .bool o ∧ Hid ((ab || (stay20.take j).contains c) = o) ∧ w2 = wr) (fun _ vk _ => 20 - (intOf vk).toNat)
      all_goals try (case atStart => exact ⟨0, _, rfl, by omega, rfl, by show _ = _; rw [← HAB.out]; rfl, rfl⟩)
      all_goals try (case measure => simp [intOf]; omega)
      all_goals
        obtain ⟨j, o, rfl, hj, rfl, HO, rfl⟩ := hrel
        by_cases hj20 : j < 20
        · have hs1 := HSS.out j hj20
          have ho := HO.out
          have HS1 := Lib.hid hs1
          clear hs1 ho
          have HNX : ∀ x : Bool, (o || x) = (o || ((((⟨#[45, 95, 46, 33, 126, 42, 39, 40, 41, 59, 47, 63, 58, 64, 38, 61, 43, 36, 44, 35]⟩ : ByteArray)[j]'hj20).toNat : Int) == (c.toNat : Int))) → Hid ((ab || (stay20.take (j + 1)).contains c) = (o || x)) := by
            intro x hx
            show _ = _
            rw [hx, HS1.out, ← Bool.or_assoc, HO.out]
          have HNXT := Lib.hid HNX
          clear HNX
          cases o
          · go_wp2_with fail
            exact ⟨⟨j + 1, _, by go_num, by omega, rfl, by simpa using HNXT.out _ rfl, by trivial⟩, by simp [intOf]; omega⟩
          · go_wp2_with fail
            exact ⟨⟨j + 1, _, by go_num, by omega, rfl, by simpa using HNXT.out true rfl, by trivial⟩, by simp [intOf]; omega⟩
        · have hj2 : j = 20 := by omega
          subst hj2
          have ho := HO.out
          rw [show stay20.take 20 = stay20 from rfl, HST.out] at ho
          have hub := HUB.out
          have hok : (c = 37 → stayS.contains c = false) := by intro h; rw [h]; decide
          have hd1 : (0 : Int) ≤ (c.toNat : Int) / 16 ∧ (c.toNat : Int) / 16 < 16 := by have := c.toNat_lt; omega
          have hd2 : (0 : Int) ≤ (c.toNat : Int) % 16 ∧ (c.toNat : Int) % 16 < 16 := by omega
          have HC1 := Lib.hid (cap_at (c.toNat / 16) (by omega))
          have HC2 := Lib.hid (cap_at (c.toNat % 16) (by omega))
          have h256 : (c.toNat : Int) < 256 := by have := c.toNat_lt; omega
          have hw1 : IntKind.u8.wrap ((c.toNat : Int) / 16) = (c.toNat : Int) / 16 := by rw [IntKind.wrap_u8]; omega
          have hw3 : (c.toNat : Int).tmod 16 = (c.toNat : Int) % 16 := Int.tmod_eq_emod_of_nonneg (by omega)
          have hw2 : IntKind.u8.wrap ((c.toNat : Int) % 16) = (c.toNat : Int) % 16 := by rw [IntKind.wrap_u8]; omega
          by_cases h37 : c = 37
          · have e37 : ((c.toNat : Int) == 37) = true := beq_u8_pos _ 37 (by decide) h37
            have hsf := hok h37
            by_cases hfl : fl = 2
            · rw [if_pos (.inr ⟨h37, hfl⟩)] at hub
              have HB2 := Lib.hid hub
              have hfs : ((fl : Int) == 2) = true := by rw [hfl]; rfl
              clear hub hok hsf h37 hfl ho
              go_wp2_with (first | (go_at_call 44; refine (hNk.out _).mono ?_; rintro e w2 ⟨rfl, rfl⟩) | (at_builtin; refine wp_byte rfl _ _ rfl rfl c _ rfl hB rfl (by omega) ?_; intro v' w3 hB3))
              exact HFIN.out v' w3 (by rw [HB2.out]; exact hB3)
            · rw [if_neg (by rintro (h | ⟨_, h⟩); rw [hsf] at h; cases h; exact hfl h)] at hub
              have HB2 := Lib.hid hub
              have hfs : ((fl : Int) == 2) = false := by rw [beq_eq_false_iff_ne]; omega
              clear hub hok hsf h37 hfl ho
              go_wp2_with (first | (go_at_call 44; refine (hNk.out _).mono ?_; rintro e w2 ⟨rfl, rfl⟩))
              go_region_law (refine step_bytes rfl _ _ rfl rfl [37, capB (c.toNat / 16), capB (c.toNat % 16)] (Lib.byteCells [37, capB (c.toNat / 16), capB (c.toNat % 16)]).toArray (0, 0) rfl hB.drew 3 rfl _ (by rw [← HC1.out, ← HC2.out]; rfl) _ rfl rfl (by simp; omega) ?_; intro v' w3 hB3)
              all_goals go_wp2
              all_goals exact HFIN.out _ _ (by rw [HB2.out]; exact hB3)
          · have e37 : ((c.toNat : Int) == 37) = false := beq_u8 _ 37 (by decide) h37
            cases o
            · rw [if_neg (by rintro (h | ⟨h, _⟩); rw [ho] at h; cases h; exact h37 h)] at hub
              have HB2 := Lib.hid hub
              clear hub hok h37 ho
              go_wp2_with fail
              go_region_law (refine step_bytes rfl _ _ rfl rfl [37, capB (c.toNat / 16), capB (c.toNat % 16)] (Lib.byteCells [37, capB (c.toNat / 16), capB (c.toNat % 16)]).toArray (0, 0) rfl hB.drew 3 rfl _ (by rw [← HC1.out, ← HC2.out]; rfl) _ rfl rfl (by simp; omega) ?_; intro v' w3 hB3)
              all_goals go_wp2
              all_goals exact HFIN.out _ _ (by rw [HB2.out]; exact hB3)
            · rw [if_pos (.inl ho)] at hub
              have HB2 := Lib.hid hub
              clear hub hok h37 ho
              go_wp2_with (at_builtin; refine wp_byte rfl _ _ rfl rfl c _ rfl hB rfl (by omega) ?_; intro v' w3 hB3)
              exact HFIN.out v' w3 (by rw [HB2.out]; exact hB3)
    · have hke : k = t.length := by omega
      have hfull := hacc.out
      rw [hke, List.drop_length, show urlG ([] : List UInt8) = [] from rfl, List.append_nil] at hfull
      have HF := Lib.hid hfull
      clear hfull
      have hstr := hB.str
      go_wp2
      go_ret
      exact ⟨ret_str HF.out, hB.frame⟩
end Go.Proofs.YtghiboknhjnlkaaDoor
