/- json's reader: number. -/
import Derived.Test.YtghiboknhjnlkaaDoorJWd
import Derived.Deep.DeepCutAuto
set_option linter.unusedVariables false
set_option linter.unusedSimpArgs false
set_option linter.unnecessarySimpa false
namespace Go.Proofs.YtghiboknhjnlkaaDoor
open Go.RowKit

def dgS : List UInt8 := [48, 49, 50, 51, 52, 53, 54, 55, 56, 57]

theorem ascii_dgS : Ascii ⟨dgS.toArray⟩ := by
  intro k hk
  have : ∀ k : Fin 10, ((⟨dgS.toArray⟩ : ByteArray)[k.1]'(by exact k.2)).toNat < 128 := by decide
  exact this ⟨k, hk⟩

theorem has_lt (s : ByteArray) (p : Nat) (set : List UInt8) (h : jHas s.data.toList p set = true) : p < s.size := by
  rcases Nat.lt_or_ge p s.size with h2 | h2
  · exact h2
  · rw [has_none s p (by omega)] at h; cases h

theorem drop_len (s : ByteArray) (p : Nat) (hp : p ≤ s.size) : (s.data.toList.drop p).length = s.size - p := by simp

theorem jDigs_le (s : ByteArray) (p q : Nat) (hp : p ≤ s.size) (h : jDigs s.data.toList p = .ok q) : p ≤ q ∧ q ≤ s.size := by
  unfold jDigs at h
  have := takeWhile_le isDg (s.data.toList.drop p)
  rw [drop_len s p hp] at this
  split at h
  · cases h
  · injection h; omega

/-- the digits that must stand here: how many, and what comes of it -/
theorem digs_cases (s : ByteArray) (r p : Nat) (hp : p ≤ s.size) (hs : s.size ≤ 140737488351232) :
    ∃ n : Nat, (∀ w, Rd s r p w → Calls Tryd.prog 58 #[RP r, .string ⟨dgS.toArray⟩] w fun e w' => e = .returned (.int .i64 n) ∧ Rd s r (p + n) w' ∧ Kx (· = r) w w') ∧
      ((n = 0 ∧ jDigs s.data.toList p = .error p) ∨ (0 < n ∧ jDigs s.data.toList p = .ok (p + n) ∧ p + n ≤ s.size)) := by
  refine ⟨((s.data.toList.drop p).takeWhile dgS.contains).length, fun w h => eat_any s r p dgS ascii_dgS (by decide) w h hp hs, ?_⟩
  have hle := takeWhile_le isDg (s.data.toList.drop p)
  rw [drop_len s p hp] at hle
  have hd : jDigs s.data.toList p = if ((s.data.toList.drop p).takeWhile dgS.contains).length = 0 then .error p else .ok (p + ((s.data.toList.drop p).takeWhile dgS.contains).length) := rfl
  have he : ((s.data.toList.drop p).takeWhile isDg).length = ((s.data.toList.drop p).takeWhile dgS.contains).length := rfl
  rw [he] at hle
  generalize ((s.data.toList.drop p).takeWhile dgS.contains).length = n at *
  by_cases hn : n = 0
  · rw [if_pos hn] at hd; exact .inl ⟨hn, hd⟩
  · rw [if_neg hn] at hd; exact .inr ⟨by omega, hd, by omega⟩

/-- how a method that hands back what it has read ends -/
def Read (s : ByteArray) (r p : Nat) (R : Except Nat Nat) (e : Ending) (w' : World) : Prop :=
  match R with
  | .ok q => e = .returned (.string (s.extract p q)) ∧ Rd s r q w' ∧ p ≤ q ∧ q ≤ s.size
  | .error q => e = Wr q 40 ∧ q ≤ s.size

set_option maxHeartbeats 400000 in
set_option maxRecDepth 100000 in
theorem number_any (s : ByteArray) (r p : Nat) (w : World) (hR : Rd s r p w) (hp : p ≤ s.size) (hs : s.size ≤ 140737488351232) :
    Calls Tryd.prog 89 #[RP r] w fun e w' => Read s r p (jNum s.data.toList p) e w' ∧ Kx (· = r) w w' := by
  have hO := Lib.hid (fun (q : Nat) (set : List UInt8) w h hq => one_any s r q set w h hq hs)
  have HD := Lib.hid (fun q hq => digs_cases s r q hq hs)
  generalize hRR : jNum s.data.toList p = RR
  unfold jNum at hRR
  obtain ⟨p1, hp1⟩ : ∃ p1, (if jHas s.data.toList p [45] = true then p + 1 else p) = p1 := ⟨_, rfl⟩
  rw [hp1] at hRR
  have hp1s : p ≤ p1 ∧ p1 ≤ s.size := by
    subst hp1
    split
    · rename_i h; have := has_lt s p _ h; omega
    · omega
  have O45 := hO.out p [45] w hR hp
  rw [hp1] at O45
  generalize jHas s.data.toList p [45] = b45 at *
  have hj0 : jNum0 s.data.toList p1 = if jHas s.data.toList p1 [48] = true then .ok (p1 + 1) else jDigs s.data.toList p1 := rfl
  have hl48 := has_lt s p1 [48]
  have O48 := Lib.hid (fun w h => hO.out p1 [48] w h hp1s.2)
  generalize jHas s.data.toList p1 [48] = b48 at *
  have HRR := Lib.hid hRR
  have HJ0 := Lib.hid hj0
  have c1 := hR.c1
  clear hRR hp1 hj0
  go_enter Tryd.func89, Tryd.ntmps89
  go_wp2_with fail
  refine O45.mono ?_
  rintro e w1 ⟨rfl, hR1, k1⟩
  go_wp2_with fail
  refine (O48.out _ hR1).mono ?_
  rintro e w2 ⟨rfl, hR2, k2⟩
  go_upto_if 12 with fail
  go_cut [3] (fun v3 wx => v3 = .int .i64 p ∧ ∃ p2, Hid (jNum0 s.data.toList p1 = .ok p2) ∧ p ≤ p2 ∧ p2 ≤ s.size ∧ Rd s r p2 wx ∧ Kx (· = r) w wx)
  case first =>
    have hj := HJ0.out
    cases b48 with
    | true =>
      rw [if_pos rfl] at hj hR2
      have HJ := Lib.hid hj
      clear hj HJ0
      have := hl48 rfl
      go_wp2
      go_meet
      case rel => exact ⟨rfl, p1 + 1, HJ.out, by omega, by omega, hR2, k1.trans k2⟩
    | false =>
      rw [if_neg (by simp)] at hj hR2
      obtain ⟨n, E, hn⟩ := HD.out p1 hp1s.2
      have HE := Lib.hid E
      rcases hn with ⟨hn, hj2⟩ | ⟨hn, hj2, hn2⟩
      · rw [hj2] at hj
        have hrr := HRR.out
        rw [hj] at hrr
        have HR2 := Lib.hid hrr
        clear hj hj2 hrr HJ0 HRR E
        subst hn
        go_wp2_with fail
        refine (HE.out _ hR2).mono ?_
        rintro e w3 ⟨rfl, hR3, k3⟩
        go_wp2_with fail
        refine (need_bad s r _ _ hR3).mono ?_
        rintro e w4 ⟨rfl, rfl⟩
        go_wp2_with fail
        refine ⟨rfl, ?_, (k1.trans k2).trans k3⟩
        rw [← HR2.out]
        exact ⟨rfl, hp1s.2⟩
      · rw [hj2] at hj
        have HJ := Lib.hid hj
        clear hj hj2 HJ0 E
        go_wp2_with fail
        refine (HE.out _ hR2).mono ?_
        rintro e w3 ⟨rfl, hR3, k3⟩
        go_wp2_with fail
        refine (need_ok r _).mono ?_
        rintro e w4 ⟨rfl, rfl⟩
        go_wp2_with fail
        go_meet
        case rel => exact ⟨rfl, p1 + n, HJ.out, by omega, hn2, hR3, (k1.trans k2).trans k3⟩
  case rest =>
    obtain ⟨rfl, p2, HJ0', hpp2, hp2s, hR2, k2⟩ := hcut
    have hrr := HRR.out
    rw [HJ0'.out] at hrr
    have HRR1 : Hid ((match jNum1 s.data.toList p2 with | .error e => .error e | .ok p3 => jNum2 s.data.toList p3) = RR) := hrr
    clear hrr HRR HJ0 HJ0' O48 O45 hl48 c1
    have hj1 : jNum1 s.data.toList p2 = if jHas s.data.toList p2 [46] = true then jDigs s.data.toList (p2 + 1) else .ok p2 := rfl
    have hl := has_lt s p2 [46]
    have O46 := Lib.hid (hO.out p2 [46] wc hR2 hp2s)
    generalize jHas s.data.toList p2 [46] = b46 at *
    have HJ1 := Lib.hid hj1
    clear hj1
    go_wp2_with fail
    refine O46.out.mono ?_
    rintro e w3 ⟨rfl, hR3, k3⟩
    go_upto_if 19 with fail
    go_cut [3] (fun v3 wx => v3 = .int .i64 p ∧ ∃ p3, Hid (jNum1 s.data.toList p2 = .ok p3) ∧ p ≤ p3 ∧ p3 ≤ s.size ∧ Rd s r p3 wx ∧ Kx (· = r) w wx)
    case first =>
      have hj := HJ1.out
      cases b46 with
      | false =>
        rw [if_neg (by simp)] at hj hR3
        have HJ := Lib.hid hj
        clear hj HJ1
        go_wp2
        go_meet
        case rel => exact ⟨rfl, p2, HJ.out, hpp2, hp2s, hR3, k2.trans k3⟩
      | true =>
        rw [if_pos rfl] at hj hR3
        have hlt := hl rfl
        obtain ⟨n, E, hn⟩ := HD.out (p2 + 1) (by omega)
        have HE := Lib.hid E
        rcases hn with ⟨hn, hj2⟩ | ⟨hn, hj2, hn2⟩
        · rw [hj2] at hj
          have hrr := HRR1.out
          rw [hj] at hrr
          have HR2 := Lib.hid hrr
          clear hj hj2 hrr HJ1 HRR1 E
          subst hn
          go_wp2_with fail
          refine (HE.out _ hR3).mono ?_
          rintro e w3 ⟨rfl, hR4, k4⟩
          go_wp2_with fail
          refine (need_bad s r _ _ hR4).mono ?_
          rintro e w4 ⟨rfl, rfl⟩
          go_wp2_with fail
          refine ⟨rfl, ?_, (k2.trans k3).trans k4⟩
          rw [← HR2.out]
          exact ⟨rfl, by omega⟩
        · rw [hj2] at hj
          have HJ := Lib.hid hj
          clear hj hj2 HJ1 E
          go_wp2_with fail
          refine (HE.out _ hR3).mono ?_
          rintro e w3 ⟨rfl, hR4, k4⟩
          go_wp2_with fail
          refine (need_ok r _).mono ?_
          rintro e w4 ⟨rfl, rfl⟩
          go_wp2_with fail
          go_meet
          case rel => exact ⟨rfl, p2 + 1 + n, HJ.out, by omega, hn2, hR4, (k2.trans k3).trans k4⟩
    case rest =>
      obtain ⟨rfl, p3, HJ1', hpp3, hp3s, hR3, k3⟩ := hcut
      have hrr := HRR1.out
      rw [HJ1'.out] at hrr
      have HRR2 : Hid (jNum2 s.data.toList p3 = RR) := hrr
      clear hrr HRR1 HJ1 HJ1' O46 hl
      have hj1 : jNum2 s.data.toList p3 = if jHas s.data.toList p3 [101, 69] = true then jDigs s.data.toList (if jHas s.data.toList (p3 + 1) [43, 45] = true then p3 + 2 else p3 + 1) else .ok p3 := rfl
      have hl := has_lt s p3 [101, 69]
      have O46 := Lib.hid (hO.out p3 [101, 69] wc hR3 hp3s)
      generalize jHas s.data.toList p3 [101, 69] = b46 at *
      have HJ1 := Lib.hid hj1
      clear hj1
      go_wp2_with fail
      refine O46.out.mono ?_
      rintro e w3 ⟨rfl, hR4, k4⟩
      go_upto_if 26 with fail
      go_cut [3] (fun v3 wx => v3 = .int .i64 p ∧ ∃ p3', Hid (jNum2 s.data.toList p3 = .ok p3') ∧ p ≤ p3' ∧ p3' ≤ s.size ∧ Rd s r p3' wx ∧ Kx (· = r) w wx)
      case first =>
        have hj := HJ1.out
        cases b46 with
        | false =>
          rw [if_neg (by simp)] at hj hR4
          have HJ := Lib.hid hj
          clear hj HJ1
          go_wp2
          go_meet
          case rel => exact ⟨rfl, p3, HJ.out, hpp3, hp3s, hR4, k3.trans k4⟩
        | true =>
          rw [if_pos rfl] at hj hR4
          have hlt := hl rfl
          obtain ⟨p4, hp4⟩ : ∃ p4, (if jHas s.data.toList (p3 + 1) [43, 45] = true then p3 + 2 else p3 + 1) = p4 := ⟨_, rfl⟩
          rw [hp4] at hj
          have hp4s : p ≤ p4 ∧ p4 ≤ s.size := by
            subst hp4
            split
            · rename_i h; have := has_lt s (p3 + 1) _ h; omega
            · omega
          have OS := Lib.hid (fun w h => hO.out (p3 + 1) [43, 45] w h (by omega))
          rw [show p3 + 1 + 1 = p3 + 2 from rfl, hp4] at OS
          generalize jHas s.data.toList (p3 + 1) [43, 45] = bs at *
          clear hp4
          obtain ⟨n, E, hn⟩ := HD.out p4 hp4s.2
          have HE := Lib.hid E
          rcases hn with ⟨hn, hj2⟩ | ⟨hn, hj2, hn2⟩
          · rw [hj2] at hj
            have hrr := HRR2.out
            rw [hj] at hrr
            have HR2 := Lib.hid hrr
            clear hj hj2 hrr HJ1 HRR2 E
            subst hn
            go_wp2_with fail
            refine (OS.out _ hR4).mono ?_
            rintro e w5 ⟨rfl, hR5, k5⟩
            go_wp2_with fail
            refine (HE.out _ hR5).mono ?_
            rintro e w6 ⟨rfl, hR6, k6⟩
            go_wp2_with fail
            refine (need_bad s r _ _ hR6).mono ?_
            rintro e w4 ⟨rfl, rfl⟩
            go_wp2_with fail
            refine ⟨rfl, ?_, ((k3.trans k4).trans k5).trans k6⟩
            rw [← HR2.out]
            exact ⟨rfl, by omega⟩
          · rw [hj2] at hj
            have HJ := Lib.hid hj
            clear hj hj2 HJ1 E
            go_wp2_with fail
            refine (OS.out _ hR4).mono ?_
            rintro e w5 ⟨rfl, hR5, k5⟩
            go_wp2_with fail
            refine (HE.out _ hR5).mono ?_
            rintro e w6 ⟨rfl, hR6, k6⟩
            go_wp2_with fail
            refine (need_ok r _).mono ?_
            rintro e w4 ⟨rfl, rfl⟩
            go_wp2_with fail
            go_meet
            case rel => exact ⟨rfl, p4 + n, HJ.out, by omega, hn2, hR6, ((k3.trans k4).trans k5).trans k6⟩
      case rest =>
        obtain ⟨rfl, q, HJ2, hpq, hqs, hR5, k5⟩ := hcut
        have hrr := HRR2.out
        rw [HJ2.out] at hrr
        have HF := Lib.hid hrr
        clear hrr HRR2 HJ1 HJ2
        have c0 := hR5.c0
        have c1 := hR5.c1
        have hsl : (0 : Int) ≤ (p : Int) ∧ (p : Int) ≤ (q : Int) ∧ (q : Int) ≤ s.size := by omega
        go_wp2_with fail
        go_quiet (fail)
        go_wp2
        go_ret
        refine ⟨?_, k5.trans (Kx.of_below (below_drewN (Below.refl _ _) _))⟩
        rw [← HF.out]
        exact ⟨rfl, hR5, hpq, hqs⟩
end Go.Proofs.YtghiboknhjnlkaaDoor
