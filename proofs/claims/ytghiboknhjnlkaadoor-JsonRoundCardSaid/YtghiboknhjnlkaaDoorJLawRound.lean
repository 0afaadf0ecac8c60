/- The law JsonRound: what is read is printed, and read again the same but for its places. -/
import Derived.Test.YtghiboknhjnlkaaDoorJRSame
import Derived.Test.YtghiboknhjnlkaaDoorJRnd3
set_option linter.unusedVariables false
set_option linter.unusedSimpArgs false
set_option linter.unnecessarySimpa false
namespace Go.Proofs.YtghiboknhjnlkaaDoor
open Go.RowKit

theorem good_sm : ∀ (n f : Nat) {v : JV} (m L : Nat), L ≤ 1000000000000 → Good n v → n ≤ m → (jShow m v).length ≤ L → JSm f v
  | n, 0, v, m, L, _, _, _, _ => by unfold JSm; trivial
  | n, f + 1, v, m, L, hL, hv, hm, hs => by
    cases hv with
    | word _ k p hk => unfold JSm; simp
    | num _ t p ht => rw [shw_num] at hs; unfold JSm; refine ⟨by omega, by simp, by simp, by simp, by simp⟩
    | str _ t p ht =>
      rw [shw_str] at hs
      have := chars_ge ht
      unfold JSm
      refine ⟨by omega, by simp, by simp, by simp, by simp⟩
    | arr n ks p hk =>
      obtain ⟨m, rfl⟩ : ∃ k, m = k + 1 := ⟨m - 1, by omega⟩
      rw [shw_arr] at hs
      simp only [List.length_append, List.length_cons, List.length_nil] at hs
      have h1 := kids_ge0 (jShow m) false [] ks
      unfold JSm
      refine ⟨by simp, by simp, by simp, by omega, fun x hx => ?_⟩
      have := kids_mem (jShow m) false [] ks 0 x hx
      exact good_sm n f m L hL (hk x hx) (by omega) (by omega)
    | obj n ns ks p hl hnd hch hk =>
      obtain ⟨m, rfl⟩ : ∃ k, m = k + 1 := ⟨m - 1, by omega⟩
      rw [shw_obj] at hs
      simp only [List.length_append, List.length_cons, List.length_nil] at hs
      have h1 := kids_ge0 (jShow m) true ns ks
      unfold JSm
      refine ⟨by simp, by omega, fun x hx => ?_, by omega, fun x hx => ?_⟩
      · obtain ⟨j, hj, rfl⟩ := List.getElem_of_mem hx
        have h2 := kids_names (jShow m) ns ks 0 j (by omega) (by omega) hj
        have h3 : ns.getD j [] = ns[j] := by simp [List.getD_eq_getElem?_getD, hj]
        rw [h3] at h2
        have h4 := chars_ge (hch _ hx)
        omega
      · have := kids_mem (jShow m) true ns ks 0 x hx
        exact good_sm n f m L hL (hk x hx) (by omega) (by omega)

theorem read_err_le {s : List UInt8} {p : Nat} {er : Int} (h : jRead s = .error (p, er)) : p ≤ s.length := by
  have h0 := blank_len (s := s) (Nat.zero_le _)
  unfold jRead at h
  split at h
  · injection h with h
    injection h with h h'
    omega
  · cases e0 : jVal s 64 (jBlank s 0) with
    | error x =>
      rw [e0] at h
      injection h with h
      subst h
      exact ((val_mo (s := s) 64 _ h0).2 p er e0).2
    | ok y =>
      obtain ⟨v, q⟩ := y
      rw [e0] at h
      have h1 := (val_mo (s := s) 64 _ h0).1 v q e0
      simp only at h
      split at h
      · injection h with h
        injection h with h h'
        omega
      · cases h

/-- all that the law needs of a text that was read -/
theorem round_all {s : List UInt8} (hs : s.length ≤ 3000) {J : JV} (h : jRead s = .ok J) :
    JSm 65 J ∧ (jShow 65 J).length ≤ 18000 ∧ jPrint 65 J = some (jShow 65 J) ∧ ∃ W, jRead ([10, 9, 32] ++ (jShow 65 J ++ [32, 13])) = .ok W ∧ jSame 80 J W = true := by
  obtain ⟨h1, h2⟩ := read_good h
  have h3 := h2 65
  have hl : (jShow 65 J).length ≤ 18000 := by omega
  obtain ⟨w0, h4, h5⟩ := round_read h1 [] [] (by simp) (by simp) (fun c hc => by cases hc) (by simp; omega)
  obtain ⟨w1, h6, h7⟩ := round_read h1 [10, 9, 32] [32, 13] (by decide) (by decide) (fun c hc => by injection hc with hc; subst hc; decide) (by simp; omega)
  refine ⟨good_sm 64 65 65 18000 (by omega) h1 (by omega) hl, hl, ?_, w1, h6, jSame_more 65 80 _ _ (by omega) h7⟩
  rw [List.nil_append, List.append_nil] at h4
  unfold jPrint
  rw [h4]
  simp only
  rw [if_pos h5]

theorem join3 (T : List UInt8) : (((⟨#[10, 9, 32]⟩ : ByteArray) ++ ⟨T.toArray⟩) ++ ⟨#[32, 13]⟩).data.toList = [10, 9, 32] ++ (T ++ [32, 13]) := by
  rw [ByteArray.data_append, ByteArray.data_append, Array.toList_append, Array.toList_append]
  simp

set_option maxHeartbeats 4000000 in
set_option maxRecDepth 100000 in
theorem lawRound_any (s : ByteArray) (w : World) (hU : EnvU w) :
    Calls Tryd.prog 11 #[.string s] w fun e w' => e = .returned (.bool true) ∧ Below w.heap.size w w' := by
  have HA := alive17_any w hU
  by_cases hs : s.size ≤ 3000
  · have hs2 : decide (3000 < (s.size : Int)) = false := by simp; omega
    have H1 := Lib.hid (fun J h w hU => read_ok s J h w hU)
    have H2 := Lib.hid (fun p er h w hU => read_bad s p er h w hU)
    have HL := Lib.hid (fun p er h => read_err_le (s := s.data.toList) (p := p) (er := er) h)
    have HC := Lib.hid (fun p er h => read_cd (s := s.data.toList) (q := p) (c := er) h)
    have HR := Lib.hid (fun J h => round_all (s := s.data.toList) (by simpa using hs) (J := J) h)
    generalize hRR : jRead s.data.toList = RR at *
    cases RR with
    | error pe =>
      obtain ⟨p, er⟩ := pe
      have H := Lib.hid (H2.out p er rfl)
      have hp : p ≤ s.size := by have := HL.out p er rfl; simpa using this
      have hp0 : (0 : Int) ≤ (p : Int) ∧ (p : Int) ≤ (s.size : Int) := by omega
      have hne : (er != 0) = true := by rw [bne_iff_ne]; have := HC.out _ _ rfl; omega
      have hne2 : (er == 0) = false := by rw [beq_eq_false_iff_ne]; have := HC.out _ _ rfl; omega
      clear H1 H2 HL HC HR hRR
      go_enter Tryd.func11, Tryd.ntmps11
      go_wp2_with fail
      refine HA.mono ?_
      rintro e w1 ⟨rfl, b1⟩
      go_wp2_with fail
      refine (H.out _ (hU.below b1)).mono ?_
      rintro e w2 ⟨rfl, b2⟩
      go_wp2_with fail
      go_ret
      exact ⟨rfl, (bthen b1 b2).alloc (bthen b1 b2).size _⟩
    | ok J =>
      have H := Lib.hid (H1.out J rfl)
      obtain ⟨hsm, htl, hpr, W, hW, hsame⟩ := HR.out J rfl
      have HCP := Lib.hid (fun w cs hJ => copied_any 65 (fun k => k < w.heap.size) w cs J 101 (by omega) (by omega) hJ hsm (fun k h => h))
      have HPR := Lib.hid (fun w cs hJ hU => print_any 65 (fun k => k < w.heap.size) J cs w hJ hsm (fun k h => h) hU (by omega))
      have HRS := Lib.hid (fun w ca cb hA hB => rsame_any 80 (by omega) (fun k => k < w.heap.size) (fun k => k < w.heap.size) 65 65 w ca cb J W 80 rfl hsm hA hB)
      rw [hpr] at HPR
      rw [hsame] at HRS
      rw [← join3] at hW
      have HRW := Lib.hid (fun w hU => read_ok _ W hW w hU)
      generalize jShow 65 J = TX at *
      clear H1 H2 HL HC HR hRR hsm hpr hsame hW
      go_enter Tryd.func11, Tryd.ntmps11
      go_wp2_with fail
      refine HA.mono ?_
      rintro e w1 ⟨rfl, b1⟩
      go_wp2_with fail
      refine (H.out _ (hU.below b1)).mono ?_
      rintro e w2 ⟨a1, c1, a2, c2, rfl, hJ, b2⟩
      have hx := Box5.new w2 (.int .i64 J.kind) (.string ⟨J.text.toArray⟩) (.slice a1 J.names.length c1) (.slice a2 J.kids.length c2) (.int .i64 J.pos)
      have ba := (Below.refl w2.heap.size w2).alloc (Nat.le_refl _) (.cells #[.int .i64 J.kind, .string ⟨J.text.toArray⟩, .slice a1 J.names.length c1, .slice a2 J.kids.length c2, .int .i64 J.pos] 34)
      have hJ3 := Lib.hid ((hJ.out.mono (T := fun k => k < w2.heap.size) (fun k hk _ => hk)).keep ba.size (fun i hi _ => ba.block i hi))
      have hJ4 := Lib.hid (hJ3.out.mono (T := fun k => k < (w2.alloc (.cells #[.int .i64 J.kind, .string ⟨J.text.toArray⟩, .slice a1 J.names.length c1, .slice a2 J.kids.length c2, .int .i64 J.pos] 34)).heap.size) (fun k hk _ => hk))
      have b12 := (bthen b1 b2).trans (ba.mono (bthen b1 b2).size)
      have HB12 := Lib.hid b12
      have HX := Lib.hid hx
      clear hx b12
      go_wp2_with fail
      refine (HCP.out _ _ hJ4.out).mono ?_
      rintro e w3 ⟨cs, rfl, hJc, b3⟩
      have b123 := bthen HB12.out b3
      obtain ⟨k5, t5, vn5, vk5, p5, rfl, ⟨a5, c5, m5, rfl⟩, ⟨a6, c6, m6, rfl⟩⟩ := jrep_cells hJc
      have HJC := Lib.hid (hJc.mono (T := fun k => k < w3.heap.size) (fun k hk _ => hk))
      have HB3 := Lib.hid b3
      have hx3 := Lib.hid (HX.out.below b3)
      clear hJc b3
      go_wp2_with fail
      refine (HPR.out _ _ HJC.out (hU.below b123)).mono ?_
      rintro e w4 ⟨rfl, b4⟩
      have b1234 := bthen b123 b4
      have hx4 := Lib.hid (hx3.out.below b4)
      have hJ5 := Lib.hid ((hJ4.out.keep HB3.out.size (fun i hi _ => HB3.out.block i hi)).keep b4.size (fun i hi h => b4.block i hi))
      unfold printV
      go_wp2_with fail
      refine (HRW.out _ (hU.below b1234)).mono ?_
      rintro e w5 ⟨a7, c7, a8, c8, rfl, hJW, b5⟩
      have b15 := bthen b1234 b5
      have bb := (Below.refl w5.heap.size w5).alloc (Nat.le_refl _) (.cells #[.int .i64 W.kind, .string ⟨W.text.toArray⟩, .slice a7 W.names.length c7, .slice a8 W.kids.length c8, .int .i64 W.pos] 34)
      have hx5 := (hx4.out.below b5).alloc (.cells #[.int .i64 W.kind, .string ⟨W.text.toArray⟩, .slice a7 W.names.length c7, .slice a8 W.kids.length c8, .int .i64 W.pos] 34)
      have y0 := hx5.cell 0 _ rfl
      have y1 := hx5.cell 1 _ rfl
      have y2 := hx5.cell 2 _ rfl
      have y3 := hx5.cell 3 _ rfl
      have y4 := hx5.cell 4 _ rfl
      have hA6 := Lib.hid (((hJ5.out.keep b5.size (fun i hi _ => b5.block i hi)).keep bb.size (fun i hi _ => bb.block i hi)).mono (T := fun k => k < (w5.alloc (.cells #[.int .i64 W.kind, .string ⟨W.text.toArray⟩, .slice a7 W.names.length c7, .slice a8 W.kids.length c8, .int .i64 W.pos] 34)).heap.size) (fun k hk _ => hk))
      have hB6 := Lib.hid ((hJW.out.keep bb.size (fun i hi _ => bb.block i hi)).mono (T := fun k => k < (w5.alloc (.cells #[.int .i64 W.kind, .string ⟨W.text.toArray⟩, .slice a7 W.names.length c7, .slice a8 W.kids.length c8, .int .i64 W.pos] 34)).heap.size) (fun k hk _ => hk))
      have b16 := b15.trans (bb.mono b15.size)
      clear hx5 bb b15 b1234 b123 ba
      go_wp2_with fail
      refine (HRS.out _ _ _ hA6.out hB6.out).mono ?_
      rintro e w6 ⟨rfl, b6⟩
      go_wp2_with fail
      go_ret
      exact ⟨rfl, bthen b16 b6⟩
  · have hs2 : decide (3000 < (s.size : Int)) = true := by simp; omega
    go_enter Tryd.func11, Tryd.ntmps11
    go_wp2_with fail
    refine HA.mono ?_
    rintro e w1 ⟨rfl, b1⟩
    go_wp2_with fail
    go_ret
    exact ⟨rfl, b1⟩
end Go.Proofs.YtghiboknhjnlkaaDoor
