/- json.Print. -/
import Derived.Test.YtghiboknhjnlkaaDoorJShowZ
import Derived.Test.YtghiboknhjnlkaaDoorJReadA
import Derived.Test.YtghiboknhjnlkaaDoorJPx
set_option linter.unusedVariables false
set_option linter.unusedSimpArgs false
set_option linter.unnecessarySimpa false
namespace Go.Proofs.YtghiboknhjnlkaaDoor
open Go.RowKit

/-- json.Print: the text, if it is read as the value again; V has f levels -/
def jPrint (f : Nat) (V : JV) : Option (List UInt8) :=
  match jRead (jShow 65 V) with
  | .error _ => none
  | .ok W => if jSame f V W = true then some (jShow 65 V) else none

def printV (r : Option (List UInt8)) : Value :=
  match r with
  | some l => .tuple #[.string ⟨l.toArray⟩, .int .i64 0]
  | none => .tuple #[.string ⟨#[]⟩, .int .i64 52]

/-- String leaves the builder as it is -/
theorem toString_keeps (N b : Nat) (l : List UInt8) (w : World) (h : Bld N b l w) (hN : N ≤ b) (hBw : N ≤ w.heap.size) :
    Calls Tryd.prog 51 #[.pointer (some ⟨b, 0, none⟩)] w fun e w' => e = .returned (.string ⟨l.toArray⟩) ∧ Bld N b l w' ∧ Below N w w' := by
  refine (Tryd.Builder_String_any_k N b l w (h.isF N hN (Nat.le_refl _)) hBw).mono ?_
  rintro e w' ⟨rfl, hi, hb, _⟩
  refine ⟨rfl, ?_, hb⟩
  rcases hi with ⟨_, v, h1, h2, h3⟩ | ⟨_, v, h1, h2, h3⟩
  · exact ⟨_, v, .inl rfl, h1, h2, h3⟩
  · exact ⟨_, v, .inr rfl, h1, h2, h3⟩

set_option maxHeartbeats 1000000 in
set_option maxRecDepth 100000 in
theorem print_any (f : Nat) (S : Nat → Prop) (V : JV) (cs : List Value) (w : World) (hJ : JRep S w f cs V) (hsm : JSm f V) (hS : ∀ k, S k → k < w.heap.size) (hU : EnvU w) (hln : (jShow 65 V).length ≤ 70368744177664) :
    Calls Tryd.prog 32 #[.agg cs.toArray] w fun e w' => e = .returned (printV (jPrint f V)) ∧ Below w.heap.size w w' := by
  obtain ⟨k0, t0, vn0, vk0, p0, rfl, ⟨a1, c1, m1, rfl⟩, ⟨a2, c2, m2, rfl⟩⟩ := jrep_cells hJ
  have hx := Box5.new w (.int .i64 k0) (.string t0) (.slice a1 m1 c1) (.slice a2 m2 c2) (.int .i64 p0)
  have hbox := bk_alloc (N := w.heap.size + 1) (b := w.heap.size + 1) (w := w) (.cells #[.int .i64 k0, .string t0, .slice a1 m1 c1, .slice a2 m2 c2, .int .i64 p0] 34)
  generalize hw1 : w.alloc (.cells #[.int .i64 k0, .string t0, .slice a1 m1 c1, .slice a2 m2 c2, .int .i64 p0] 34) = w1 at *
  have hs1 : w1.heap.size = w.heap.size + 1 := by rw [← hw1]; simp
  have hB0 := BldG.fresh 57 5 (w.heap.size + 1) w1
  rw [hs1] at hB0
  have hx2 := hx.alloc (.cells #[.pointer none, .slice none 0 0] 57)
  have hb2 := hbox.trans (bk_alloc (N := w.heap.size + 1) (b := w.heap.size + 1) (w := w1) (.cells #[.pointer none, .slice none 0 0] 57))
  have hSN : ∀ k, S k → k < w.heap.size + 1 ∧ k ≠ w.heap.size + 1 := fun k h => by have := hS k h; omega
  have hJ2 := jrep_bk hJ hSN hb2
  have HSH := Lib.hid (show_any 65 (by omega) f S (w.heap.size + 1) (w.heap.size + 1) [] _ _ V 65 rfl hJ2 hsm hSN hB0 (by simp [hs1]) (by simpa using hln))
  have y0 := hx2.cell 0 _ rfl
  have y1 := hx2.cell 1 _ rfl
  have y2 := hx2.cell 2 _ rfl
  have y3 := hx2.cell 3 _ rfl
  have y4 := hx2.cell 4 _ rfl
  have HJ2 := Lib.hid hJ
  have HS1 := Lib.hid hs1
  have HX2 := Lib.hid hx2
  have HB2 := Lib.hid hb2
  have HSN := Lib.hid hSN
  have HSM := Lib.hid hsm
  have hRd := Lib.hid (fun w h => read_any ⟨(jShow 65 V).toArray⟩ w h)
  unfold jPrint
  generalize jShow 65 V = txt at *
  have hcd := Lib.hid (fun q c => read_cd (s := txt) (q := q) (c := c))
  simp only [] at hRd
  generalize jRead txt = R at *
  clear hB0 hJ hJ2 hx hx2 hb2 hSN hsm hbox
  subst hw1
  clear hs1
  cases R with
  | error pe =>
    obtain ⟨pp, er⟩ := pe
    have hne : (er != 0) = true := by rw [bne_iff_ne]; have := hcd.out _ _ rfl; omega
    have hne2 : (er == 0) = false := by rw [beq_eq_false_iff_ne]; have := hcd.out _ _ rfl; omega
    simp only
    go_enter Tryd.func32, Tryd.ntmps32
    go_wp2_with fail
    refine HSH.out.mono ?_
    rintro e W1 ⟨rfl, hB1, k1⟩
    have hx1 := HX2.out.bk k1 (by omega)
    have hk1 := HB2.out.trans k1
    have hs1 := hk1.size
    rw [List.nil_append] at hB1
    have hs1' := hB1.lt
    clear y0 y1 y2 y3 y4
    go_wp2_with fail
    refine (toString_keeps _ _ _ _ hB1 (Nat.le_refl _) (by omega)).mono ?_
    rintro e W2 ⟨rfl, hB2, b2⟩
    have hx2 : Box5 w.heap.size _ W2 := (b2.block w.heap.size (by omega)).trans hx1
    have hb2 : Below (w.heap.size) w W2 := (hk1.below (Nat.le_refl _) (by omega) (by omega)).trans (b2.mono (by omega))
    have hU2 : EnvU W2 := hU.keep (hb2.block _ hU.lt.1) (hb2.block _ hU.lt.2)
    have hs2 := hb2.size
    have hs2b := b2.size
    clear hx1
    go_wp2_with fail
    refine (hRd.out _ hU2).mono ?_
    rintro e W3 ⟨rfl, b3⟩
    have hb3 := hb2.trans (b3.mono hb2.size)
    go_wp2_with fail
    go_ret2
    exact ⟨rfl, hb3.alloc (by have := b3.size; omega) _⟩
  | ok J =>
    have HSAM := Lib.hid (fun (T : Nat → Prop) W ca cb => same_any f S T 65 W ca cb V J HSM.out)
    simp only
    generalize jSame f V J = bs at *
    have hpv : ∃ pv, pv = printV (if bs = true then some txt else none) := ⟨_, rfl⟩
    obtain ⟨pv, hpv⟩ := hpv
    rw [← hpv]
    have HPV := Lib.hid hpv
    clear hpv
    go_enter Tryd.func32, Tryd.ntmps32
    go_wp2_with fail
    refine HSH.out.mono ?_
    rintro e W1 ⟨rfl, hB1, k1⟩
    have hx1 := HX2.out.bk k1 (by omega)
    have hk1 := HB2.out.trans k1
    have hs1 := hk1.size
    rw [List.nil_append] at hB1
    have hs1' := hB1.lt
    clear y0 y1 y2 y3 y4
    go_wp2_with fail
    refine (toString_keeps _ _ _ _ hB1 (Nat.le_refl _) (by omega)).mono ?_
    rintro e W2 ⟨rfl, hB2, b2⟩
    have hx2 : Box5 w.heap.size _ W2 := (b2.block w.heap.size (by omega)).trans hx1
    have hb2 : Below (w.heap.size) w W2 := (hk1.below (Nat.le_refl _) (by omega) (by omega)).trans (b2.mono (by omega))
    have hU2 : EnvU W2 := hU.keep (hb2.block _ hU.lt.1) (hb2.block _ hU.lt.2)
    have hs2 := hb2.size
    have hs2b := b2.size
    clear hx1
    go_wp2_with fail
    refine (hRd.out _ hU2).mono ?_
    rintro e W3 ⟨⟨cs, rfl, hJ3⟩, b3⟩
    obtain ⟨k3, t3, vn3, vk3, p3, rfl, ⟨a3, c3, m3, rfl⟩, ⟨a4, c4, m4, rfl⟩⟩ := jrep_cells hJ3
    have hb3 := hb2.trans (b3.mono hb2.size)
    have hx3 := hx2.below b3
    have hy := hx3.alloc (.cells #[.int .i64 k3, .string t3, .slice a3 m3 c3, .slice a4 m4 c4, .int .i64 p3] 34)
    have y0 := hy.cell 0 _ rfl
    have y1 := hy.cell 1 _ rfl
    have y2 := hy.cell 2 _ rfl
    have y3 := hy.cell 3 _ rfl
    have y4 := hy.cell 4 _ rfl
    have hba : Below W3.heap.size W3 (W3.alloc (.cells #[.int .i64 k3, .string t3, .slice a3 m3 c3, .slice a4 m4 c4, .int .i64 p3] 34)) := (Below.refl _ _).alloc (Nat.le_refl _) _
    have hJV : JRep S (W3.alloc (.cells #[.int .i64 k3, .string t3, .slice a3 m3 c3, .slice a4 m4 c4, .int .i64 p3] 34)) f [.int .i64 k0, .string t0, .slice a1 m1 c1, .slice a2 m2 c2, .int .i64 p0] V := by
      have h1 := hb3.trans (hba.mono hb3.size)
      exact HJ2.out.keep h1.size (fun i hi hs => h1.block i hi)
    have HSA := Lib.hid (HSAM.out _ _ _ _ hJV (hJ3.keep hba.size (fun i hi _ => hba.block i hi)))
    have hB3 := (hB2.below b3).below hba
    have hs3 := b3.size
    clear hx3 hJ3 hJV hx2 hb2 hU2 hB1 hB2 hk1 hy hRd hcd
    cases bs
    · go_wp2_with fail
      refine HSA.out.mono ?_
      rintro e W4 ⟨rfl, b4⟩
      go_wp2_with fail
      go_ret2
      exact ⟨by rw [HPV.out]; rfl, (hb3.trans (hba.mono hb3.size)).trans (b4.mono (by have := hba.size; omega))⟩
    · go_wp2_with fail
      refine HSA.out.mono ?_
      rintro e W4 ⟨rfl, b4⟩
      have hs4 := b4.size
      have hs5 := hba.size
      clear y0 y1 y2 y3 y4
      go_wp2_with fail
      refine (toString_keeps _ _ _ _ (hB3.below b4) (Nat.le_refl _) (by omega)).mono ?_
      rintro e W5 ⟨rfl, -, b5⟩
      go_wp2_with fail
      go_ret2
      exact ⟨by rw [HPV.out]; rfl, ((hb3.trans (hba.mono hb3.size)).trans (b4.mono (by omega))).trans (b5.mono (by omega))⟩
end Go.Proofs.YtghiboknhjnlkaaDoor
