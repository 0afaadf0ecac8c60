/- stetlaw17.alive: JSON that the document fixes. -/
import Derived.Test.YtghiboknhjnlkaaDoorJPrint
set_option linter.unusedVariables false
set_option linter.unusedSimpArgs false
set_option linter.unnecessarySimpa false
namespace Go.Proofs.YtghiboknhjnlkaaDoor
open Go.RowKit

/-- a value's cells -/
abbrev jCells (J : JV) (a1 : Option Addr) (c1 : Nat) (a2 : Option Addr) (c2 : Nat) : List Value := [.int .i64 J.kind, strV J.text, .slice a1 J.names.length c1, .slice a2 J.kids.length c2, .int .i64 J.pos]

theorem jrep_jCells {S : Nat → Prop} {w : World} {f : Nat} {cs : List Value} {J : JV} (h : JRep S w f cs J) : ∃ a1 c1 a2 c2, cs = jCells J a1 c1 a2 c2 := by
  cases f with
  | zero => exact h.elim
  | succ f =>
    obtain ⟨k, t, ns, ks, p⟩ := J
    obtain ⟨vn, vk, rfl, h1, kcs, h2, h3, h4⟩ := h
    obtain ⟨a1, c1, rfl⟩ := h1.slice
    obtain ⟨a2, c2, rfl⟩ := h3.slice
    exact ⟨a1, c1, a2, c2, rfl⟩

theorem read_ok (s : ByteArray) (J : JV) (h : jRead s.data.toList = .ok J) (w : World) (hU : EnvU w) :
    Calls Tryd.prog 27 #[.string s] w fun e w' => ∃ a1 c1 a2 c2, e = .returned (.tuple #[.agg #[.int .i64 J.kind, .string ⟨J.text.toArray⟩, .slice a1 J.names.length c1, .slice a2 J.kids.length c2, .int .i64 J.pos], .int .i64 0, .int .i64 0]) ∧ Hid (JRep (fun k => w.heap.size ≤ k) w' 65 (jCells J a1 c1 a2 c2) J) ∧ Below w.heap.size w w' := by
  refine (read_any s w hU).mono ?_
  rw [h]
  rintro e w' ⟨⟨cs, rfl, hJ⟩, hb⟩
  obtain ⟨a1, c1, a2, c2, rfl⟩ := jrep_jCells hJ
  exact ⟨a1, c1, a2, c2, rfl, hJ, hb⟩

theorem read_bad (s : ByteArray) (p : Nat) (er : Int) (h : jRead s.data.toList = .error (p, er)) (w : World) (hU : EnvU w) :
    Calls Tryd.prog 27 #[.string s] w fun e w' => e = .returned (.tuple #[.agg #[.int .i64 0, .string ⟨#[]⟩, .slice none 0 0, .slice none 0 0, .int .i64 0], .int .i64 p, .int .i64 er]) ∧ Below w.heap.size w w' := by
  refine (read_any s w hU).mono ?_
  rw [h]
  rintro e w' ⟨rfl, hb⟩
  exact ⟨rfl, hb⟩

/-- the first kid's cells -/
theorem kid_first {S : Nat → Prop} {w : World} {f : Nat} {a1 a2 : Option Addr} {c1 c2 : Nat} {J : JV} (h : JRep S w (f + 1) (jCells J a1 c1 a2 c2) J) (K : JV) (ks : List JV) (hK : J.kids = K :: ks) :
    ∃ g o, a2 = some ⟨g, o, none⟩ ∧ g < w.heap.size ∧ (∃ a c, w.cell? ⟨g, o + 3, none⟩ = some (.slice a K.kids.length c)) ∧ w.cell? ⟨g, o + 4, none⟩ = some (.int .i64 K.pos) := by
  obtain ⟨k, t, ns, ks', p⟩ := J
  obtain rfl : ks' = K :: ks := hK
  obtain ⟨vn, vk, hcs, h1, kcs, h2, h3, h4⟩ := h
  simp only [JV.kids, List.cons.injEq] at hcs
  obtain ⟨-, -, rfl, rfl, -⟩ := hcs
  obtain ⟨g, o, c, hv, hg, hc⟩ := kid_cells h3 h2 (jrep_len5 h2 h4) (by simp)
  injection hv with hv1 _ hv2
  subst hv1
  have hk := h4 0 (by rw [h2]; simp) (by simp)
  obtain ⟨a3, c3, a4, c4, e⟩ := jrep_jCells hk
  have hc0 := hc 0 (by rw [h2]; simp)
  rw [e] at hc0
  have q3 := hc0 3 _ rfl
  have q4 := hc0 4 _ rfl
  simp only [Nat.zero_mul, Nat.add_zero] at q3 q4
  exact ⟨g, o, rfl, hg, ⟨_, _, q3⟩, q4⟩

def alS1 : List UInt8 := [32, 123, 34, 97, 34, 58, 32, 91, 49, 44, 32, 116, 114, 117, 101, 93, 125, 32]
def alK : JV := .mk 6 [] [] [.mk 4 [49] [] [] 8, .mk 2 [] [] [] 11] 7
def alV : JV := .mk 7 [] [[97]] [alK] 1
def alS2 : List UInt8 := [91, 49, 44, 32, 50]
def alT : List UInt8 := [123, 34, 97, 34, 58, 91, 49, 44, 116, 114, 117, 101, 93, 125]
theorem al17_1 : jRead alS1 = .ok alV := by kernel_rfl
theorem al17_2 : jRead alS2 = .error (5, 40) := by kernel_rfl
theorem al17_3 : jPrint 65 alV = some alT := by kernel_rfl
theorem al17_4 : jQuote [97, 10] = [34, 97, 92, 117, 48, 48, 48, 97, 34] := by kernel_rfl
theorem al17_5 : (jShow 65 alV).length ≤ 70368744177664 := by
  have : (jShow 65 alV).length = 14 := by kernel_rfl
  omega
theorem al17_6 : JSm 65 alV := by simp [JSm, alV, alK]

set_option maxHeartbeats 4000000 in
set_option maxRecDepth 100000 in
theorem alive17_any (w : World) (hU : EnvU w) :
    Calls Tryd.prog 26 #[] w fun e w' => e = .returned (.bool true) ∧ Below w.heap.size w w' := by
  have R1 := Lib.hid (read_ok ⟨alS1.toArray⟩ alV al17_1 w hU)
  simp only [show alV.kind = 7 from rfl, show alV.text = [] from rfl, show alV.names.length = 1 from rfl, show alV.kids.length = 1 from rfl, show alV.pos = 1 from rfl] at R1
  have R2 := Lib.hid (fun w hU => read_bad ⟨alS2.toArray⟩ 5 40 al17_2 w hU)
  have Q := Lib.hid (fun w => jquote_any ⟨#[97, 10]⟩ w (by decide))
  simp only [al17_4] at Q
  have P := Lib.hid (fun cs w hJ hU => print_any 65 (fun k => k < w.heap.size) alV cs w hJ al17_6 (fun k h => h) hU al17_5)
  rw [al17_3] at P
  go_enter Tryd.func26, Tryd.ntmps26
  go_wp2_with fail
  refine R1.out.mono ?_
  rintro e w1 ⟨a1, c1, a2, c2, rfl, hJ, b1⟩
  have hU1 := hU.below b1
  obtain ⟨g, o, rfl, hg, ⟨a, c, q3⟩, q4⟩ := kid_first hJ.out alK [] rfl
  simp only [show alK.kids.length = 2 from rfl, show alK.pos = 7 from rfl] at q3 q4
  go_wp2_with fail
  have ba := (Below.refl w1.heap.size w1).alloc (Nat.le_refl _) (.cells #[.int .i64 7, .string ⟨#[]⟩, .slice a1 1 c1, .slice (some ⟨g, o, none⟩) 1 c2, .int .i64 1] 34)
  have hx := Box5.new w1 (.int .i64 7) (.string ⟨#[]⟩) (.slice a1 1 c1) (.slice (some ⟨g, o, none⟩) 1 c2) (.int .i64 1)
  refine (R2.out _ (hU1.below ba)).mono ?_
  rintro e w2 ⟨rfl, b2⟩
  have hb2 := (ba.trans (b2.mono ba.size)).alloc (by have := ba.size; have := b2.size; omega) (.cells #[.int .i64 0, .string ⟨#[]⟩, .slice none 0 0, .slice none 0 0, .int .i64 0] 34)
  have hx2 := (hx.below b2).alloc (.cells #[.int .i64 0, .string ⟨#[]⟩, .slice none 0 0, .slice none 0 0, .int .i64 0] 34)
  have y0 := hx2.cell 0 _ rfl
  have y1 := hx2.cell 1 _ rfl
  have y2 := hx2.cell 2 _ rfl
  have y3 := hx2.cell 3 _ rfl
  have y4 := hx2.cell 4 _ rfl
  have HB2 := Lib.hid hb2
  have HX2 := Lib.hid hx2
  clear hx hx2 hb2
  go_wp2_with fail
  refine (P.out (jCells alV a1 c1 (some ⟨g, o, none⟩) c2) _ ((hJ.out.keep HB2.out.size (fun i hi _ => HB2.out.block i hi)).mono (fun k hk _ => hk)) (hU1.below HB2.out)).mono ?_
  rintro e w3 ⟨rfl, b3⟩
  have hb3 := HB2.out.trans (b3.mono HB2.out.size)
  have hx3 := HX2.out.below b3
  have z0 := hx3.cell 0 _ rfl
  have z3 := hx3.cell 3 _ rfl
  have r3 := (hb3.cell (p := ⟨g, o + 3, none⟩) hg).trans q3
  have r4 := (hb3.cell (p := ⟨g, o + 4, none⟩) hg).trans q4
  clear y0 y1 y2 y3 y4 q3 q4 hx3
  unfold printV alT
  go_wp2_with fail
  refine (Q.out _).mono ?_
  rintro e w4 ⟨rfl, b4⟩
  go_wp2_with fail
  go_ret
  exact ⟨rfl, bthen (bthen b1 hb3) b4⟩
end Go.Proofs.YtghiboknhjnlkaaDoor
