/- Facts that json's reader of strings goes by: the tables of utf8, what a builder and a reader keep. -/
import Derived.Test.YtghiboknhjnlkaaDoorJEsc
import Derived.Test.YtghiboknhjnlkaaDoorBuild
set_option linter.unusedVariables false
set_option linter.unusedSimpArgs false
set_option linter.unnecessarySimpa false
namespace Go.Proofs.YtghiboknhjnlkaaDoor
open Go.RowKit

abbrev EnvU (w : World) : Prop := Lib.Utf8Tabs 0 1 w

theorem cell_block {w : World} {a : Addr} {v : Value} (h : w.cell? a = some v) : a.block < w.heap.size := by
  rcases Nat.lt_or_ge a.block w.heap.size with h' | h'
  · exact h'
  · simp [World.cell?, Array.getElem?_eq_none h'] at h

theorem EnvU.keep {w w' : World} (h : EnvU w) (h1 : w'.heap[0]? = w.heap[0]?) (h2 : w'.heap[1]? = w.heap[1]?) : EnvU w' :=
  ⟨fun c hc => (World.cell?_of_block (w := w) h1).trans (h.1 c hc), fun i hi => ⟨(World.cell?_of_block (w := w) h2).trans (h.2 i hi).1, (World.cell?_of_block (w := w) h2).trans (h.2 i hi).2⟩⟩

theorem EnvU.lt {w : World} (h : EnvU w) : 0 < w.heap.size ∧ 1 < w.heap.size :=
  ⟨cell_block (h.1 0 (by decide)), cell_block (h.2 0 (by decide)).1⟩

theorem EnvU.kx {X : Nat → Prop} {w w' : World} (h : EnvU w) (k : Kx X w w') (h1 : ¬ X 0) (h2 : ¬ X 1) : EnvU w' :=
  h.keep (k.block _ h.lt.1 h1) (k.block _ h.lt.2 h2)

theorem EnvU.below {w w' : World} (h : EnvU w) (k : Below w.heap.size w w') : EnvU w' :=
  h.keep (k.block _ h.lt.1) (k.block _ h.lt.2)

theorem decodeGo_rest (s : ByteArray) (q : Nat) (h : q < s.size) : Lib.decodeGo (s.extract q s.size) = Lib.decodeL (s.data.toList.drop q) := by
  unfold Lib.decodeGo
  rw [if_neg (by rw [rest_size s q (by omega)]; omega), decode_drop _ 0 (by rw [rest_size s q (by omega)]; omega)]
  congr 1
  simp [List.take_of_length_le]

theorem Rd.kb {s : ByteArray} {r q N b : Nat} {w w' : World} (h : Rd s r q w) (k : BK N b w w') (hb : r ≠ b) : Rd s r q w' :=
  KB.other k h hb (by decide)

theorem Bld.kx {N b : Nat} {l : List UInt8} {X : Nat → Prop} {w w' : World} (h : Bld N b l w) (k : Kx X w w') (hX : ∀ i, X i → i ≠ b ∧ i < N) : Bld N b l w' :=
  BldG.kept h fun i hi hb => k.block i hi (fun hx => by have := hX i hx; omega)

theorem dec_pos (l : List UInt8) (h : l ≠ []) : 1 ≤ (Lib.decodeL l).2 ∧ (Lib.decodeL l).2 ≤ l.length ∧ (Lib.decodeL l).2 ≤ 4 := by
  refine ⟨Lib.decodeL_width l, Lib.decodeL_le l h, ?_⟩
  by_cases hv : (Lib.decodeL l).1 = 65533 ∧ (Lib.decodeL l).2 = 1
  · omega
  · have he := congrArg List.length (Lib.encode_decode l h hv)
    have h2 := (encodeRune_len ((Lib.decodeL l).1 : Int)).2
    rw [he] at h2
    have h3 := Lib.decodeL_le l h
    simp only [List.length_take] at h2
    omega

theorem ext_take (x : ByteArray) (k : Nat) : (x.extract 0 k).data.toList = x.data.toList.take k := by simp
theorem rest_list (s : ByteArray) (q : Nat) : (s.extract q s.size).data.toList = s.data.toList.drop q := by simp [List.take_of_length_le]

/-- where the reader in block r stands -/
def rdPos (r : Nat) (w : World) : Nat := match w.cell? ⟨r, 1, none⟩ with | some (.int _ q) => q.toNat | _ => 0
theorem rdPos_of {s : ByteArray} {r q : Nat} {w : World} (h : Rd s r q w) : rdPos r w = q := by unfold rdPos; rw [h.c1]; rfl

theorem kx_low {X : Nat → Prop} {w w1 w2 : World} (h : Kx X w w1) (b : Below w.heap.size w1 w2) : Kx X w w2 :=
  h.trans' (Y := (w.heap.size ≤ ·)) ⟨b.os, b.tape, b.output, b.size, fun k _ hk => b.block k (by omega)⟩ (fun i hi hy => by omega)

theorem kx_bk {X : Nat → Prop} {w w1 w2 : World} (h : Kx X w w1) (b : BK w.heap.size w.heap.size w1 w2) : Kx X w w2 :=
  h.trans' (Y := (w.heap.size ≤ ·)) (Kx.of_kb b (fun _ => Nat.le_refl _) (fun k hk _ => hk)) (fun i hi hy => by omega)

theorem EnvU.bk {N b : Nat} {w w' : World} (h : EnvU w) (k : BK N b w w') (h1 : 0 < N ∧ 0 ≠ b) (h2 : 1 < N ∧ 1 ≠ b) : EnvU w' :=
  h.kx (X := fun i => i = b ∨ N ≤ i) (Kx.of_kb k (fun _ => .inl rfl) (fun i hi _ => .inr hi)) (by omega) (by omega)
end Go.Proofs.YtghiboknhjnlkaaDoor
