/- json's reader: list, for whatever function it is handed. What holds while json reads an array or an object. What a list of JSON values is behind one more kid; a statement that may panic. What a list of JSON values is behind one more kid: whichever of the call and the append came first. -/
import Derived.Test.YtghiboknhjnlkaaDoorJText
set_option linter.unusedVariables false
set_option linter.unusedSimpArgs false
set_option linter.unnecessarySimpa false
namespace Go.Proofs.YtghiboknhjnlkaaDoor
open Go.RowKit

def blS : List UInt8 := [32, 9, 10, 13]
theorem ascii_blS : Ascii ⟨blS.toArray⟩ := by
  intro k hk
  have : ∀ k : Fin 4, ((⟨blS.toArray⟩ : ByteArray)[k.1]'(by exact k.2)).toNat < 128 := by decide
  exact this ⟨k, hk⟩

theorem blank_le (s : ByteArray) (q : Nat) (hq : q ≤ s.size) : q ≤ jBlank s.data.toList q ∧ jBlank s.data.toList q ≤ s.size := by
  unfold jBlank
  have := takeWhile_le isBl (s.data.toList.drop q)
  rw [drop_len s q hq] at this
  omega

theorem blanks_any (s : ByteArray) (r q : Nat) (hq : q ≤ s.size) (hs : s.size ≤ 140737488351232) (w : World) (h : Rd s r q w) :
    Calls Tryd.prog 58 #[RP r, .string ⟨blS.toArray⟩] w fun e w' => ∃ v : Value, e = .returned v ∧ Rd s r (jBlank s.data.toList q) w' ∧ Kx (· = r) w w' :=
  (eat_any s r q blS ascii_blS (by decide) w h hq hs).mono fun e w' ⟨he, hr, hk⟩ => ⟨_, he, hr, hk⟩

/-- how a step of a list, or a list, ends -/
def StepE (s : ByteArray) (INV : JSt → Nat → World → Prop) (p : Nat) (R : Except JErr (JSt × Nat)) (e : Ending) (w' : World) : Prop :=
  match R with
  | .ok (st, q) => e = .returned (.tuple #[]) ∧ INV st q w' ∧ p ≤ q
  | .error (q, er) => e = Wr q er

set_option maxHeartbeats 1000000 in
set_option maxRecDepth 100000 in
theorem list_any (s : ByteArray) (r p : Nat) (en : UInt8) (F : Nat) (cap : Array Value) (X : Nat → Prop) (INV : JSt → Nat → World → Prop) (step : JSt → Nat → Except JErr (JSt × Nat)) (w : World)
    (hs : s.size ≤ 4398046511104) (hX : X r) (hEn : ∀ w, Sem.run Tryd.prog (callFunc F cap) w = .ok (.enter F cap) w)
    (hstep : ∀ st q w, INV st q w → Calls Tryd.prog F cap w fun e w' => StepE s INV q (step st q) e w' ∧ Kx X w w')
    (hrd : ∀ st q w, INV st q w → Rd s r q w ∧ q ≤ s.size)
    (hkeep : ∀ st q w q' w', INV st q w → Kx (· = r) w w' → Rd s r q' w' → q ≤ q' → q' ≤ s.size → INV st q' w')
    (h0 : INV ([], []) p w) (hp : p < s.size) :
    Calls Tryd.prog 85 #[RP r, .string ⟨[en].toArray⟩, .func (.func F) #[] cap] w fun e w' => StepE s INV (p + 1) (jList s.data.toList en step p) e w' ∧ Kx X w w' := by
  obtain ⟨hR, -⟩ := hrd _ _ _ h0
  have c1 := hR.c1
  have f1 := hR.fz
  have R1 : Rd s r (p + 1) (w.setCell ⟨r, 1, none⟩ (.int .i64 ((p : Int) + 1))) := hR.set _ _ (by omega)
  have K1 : Kx (· = r) w (w.setCell ⟨r, 1, none⟩ (.int .i64 ((p : Int) + 1))) := Kx.setCell (X := (· = r)) (Kx.refl _ w) ⟨r, 1, none⟩ (fun _ => rfl) _
  have I1 := Lib.hid (hkeep _ _ _ _ _ h0 K1 R1 (by omega) (by omega))
  have hB := Lib.hid (fun q hq w h => blanks_any s r q hq (by omega) w h)
  have hO := Lib.hid (fun (q : Nat) w h hq => one_any s r q [en] w h hq (by omega))
  have hW := Lib.hid (fun (q : Nat) w h hq => word_any s r q [44] (by decide) w h hq (by omega))
  have hRd := Lib.hid hrd
  have hKp := Lib.hid hkeep
  have hSt := Lib.hid hstep
  have toX : ∀ {a b : World}, Kx (· = r) a b → Kx X a b := fun h => h.mono (fun k _ e => e ▸ hX)
  have TX := Lib.hid (fun (a b : World) (h : Kx (· = r) a b) => toX h)
  generalize hRR : jList s.data.toList en step p = RR
  unfold jList at hRR
  have hb1 := blank_le s (p + 1) (by omega)
  have hBl := Lib.hid (hB.out (p + 1) (by omega))
  have HRR := Lib.hid hRR
  generalize jBlank s.data.toList (p + 1) = q1 at *
  clear hstep hrd hkeep h0 toX hRR
  have hone := hO.out q1
  rw [jHas_one] at hone
  have HON := Lib.hid hone
  clear hone
  go_enter Tryd.func85, Tryd.ntmps85
  go_wp2_with fail
  generalize w.setCell _ _ = W1 at *
  refine (hBl.out _ R1).mono ?_
  rintro e w2 ⟨v2, rfl, R2, k2⟩
  have I2 := Lib.hid (hKp.out _ _ _ _ _ I1.out k2 R2 (by omega) (by omega))
  have K2 := TX.out _ _ (K1.trans k2)
  go_wp2_with fail
  refine (HON.out _ R2 (by omega)).mono ?_
  rintro e w3 ⟨rfl, R3, k3⟩
  by_cases hen : s.data.toList[q1]? = some en
  · have hrr := HRR.out
    rw [if_pos hen] at hrr
    rw [decide_eq_true hen] at R3 ⊢
    simp only [if_true] at R3
    have HR := Lib.hid hrr
    have hlt : q1 < s.size := by
      rcases Nat.lt_or_ge q1 s.size with h | h
      · exact h
      · rw [data_none s _ (by omega)] at hen; cases hen
    have I3 := hKp.out _ _ _ _ _ I2.out k3 R3 (by omega) (by omega)
    have I3' := Lib.hid I3
    clear hrr hen I3
    go_wp2_with fail
    refine bodyPost_ret (results_none rfl _ _ _) rfl ?_
    refine ⟨?_, K2.trans (TX.out _ _ k3)⟩
    rw [← HR.out]
    exact ⟨rfl, I3'.out, by omega⟩
  · have hrr := HRR.out
    rw [if_neg hen] at hrr
    rw [decide_eq_false hen] at R3 ⊢
    simp only [Bool.false_eq_true, if_false] at R3
    have HR := Lib.hid hrr
    have I3 := hKp.out _ _ _ _ _ I2.out k3 R3 (by omega) (by omega)
    have I3' := Lib.hid I3
    have K3 := K2.trans (TX.out _ _ k3)
    clear hrr hen I3 HRR
    go_wp2_with fail
    go_loopw [] (fun wr => ∃ (q n : Nat) (st : JSt), p + 1 ≤ q ∧ q ≤ s.size ∧ Hid (INV st q wr) ∧ Kx X w wr ∧ s.size < n + q ∧ Hid (jLoop s.data.toList en step n st q = RR)) (fun wr => s.size - rdPos r wr)
    case atStart => exact ⟨q1, s.size + 1, _, by omega, by omega, I3', K3, by omega, HR.out⟩
    case round =>
      obtain ⟨q, n, st, hpq, hq, HI, hK, hn, HJ⟩ := hrel
      obtain ⟨m, rfl⟩ : ∃ m, n = m + 1 := ⟨n - 1, by omega⟩
      have hj := HJ.out
      unfold jLoop at hj
      have hmeas : rdPos r wr = q := rdPos_of (hRd.out _ _ _ HI.out).1
      have hS := hSt.out st q wr HI.out
      have HSC := Lib.hid hS
      generalize step st q = RS at *
      clear hS HJ hSt
      cases RS with
      | error er =>
        obtain ⟨q2, er⟩ := er
        have HR := Lib.hid hj
        clear hj
        go_wp2_with fail
        refine HSC.out.mono ?_
        rintro e w4 ⟨rfl, k4⟩
        go_wp2_with fail
        refine ⟨rfl, ?_, hK.trans k4⟩
        rw [← HR.out]
        rfl
      | ok sq =>
        obtain ⟨st2, q2⟩ := sq
        simp only at hj
        go_wp2_with fail
        refine HSC.out.mono ?_
        rintro e w4 ⟨⟨rfl, I4, hq2⟩, k4⟩
        obtain ⟨R4, hq2s⟩ := hRd.out _ _ _ I4
        have hb2 := blank_le s q2 hq2s
        have hBl2 := Lib.hid (hB.out q2 hq2s)
        have I4' := Lib.hid I4
        have K4 := hK.trans k4
        generalize jBlank s.data.toList q2 = q3 at *
        clear I4
        go_wp2_with fail
        refine (hBl2.out _ R4).mono ?_
        rintro e w5 ⟨v5, rfl, R5, k5⟩
        have I5 := Lib.hid (hKp.out _ _ _ _ _ I4'.out k5 R5 (by omega) (by omega))
        have K5 := K4.trans (TX.out _ _ k5)
        have hone := hO.out q3 _ R5 (by omega)
        rw [jHas_one] at hone
        have HON2 := Lib.hid hone
        clear hone
        go_wp2_with fail
        refine HON2.out.mono ?_
        rintro e w6 ⟨rfl, R6, k6⟩
        have K6 := K5.trans (TX.out _ _ k6)
        by_cases hen2 : s.data.toList[q3]? = some en
        · rw [if_pos hen2] at hj
          rw [decide_eq_true hen2] at R6 ⊢
          simp only [if_true] at R6
          have hlt : q3 < s.size := by
            rcases Nat.lt_or_ge q3 s.size with h | h
            · exact h
            · rw [data_none s _ (by omega)] at hen2; cases hen2
          have I6 := Lib.hid (hKp.out _ _ _ _ _ I5.out k6 R6 (by omega) (by omega))
          have HR := Lib.hid hj
          clear hj hen2
          go_wp2_with fail
          refine bodyPost_ret (results_none rfl _ _ _) rfl ?_
          refine ⟨?_, K6⟩
          rw [← HR.out]
          exact ⟨rfl, I6.out, by omega⟩
        · rw [if_neg hen2] at hj
          rw [decide_eq_false hen2] at R6 ⊢
          simp only [Bool.false_eq_true, if_false] at R6
          have I6 := Lib.hid (hKp.out _ _ _ _ _ I5.out k6 R6 (by omega) (by omega))
          have hjw : jWord s.data.toList q3 [44] = if s.data.toList[q3]? = some 44 then .ok (q3 + 1) else .error q3 := by unfold jWord; rfl
          have hw := fun w h hq => hW.out q3 w h hq
          rw [hjw] at hw
          by_cases h44 : s.data.toList[q3]? = some 44
          · rw [if_pos h44] at hj hw
            have hlt : q3 < s.size := by
              rcases Nat.lt_or_ge q3 s.size with h | h
              · exact h
              · rw [data_none s _ (by omega)] at h44; cases h44
            have hb3 := blank_le s (q3 + 1) (by omega)
            have hBl3 := Lib.hid (hB.out (q3 + 1) (by omega))
            have HR := Lib.hid hj
            have HW := Lib.hid hw
            clear hj hw hjw hen2 h44
            go_wp2_with fail
            refine (HW.out _ R6 (by omega)).mono ?_
            rintro e w7 ⟨⟨rfl, R7, hq7⟩, k7⟩
            have I7 := Lib.hid (hKp.out _ _ _ _ _ I6.out k7 R7 (by omega) hq7)
            have K7 := K6.trans (TX.out _ _ k7)
            go_wp2_with fail
            refine (hBl3.out _ R7).mono ?_
            rintro e w8 ⟨v8, rfl, R8, k8⟩
            have I8 := Lib.hid (hKp.out _ _ _ _ _ I7.out k8 R8 (by omega) (by omega))
            go_wp2_with fail
            exact ⟨⟨_, m, st2, by omega, by omega, I8, K7.trans (TX.out _ _ k8), by omega, HR.out⟩, by rw [rdPos_of R8, hmeas]; omega⟩
          · rw [if_neg h44] at hj hw
            have HR := Lib.hid hj
            have HW := Lib.hid hw
            clear hj hw hjw hen2 h44
            go_wp2_with fail
            refine (HW.out _ R6 (by omega)).mono ?_
            rintro e w7 ⟨⟨rfl, hq7⟩, k7⟩
            go_wp2_with fail
            refine ⟨rfl, ?_, K6.trans (TX.out _ _ k7)⟩
            rw [← HR.out]
            rfl
end Go.Proofs.YtghiboknhjnlkaaDoor

namespace Go.Proofs.YtghiboknhjnlkaaDoor
open Go.RowKit

/-- the value in block vb: its kind and place, the names and kids so far; their rows lie from block B on -/
def VSt (vb B f : Nat) (kind : Int) (pos : Nat) (st : JSt) (w : World) : Prop :=
  ∃ vn vk, w.heap[vb]? = some (.cells #[.int .i64 kind, .string ⟨#[]⟩, vn, vk, .int .i64 pos] 34 (0, 0)) ∧ w.ownsRow B 9 1 vn st.1.length (st.1.map strV) ∧
    ∃ kcs : List (List Value), kcs.length = st.2.length ∧ w.ownsRow B 34 5 vk st.2.length kcs.flatten ∧
      ∀ j (h : j < kcs.length) (h2 : j < st.2.length), JRep (fun k => B ≤ k ∧ vk.ownBlock ≠ some k ∧ vn.ownBlock ≠ some k) w f kcs[j] st.2[j]

theorem ownsRow_keep {w w' : World} {base : Nat} {e : TypeId} {z : Nat} {v : Value} {n : Nat} {xs : List Value} (h : w.ownsRow base e z v n xs) (hk : ∀ k, k < w.heap.size → base ≤ k → w'.heap[k]? = w.heap[k]?) : w'.ownsRow base e z v n xs := by
  refine ⟨h.1, ?_⟩
  rcases h.2 with hn | ⟨g, cap, cur, rfl, hb, hg, rest⟩
  · exact .inl hn
  · exact .inr ⟨g, cap, cur, rfl, hb, by rw [hk g (Array.getElem?_eq_some_iff.1 hg).1 hb]; exact hg, rest⟩

theorem VSt.kx {vb B f : Nat} {kind : Int} {pos : Nat} {st : JSt} {X : Nat → Prop} {w w' : World} (h : VSt vb B f kind pos st w) (k : Kx X w w') (h1 : ¬ X vb) (h2 : ∀ i, X i → i < B) : VSt vb B f kind pos st w' := by
  obtain ⟨vn, vk, hv, hn, kcs, hl, hk, hj⟩ := h
  have hkk : ∀ i, i < w.heap.size → B ≤ i → w'.heap[i]? = w.heap[i]? := fun i hi hb => k.block i hi (fun hx => by have := h2 i hx; omega)
  refine ⟨vn, vk, ?_, ownsRow_keep hn hkk, kcs, hl, ownsRow_keep hk hkk, fun j hh hh2 => (hj j hh hh2).kx k (fun i hi hx => by have := h2 i hx; omega)⟩
  rw [k.block vb (Array.getElem?_eq_some_iff.1 hv).1 h1]
  exact hv

/-- what holds between two of its parts; N: the first block of the call that reads it -/
structure INV (s : ByteArray) (r N f : Nat) (dz kind : Int) (pos : Nat) (st : JSt) (q : Nat) (w : World) : Prop where
  rd : Rd s r q w
  le : q ≤ s.size
  env : EnvU w
  box : w.heap[N]? = some (.cells #[RP r] 72 (0, 0))
  deep : w.heap[N + 1]? = some (.cells #[.int .i64 dz] 3 (0, 0))
  val : VSt (N + 3) (N + 4) f kind pos st w
  size : N + 4 ≤ w.heap.size
  len : st.1.length ≤ q ∧ st.2.length ≤ q
  res : w.heap[N + 2]? = some (.cells #[.int .i64 0, .string ⟨#[]⟩, .slice none 0 0, .slice none 0 0, .int .i64 0] 34 (0, 0))

theorem INV.keep {s : ByteArray} {r N f : Nat} {dz kind : Int} {pos : Nat} {st : JSt} {q q' : Nat} {w w' : World} (h : INV s r N f dz kind pos st q w) (hr : r < N) (hu : r ≠ 0 ∧ r ≠ 1) (k : Kx (· = r) w w') (hR : Rd s r q' w') (hqq : q ≤ q') (hq : q' ≤ s.size) : INV s r N f dz kind pos st q' w' where
  rd := hR
  le := hq
  env := h.env.kx k (fun e => hu.1 e.symm) (fun e => hu.2 e.symm)
  box := by rw [k.block N (by have := h.size; omega) (by omega)]; exact h.box
  deep := by rw [k.block (N + 1) (by have := h.size; omega) (by omega)]; exact h.deep
  val := h.val.kx k (by omega) (by omega)
  size := by have := h.size; have := k.size; omega
  len := by have := h.len; omega
  res := by rw [k.block (N + 2) (by have := h.size; omega) (by omega)]; exact h.res

/-- how value ends; the new rows lie from block H on -/
def ValE (s : ByteArray) (r f p H : Nat) (R : Except JErr (JV × Nat)) (e : Ending) (w' : World) : Prop :=
  match R with
  | .ok (J, q) => ∃ cs : List Value, e = .returned (.agg cs.toArray) ∧ JRep (fun k => H ≤ k) w' (f + 1) cs J ∧ Rd s r q w' ∧ p < q ∧ q ≤ s.size
  | .error (q, er) => e = Wr q er

/-- value's contract, within so many levels more -/
def ValC (s : ByteArray) (f : Nat) : Prop :=
  ∀ (dz : Int), dz + f = 64 → 0 ≤ dz → ∀ r p w, Rd s r p w → p ≤ s.size → EnvU w → (r ≠ 0 ∧ r ≠ 1) →
    Calls Tryd.prog 59 #[RP r, .int .i64 dz] w fun e w' => ValE s r f p w.heap.size (jVal s.data.toList f p) e w' ∧ Kx (· = r) w w'

theorem jrep_cells {S : Nat → Prop} {w : World} {f : Nat} {cs : List Value} {J : JV} (h : JRep S w f cs J) : ∃ k t vn vk p, cs = [.int .i64 k, .string t, vn, vk, .int .i64 p] ∧ (∃ a c n, vn = .slice a n c) ∧ ∃ a c n, vk = .slice a n c := by
  cases f with
  | zero => exact h.elim
  | succ f =>
    cases J with
    | mk k t ns ks p =>
      obtain ⟨vn, vk, rfl, h1, kcs, h2, h3, h4⟩ := h
      obtain ⟨a, c, h5⟩ := h1.slice
      obtain ⟨a', c', h6⟩ := h3.slice
      exact ⟨_, _, vn, vk, _, rfl, ⟨a, c, _, h5⟩, ⟨a', c', _, h6⟩⟩
end Go.Proofs.YtghiboknhjnlkaaDoor

namespace Go.Proofs.YtghiboknhjnlkaaDoor
open Go.RowKit

/-- Q, but at a panic what is said of the world alone -/
def PanTo (PAN : List PanicEntry → Act → World → Prop) (Q : Exit → Act → World → Prop) : Exit → Act → World → Prop
  | .panic c, a, w => PAN c a w
  | .normal, a, w => Q .normal a w
  | .ret, a, w => Q .ret a w
  | .exit i, a, w => Q (.exit i) a w
  | .goto l, a, w => Q (.goto l) a w
  | .outgrown, a, w => Q .outgrown a w

theorem wp_panTo {P : Program} {c : Code} {Q : Exit → Act → World → Prop} {a : Act} {w : World} (PAN : List PanicEntry → Act → World → Prop) (h : c.wp P (PanTo PAN Q) a w) (hp : ∀ ch a w, PAN ch a w → Q (.panic ch) a w) : c.wp P Q a w :=
  Code.wp_mono (fun e a w h => by cases e <;> first | exact h | exact hp _ _ _ h) h

def zero5 : List Value := [.int .i64 0, .string ⟨#[]⟩, .slice none 0 0, .slice none 0 0, .int .i64 0]

theorem setFive_heap (w : World) (g o : Nat) (c0 c1 c2 c3 c4 : Value) (cur : Array Value) (e : TypeId) (fz : Nat × Nat) (hg : w.heap[g]? = some (.cells cur e fz)) :
    (((((w.setCell ⟨g, o, none⟩ c0).setCell ⟨g, o + 1, none⟩ c1).setCell ⟨g, o + 2, none⟩ c2).setCell ⟨g, o + 3, none⟩ c3).setCell ⟨g, o + 4, none⟩ c4).heap[g]? = some (.cells (((((cur.setIfInBounds o c0).setIfInBounds (o + 1) c1).setIfInBounds (o + 2) c2).setIfInBounds (o + 3) c3).setIfInBounds (o + 4) c4) e fz) := by
  simp [World.setCell, Array.getElem?_modify, hg]

theorem ownBlock_ne {w : World} {B : Nat} {e1 e2 : TypeId} {z1 z2 : Nat} {v1 v2 : Value} {n1 n2 : Nat} {x1 x2 : List Value} (h1 : w.ownsRow B e1 z1 v1 n1 x1) (h2 : w.ownsRow B e2 z2 v2 n2 x2) (he : e1 ≠ e2) (g : Nat) (hg1 : v1.ownBlock = some g) (hg2 : v2.ownBlock = some g) : False := by
  rcases h1.2 with ⟨rfl, _⟩ | ⟨g1, c1, cur1, rfl, _, hh1, _⟩
  · cases hg1
  · rcases h2.2 with ⟨rfl, _⟩ | ⟨g2, c2, cur2, rfl, _, hh2, _⟩
    · cases hg2
    · simp only [Value.ownBlock, Option.some.injEq] at hg1 hg2
      subst hg1
      subst hg2
      rw [hh1] at hh2
      injection hh2 with hh2
      injection hh2 with _ h _
      exact he h

theorem take_set5 (cur xs : List Value) (n : Nat) (h : cur.take ((n + 1) * 5) = xs ++ zero5) (hx : xs.length = n * 5) (c0 c1 c2 c3 c4 : Value) :
    (((((cur.set (n * 5) c0).set (n * 5 + 1) c1).set (n * 5 + 2) c2).set (n * 5 + 3) c3).set (n * 5 + 4) c4).take ((n + 1) * 5) = xs ++ [c0, c1, c2, c3, c4] := by
  rw [List.take_set, List.take_set, List.take_set, List.take_set, List.take_set, h, ← hx]
  unfold zero5
  simp [List.set_append]

theorem five_cells {w : World} {B g cap n : Nat} {e : TypeId} {xs : List Value} (h : w.ownsRow B e 5 (.slice (some ⟨g, 0, none⟩) (n + 1) cap) (n + 1) (xs ++ zero5)) (hx : xs.length = n * 5) :
    w.cell? ⟨g, n * 5, none⟩ = some (.int .i64 0) ∧ w.cell? ⟨g, n * 5 + 1, none⟩ = some (.string ⟨#[]⟩) ∧ w.cell? ⟨g, n * 5 + 2, none⟩ = some (.slice none 0 0) ∧ w.cell? ⟨g, n * 5 + 3, none⟩ = some (.slice none 0 0) ∧ w.cell? ⟨g, n * 5 + 4, none⟩ = some (.int .i64 0) ∧
      w.frozen? ⟨g, n * 5, none⟩ = false ∧ w.frozen? ⟨g, n * 5 + 1, none⟩ = false ∧ w.frozen? ⟨g, n * 5 + 2, none⟩ = false ∧ w.frozen? ⟨g, n * 5 + 3, none⟩ = false ∧ w.frozen? ⟨g, n * 5 + 4, none⟩ = false := by
  have hc : ∀ i u, zero5[i]? = some u → w.cell? ⟨g, n * 5 + i, none⟩ = some u := by
    intro i u hu
    have hi : i < 5 := (List.getElem?_eq_some_iff.1 hu).1
    rw [h.cellAt (n * 5 + i) (by omega), List.getElem?_append_right (by omega), hx, show n * 5 + i - n * 5 = i by omega]
    exact hu
  exact ⟨hc 0 _ rfl, hc 1 _ rfl, hc 2 _ rfl, hc 3 _ rfl, hc 4 _ rfl, h.frozenAt _, h.frozenAt _, h.frozenAt _, h.frozenAt _, h.frozenAt _⟩
end Go.Proofs.YtghiboknhjnlkaaDoor

namespace Go.Proofs.YtghiboknhjnlkaaDoor
open Go.RowKit

/-- ahead of the stores: the row has room for the new kid, which lies elsewhere -/
structure Pre (s : ByteArray) (r N f : Nat) (vn vk : Value) (xs : List Value) (n : Nat) (c5 : List Value) (J : JV) (q2 : Nat) (w W : World) (g cap : Nat) : Prop where
  k : Kx (fun i => i = r ∨ vk.ownBlock = some i) w W
  own : W.ownsRow (N + 4) 34 5 (.slice (some ⟨g, 0, none⟩) (n + 1) cap) (n + 1) (xs ++ zero5)
  at' : vk.ownBlock = some g ∨ w.heap.size ≤ g
  rep : JRep (fun i => N + 4 ≤ i ∧ i ≠ g ∧ vn.ownBlock ≠ some i) W f c5 J
  rd : Rd s r q2 W

theorem pre_callLast {s : ByteArray} {r N f : Nat} {vn vk : Value} {xs : List Value} {n : Nat} {c5 : List Value} {J : JV} {q q2 : Nat} {w w1 w2 : World} {g cap H : Nat}
    (hN : N + 4 ≤ w.heap.size) (hvn : ∀ i, vn.ownBlock = some i → i < w.heap.size) (hlt : g < w1.heap.size) (hw1 : w.heap.size ≤ w1.heap.size)
    (hE : Hid (JRep (fun i => w1.heap.size ≤ i) w2 f c5 J ∧ Rd s r q2 w2 ∧ q < q2 ∧ q2 ≤ s.size)) (hown : w2.ownsRow (N + 4) 34 5 (.slice (some ⟨g, 0, none⟩) (n + 1) cap) (n + 1) (xs ++ zero5))
    (hat : vk.ownBlock = some g ∨ g = H) (hH : w.heap.size ≤ H) (k02 : Kx (fun i => i = r ∨ vk.ownBlock = some i) w w2) : Pre s r N f vn vk xs n c5 J q2 w w2 g cap :=
  ⟨k02, hown, hat.imp id (fun h => by omega), hE.out.1.mono (fun i _ h => ⟨by omega, by omega, fun e => by have := hvn i e; omega⟩), hE.out.2.1⟩

theorem pre_appendLast {s : ByteArray} {r N f : Nat} {vn vk : Value} {xs : List Value} {n : Nat} {c5 : List Value} {J : JV} {q q2 : Nat} {w w1 w2 : World} {g cap H A : Nat}
    (hN : N + 4 ≤ w.heap.size) (hr : r < N) (hvn : ∀ i, vn.ownBlock = some i → i < w.heap.size) (hvk : ∀ i, vk.ownBlock = some i → N + 4 ≤ i ∧ i < w.heap.size) (hA : w.heap.size ≤ A)
    (hE : Hid (JRep (fun i => A ≤ i) w2 f c5 J ∧ Rd s r q2 w2 ∧ q < q2 ∧ q2 ≤ s.size)) (hown : w1.ownsRow (N + 4) 34 5 (.slice (some ⟨g, 0, none⟩) (n + 1) cap) (n + 1) (xs ++ zero5))
    (hat : vk.ownBlock = some g ∨ g = H) (hH : w2.heap.size ≤ H) (hw2 : w.heap.size ≤ w2.heap.size) (k21 : Kx (fun i => vk.ownBlock = some i) w2 w1) (k01 : Kx (fun i => i = r ∨ vk.ownBlock = some i) w w1) : Pre s r N f vn vk xs n c5 J q2 w w1 g cap := by
  refine ⟨k01, hown, hat.imp id (fun h => by omega), ?_, hE.out.2.1.kx k21 (fun h => by have := hvk r h; omega)⟩
  have h1 : JRep (fun i => A ≤ i ∧ i ≠ g) w2 f c5 J := hE.out.1.mono (fun i hi h => ⟨h, by rcases hat with h2 | h2; have := hvk g h2; omega; omega⟩)
  refine (h1.kx k21 (fun i h e => by have := hvk i e; omega)).mono (fun i _ h => ⟨by omega, h.2, fun e => by have := hvn i e; omega⟩)

/-- the five stores of the new kid -/
abbrev set5 (W : World) (g o : Nat) (c0 c1 c2 c3 c4 : Value) : World :=
  ((((W.setCell ⟨g, o, none⟩ c0).setCell ⟨g, o + 1, none⟩ c1).setCell ⟨g, o + 2, none⟩ c2).setCell ⟨g, o + 3, none⟩ c3).setCell ⟨g, o + 4, none⟩ c4

theorem set5_kx {X : Nat → Prop} {a W : World} (h : Kx X a W) (g o : Nat) (c0 c1 c2 c3 c4 : Value) (hg : X g) : Kx X a (set5 W g o c0 c1 c2 c3 c4) :=
  ((((h.setCell ⟨g, o, none⟩ (fun _ => hg) c0).setCell ⟨g, o + 1, none⟩ (fun _ => hg) c1).setCell ⟨g, o + 2, none⟩ (fun _ => hg) c2).setCell ⟨g, o + 3, none⟩ (fun _ => hg) c3).setCell ⟨g, o + 4, none⟩ (fun _ => hg) c4

theorem set5_own {B g cap n : Nat} {e : TypeId} {xs : List Value} {W : World} (h : W.ownsRow B e 5 (.slice (some ⟨g, 0, none⟩) (n + 1) cap) (n + 1) (xs ++ zero5)) (hx : xs.length = n * 5) (c0 c1 c2 c3 c4 : Value) :
    (set5 W g (n * 5) c0 c1 c2 c3 c4).ownsRow B e 5 (.slice (some ⟨g, 0, none⟩) (n + 1) cap) (n + 1) (xs ++ [c0, c1, c2, c3, c4]) := by
  rcases h.2 with ⟨h0, _⟩ | ⟨g', cap', cur, hv, hb, hg, h1, h2, h3, h4⟩
  · cases h0
  · simp only [Value.slice.injEq, Option.some.injEq, Addr.mk.injEq, and_true, true_and] at hv
    obtain ⟨rfl, rfl⟩ := hv
    refine ⟨by simp [hx]; omega, .inr ⟨g, cap, _, rfl, hb, setFive_heap W g (n * 5) c0 c1 c2 c3 c4 cur e (0, 0) hg, h1, h2, by simpa using h3, ?_⟩⟩
    simp only [Array.toList_setIfInBounds]
    exact take_set5 cur.toList xs n h4 hx c0 c1 c2 c3 c4

theorem own_other {B : Nat} {e : TypeId} {z : Nat} {v : Value} {n : Nat} {xs : List Value} {W : World} (h : W.ownsRow B e z v n xs) (b o : Nat) (u : Value) (hb : b < B) : (W.setCell ⟨b, o, none⟩ u).ownsRow B e z v n xs :=
  ownsRow_keep h fun k _ hk => Below.heap_setCell _ _ _ _ (by intro e; simp at e; omega)

theorem fin_list {s : ByteArray} {r N f : Nat} {dz kind : Int} {pos : Nat} {st : JSt} {q q2 : Nat} {w W W' : World} {vn vk : Value} {kcs : List (List Value)} {g cap : Nat} {c5 : List Value} {J : JV}
    (hr : r < N) (hu : r ≠ 0 ∧ r ≠ 1) (hgg : 0 < N ∧ 1 < N) (henv : EnvU w) (hsz : N + 4 ≤ w.heap.size)
    (hbox : w.heap[N]? = some (.cells #[RP r] 72 (0, 0))) (hdeep : w.heap[N + 1]? = some (.cells #[.int .i64 dz] 3 (0, 0)))
    (hvb : w.heap[N + 3]? = some (.cells #[.int .i64 kind, .string ⟨#[]⟩, vn, vk, .int .i64 pos] 34 (0, 0)))
    (hres : w.heap[N + 2]? = some (.cells #[.int .i64 0, .string ⟨#[]⟩, .slice none 0 0, .slice none 0 0, .int .i64 0] 34 (0, 0)))
    (hn : w.ownsRow (N + 4) 9 1 vn st.1.length (st.1.map strV)) (hl : kcs.length = st.2.length) (hk : w.ownsRow (N + 4) 34 5 vk st.2.length kcs.flatten)
    (hj : ∀ j (h : j < kcs.length) (h2 : j < st.2.length), JRep (fun k => N + 4 ≤ k ∧ vk.ownBlock ≠ some k ∧ vn.ownBlock ≠ some k) w f kcs[j] st.2[j])
    (hP : Pre s r N f vn vk kcs.flatten st.2.length c5 J q2 w W g cap) (hq2 : q2 ≤ s.size) (hlen : st.1.length ≤ q2 ∧ st.2.length + 1 ≤ q2) (hc5 : c5.length = 5)
    (hW : Kx (fun i => i = N + 3 ∨ i = g) W W') (h3 : W'.heap[N + 3]? = some (.cells #[.int .i64 kind, .string ⟨#[]⟩, vn, .slice (some ⟨g, 0, none⟩) (st.2.length + 1) cap, .int .i64 pos] 34 (0, 0)))
    (hgr : W'.ownsRow (N + 4) 34 5 (.slice (some ⟨g, 0, none⟩) (st.2.length + 1) cap) (st.2.length + 1) (kcs.flatten ++ c5)) :
    INV s r N f dz kind pos (st.1, st.2 ++ [J]) q2 W' ∧ Kx (fun k => k = r ∨ N ≤ k) w W' := by
  have hg4 : N + 4 ≤ g := (hgr.lt g rfl).1
  have hvk : ∀ i, vk.ownBlock = some i → N + 4 ≤ i := fun i h => (hk.lt i h).1
  have hvn : ∀ i, vn.ownBlock = some i → N + 4 ≤ i := fun i h => (hn.lt i h).1
  have hnk : ∀ i, vn.ownBlock = some i → vk.ownBlock = some i → False := fun i h1 h2 => ownBlock_ne hn hk (by decide) i h1 h2
  have hnW : W.ownsRow (N + 4) 9 1 vn st.1.length (st.1.map strV) := by
    refine ⟨hn.1, ?_⟩
    rcases hn.2 with h | ⟨g', cap', cur, rfl, hb, hg, rest⟩
    · exact .inl h
    · refine .inr ⟨g', cap', cur, rfl, hb, ?_, rest⟩
      rw [hP.k.block g' (Array.getElem?_eq_some_iff.1 hg).1 (by rintro (h | h); omega; exact hnk g' rfl h)]
      exact hg
  have hng : vn.ownBlock ≠ some g := fun h => ownBlock_ne hnW hP.own (by decide) g h rfl
  have hnW' : W'.ownsRow (N + 4) 9 1 vn st.1.length (st.1.map strV) := by
    refine ⟨hnW.1, ?_⟩
    rcases hnW.2 with h | ⟨g', cap', cur, rfl, hb, hg, rest⟩
    · exact .inl h
    · refine .inr ⟨g', cap', cur, rfl, hb, ?_, rest⟩
      rw [hW.block g' (Array.getElem?_eq_some_iff.1 hg).1 (by rintro (h | h); omega; exact hng (by rw [h]; rfl))]
      exact hg
  have K : Kx (fun k => k = r ∨ N ≤ k) w W' := (hP.k.mono (fun i _ h => h.imp id (fun h => by have := hvk i h; omega))).trans' hW (fun i _ h => by omega)
  obtain ⟨_, _, _, _, e0, e1, _⟩ := (show W.cell? ⟨N, 0, none⟩ = some (RP r) ∧ True ∧ True ∧ True ∧ W.heap[N]? = w.heap[N]? ∧ W.heap[N + 1]? = w.heap[N + 1]? ∧ True from by
    have e0 := hP.k.block N (Array.getElem?_eq_some_iff.1 hbox).1 (by rintro (h | h); omega; have := hvk N h; omega)
    have e1 := hP.k.block (N + 1) (Array.getElem?_eq_some_iff.1 hdeep).1 (by rintro (h | h); omega; have := hvk (N + 1) h; omega)
    refine ⟨?_, trivial, trivial, trivial, e0, e1, trivial⟩
    rw [Lib.cell_of_heap (e0.trans hbox)]; rfl)
  refine ⟨⟨hP.rd.kx hW (by omega), hq2, henv.kx K (by rintro (h | h); exact hu.1 h.symm; omega) (by rintro (h | h); exact hu.2 h.symm; omega), ?_, ?_, ?_, by have := K.size; omega, by simp only [List.length_append, List.length_cons, List.length_nil]; omega, by rw [hW.block (N + 2) (by have := (Array.getElem?_eq_some_iff.1 hres).1; have := hP.k.size; omega) (by omega), hP.k.block (N + 2) (Array.getElem?_eq_some_iff.1 hres).1 (by rintro (h | h); omega; have := hvk (N + 2) h; omega)]; exact hres⟩, K⟩
  · rw [hW.block N (by have := (Array.getElem?_eq_some_iff.1 hbox).1; have := hP.k.size; omega) (by omega), e0]; exact hbox
  · rw [hW.block (N + 1) (by have := (Array.getElem?_eq_some_iff.1 hdeep).1; have := hP.k.size; omega) (by omega), e1]; exact hdeep
  · refine ⟨vn, _, h3, hnW', kcs ++ [c5], by simp [hl], ?_, ?_⟩
    · simp only [List.length_append, List.length_cons, List.length_nil, List.flatten_append, List.flatten_cons, List.flatten_nil, List.append_nil]
      exact hgr
    · intro j h1 h2
      by_cases hjn : j < st.2.length
      · have hjk : j < kcs.length := by omega
        rw [List.getElem_append_left hjk, List.getElem_append_left hjn]
        have a1 : JRep (fun k => (N + 4 ≤ k ∧ k ≠ g ∧ vn.ownBlock ≠ some k) ∧ vk.ownBlock ≠ some k) w f kcs[j] st.2[j] := (hj j hjk hjn).mono (fun i hi h => ⟨⟨h.1, by
          rintro rfl
          rcases hP.at' with h4 | h4
          · exact h.2.1 h4
          · omega, h.2.2⟩, h.2.1⟩)
        have a2 := a1.kx hP.k (fun i h => by rintro (h5 | h5); omega; exact h.2 h5)
        have a3 := a2.kx hW (fun i h => by omega)
        exact a3.mono (fun i _ h => ⟨h.1.1, fun h5 => h.1.2.1 (by simpa [Value.ownBlock] using h5.symm), h.1.2.2⟩)
      · simp at h2
        have hjl : j = st.2.length := by omega
        subst hjl
        rw [List.getElem_append_right (by omega), List.getElem_append_right (by omega)]
        simp only [hl, Nat.sub_self, List.getElem_cons_zero]
        exact (hP.rep.kx hW (fun i h => by omega)).mono (fun i _ h => ⟨h.1, fun h5 => h.2.1 (by simpa [Value.ownBlock] using h5.symm), h.2.2⟩)

theorem own_kx {B : Nat} {e : TypeId} {z : Nat} {v : Value} {n : Nat} {xs : List Value} {w W : World} (h : w.ownsRow B e z v n xs) (k : Kx (fun _ => False) w W) : W.ownsRow B e z v n xs :=
  ownsRow_keep h fun i hi _ => k.block i hi (fun h => h)

theorem zero5_one : ∀ u ∈ zero5, u.oneCell' = true := by
  intro u hu
  simp only [zero5, List.mem_cons, List.not_mem_nil, or_false] at hu
  rcases hu with rfl | rfl | rfl | rfl | rfl <;> rfl

theorem news_at {W : World} {b : Nat} {t : TypeId} {fr : Nat × Nat} (h : W.heap[b]? = some (.cells zero5.toArray t fr)) : ∀ j u, zero5[j]? = some u → W.cell? ((⟨b, 0, none⟩ : Addr).add j) = some u := by
  intro j u hu
  have hadd : (⟨b, 0, none⟩ : Addr).add j = ⟨b, j, none⟩ := by simp [Addr.add]; omega
  rw [hadd, Lib.cell_of_heap h]
  simpa using hu

/-- the stores into the row, and into the list's own variable: in either order -/
theorem stores_fin {s : ByteArray} {r N f : Nat} {vn vk : Value} {xs : List Value} {n : Nat} {J : JV} {q2 : Nat} {w W : World} {g cap : Nat} {c0 c1 c2 c3 c4 : Value} {kind : Int} {pos : Nat}
    (hr : r < N) (hvk : ∀ i, vk.ownBlock = some i → N + 4 ≤ i) (hP : Pre s r N f vn vk xs n [c0, c1, c2, c3, c4] J q2 w W g cap) (hx : xs.length = n * 5)
    (hvb : w.heap[N + 3]? = some (.cells #[.int .i64 kind, .string ⟨#[]⟩, vn, vk, .int .i64 pos] 34 (0, 0))) (W' : World)
    (hW' : W' = set5 (W.setCell ⟨N + 3, 3, none⟩ (.slice (some ⟨g, 0, none⟩) (n + 1) cap)) g (n * 5) c0 c1 c2 c3 c4 ∨ W' = (set5 W g (n * 5) c0 c1 c2 c3 c4).setCell ⟨N + 3, 3, none⟩ (.slice (some ⟨g, 0, none⟩) (n + 1) cap)) :
    Kx (fun i => i = N + 3 ∨ i = g) W W' ∧ W'.heap[N + 3]? = some (.cells #[.int .i64 kind, .string ⟨#[]⟩, vn, .slice (some ⟨g, 0, none⟩) (n + 1) cap, .int .i64 pos] 34 (0, 0)) ∧
      W'.ownsRow (N + 4) 34 5 (.slice (some ⟨g, 0, none⟩) (n + 1) cap) (n + 1) (xs ++ [c0, c1, c2, c3, c4]) := by
  have hg4 : N + 4 ≤ g := (hP.own.lt g rfl).1
  have e3 : W.heap[N + 3]? = some (.cells #[.int .i64 kind, .string ⟨#[]⟩, vn, vk, .int .i64 pos] 34 (0, 0)) := by
    rw [hP.k.block (N + 3) (Array.getElem?_eq_some_iff.1 hvb).1 (by rintro (h | h); omega; have := hvk (N + 3) h; omega)]; exact hvb
  have hgn : ∀ (V : World) (o : Nat) (u : Value), (V.setCell ⟨g, o, none⟩ u).heap[N + 3]? = V.heap[N + 3]? := fun V o u => Below.heap_setCell _ _ _ _ (by intro h; simp at h; omega)
  have hst : ∀ (V : World), V.heap[N + 3]? = some (.cells #[.int .i64 kind, .string ⟨#[]⟩, vn, vk, .int .i64 pos] 34 (0, 0)) → (V.setCell ⟨N + 3, 3, none⟩ (.slice (some ⟨g, 0, none⟩) (n + 1) cap)).heap[N + 3]? = some (.cells #[.int .i64 kind, .string ⟨#[]⟩, vn, .slice (some ⟨g, 0, none⟩) (n + 1) cap, .int .i64 pos] 34 (0, 0)) := by
    intro V h
    simp [World.setCell, Array.getElem?_modify, h]
  rcases hW' with rfl | rfl
  · refine ⟨set5_kx ((Kx.refl _ W).setCell ⟨N + 3, 3, none⟩ (fun _ => .inl rfl) _) g _ c0 c1 c2 c3 c4 (.inr rfl), ?_, ?_⟩
    · show (set5 _ g (n * 5) c0 c1 c2 c3 c4).heap[N + 3]? = _
      unfold set5
      rw [hgn, hgn, hgn, hgn, hgn]
      exact hst W e3
    · exact set5_own (own_other hP.own (N + 3) 3 _ (by omega)) hx c0 c1 c2 c3 c4
  · refine ⟨(set5_kx (Kx.refl _ W) g _ c0 c1 c2 c3 c4 (.inr rfl)).setCell ⟨N + 3, 3, none⟩ (fun _ => .inl rfl) _, ?_, ?_⟩
    · refine hst _ ?_
      show (set5 _ g (n * 5) c0 c1 c2 c3 c4).heap[N + 3]? = _
      unfold set5
      rw [hgn, hgn, hgn, hgn, hgn]
      exact e3
    · exact own_other (set5_own hP.own hx c0 c1 c2 c3 c4) (N + 3) 3 _ (by omega)
end Go.Proofs.YtghiboknhjnlkaaDoor
