/- A map of string keys that a function writes as one literal: what the inserts make, and what is found in it. No program. A map of integer keys that a function writes as one literal: what the inserts make, and what is found in it. No program. -/
import Derived.Test.YtghiboknhjnlkaaDoorBk
import Derived.MapKept
set_option linter.unusedVariables false
set_option linter.unusedSimpArgs false
set_option linter.unnecessarySimpa false
namespace Go.Proofs.YtghiboknhjnlkaaDoor
open Go.RowKit Go.MapKept

def entsFrom : Nat → List (ByteArray × Value) → List MapEntry
  | _, [] => []
  | n, (k, v) :: r => { key := .string k, val := v, born := n } :: entsFrom (n + 1) r

/-- the map that holds these keys and values, put in in this order -/
def mapOf (l : List (ByteArray × Value)) : Obj := .map (entsFrom 0 l).toArray l.length

theorem entsFrom_snoc (l : List (ByteArray × Value)) (k : ByteArray) (v : Value) : ∀ n, entsFrom n (l ++ [(k, v)]) = entsFrom n l ++ [{ key := .string k, val := v, born := n + l.length }] := by
  induction l with
  | nil => intro n; simp [entsFrom]
  | cons p l ih => intro n; obtain ⟨k', v'⟩ := p; simp only [List.cons_append, entsFrom, ih, List.length_cons, show n + 1 + l.length = n + (l.length + 1) by omega]

def seek (k : ByteArray) : List (ByteArray × Value) → Option Value
  | [] => none
  | (k', v) :: r => if k == k' then some v else seek k r

theorem findNow_seek (k : ByteArray) : ∀ (l : List (ByteArray × Value)) (n i : Nat), (Instr.findNow .string (.string k) (entsFrom n l) i).map (·.map (·.2)) = some (seek k l)
  | [], n, i => by simp [entsFrom, Instr.findNow, seek]
  | (k', v) :: r, n, i => by
    simp only [entsFrom, Instr.findNow, Instr.sameNow, seek]
    by_cases h : (k == k') = true
    · simp [h]
    · have h' : (k == k') = false := by simpa using h
      simp only [h', Bool.false_eq_true, if_false]
      exact findNow_seek k r (n + 1) (i + 1)

theorem run_insert {P : Program} {w : World} {T kt et : TypeId} (hT : P.underlying T = some (.map kt et)) (hk : P.underlying kt = some .string) {r : Nat} {l : List (ByteArray × Value)} (hb : w.heap[r]? = some (mapOf l)) (k : ByteArray) (v : Value) (hn : seek k l = none) :
    (Instr.mapUpdate T (.map (some r)) (.string k) v).run P w = .ok () { w with heap := w.heap.setIfInBounds r (mapOf (l ++ [(k, v)])) } := by
  have hf := findNow_seek k l 0 0
  rw [hn] at hf
  obtain ⟨a, ha, hb2⟩ := Option.map_eq_some_iff.1 hf
  have ha0 : a = none := by cases a with | none => rfl | some x => simp at hb2
  subst ha0
  have hfk := run_findKey (P := P) (w := w) hk ha
  have hck := run_checkKey (P := P) (w := w) hk (k := .string k) trivial false 9999
  have hb' : w.heap[r]? = some (.map (entsFrom 0 l).toArray l.length) := hb
  have hgo : (getObj r).run P w = .ok (.map (entsFrom 0 l).toArray l.length) w := by simp [getObj, Sem.run, hb']
  simp only [Instr.mapUpdate, Sem.run_bind, run_underlying hT, Result.andThen, hgo, hck]
  rw [hfk]
  simp only [Result.andThen]
  rw [run_setObj_map _ hb']
  simp only [mapOf, entsFrom_snoc, List.length_append, List.length_cons, List.length_nil, Nat.zero_add, List.push_toArray]

theorem run_lookup {P : Program} {w : World} {T kt et : TypeId} (hT : P.underlying T = some (.map kt et)) (hk : P.underlying kt = some .string) {r : Nat} {l : List (ByteArray × Value)} (hb : w.heap[r]? = some (mapOf l)) (k : ByteArray) (z : Value) (hz : (zeroValue et).run P w = .ok z w) :
    (Instr.lookup T (.map (some r)) (.string k) true).run P w = .ok (.tuple #[(seek k l).getD z, .bool (seek k l).isSome]) w := by
  have hf := findNow_seek k l 0 0
  obtain ⟨a, ha, hb2⟩ := Option.map_eq_some_iff.1 hf
  have hfk := run_findKey (P := P) (w := w) hk ha
  have hb' : w.heap[r]? = some (.map (entsFrom 0 l).toArray l.length) := hb
  have hgo : (getObj r).run P w = .ok (.map (entsFrom 0 l).toArray l.length) w := by simp [getObj, Sem.run, hb']
  have hck := fun em => run_checkKey (P := P) (w := w) hk (k := .string k) trivial em 9999
  simp only [Instr.lookup, Sem.run_bind, run_underlying hT, Result.andThen, hgo, Sem.run_pure, hck]
  rw [hfk]
  simp only [Result.andThen]
  cases a with
  | none =>
    simp at hb2
    simp [← hb2, hz, Result.andThen]
  | some x =>
    simp at hb2
    obtain ⟨i, v⟩ := x
    simp [← hb2]

theorem run_lookup1 {P : Program} {w : World} {T kt et : TypeId} (hT : P.underlying T = some (.map kt et)) (hk : P.underlying kt = some .string) {r : Nat} {l : List (ByteArray × Value)} (hb : w.heap[r]? = some (mapOf l)) (k : ByteArray) (z : Value) (hz : (zeroValue et).run P w = .ok z w) :
    (Instr.lookup T (.map (some r)) (.string k) false).run P w = .ok ((seek k l).getD z) w := by
  have hf := findNow_seek k l 0 0
  obtain ⟨a, ha, hb2⟩ := Option.map_eq_some_iff.1 hf
  have hfk := run_findKey (P := P) (w := w) hk ha
  have hb' : w.heap[r]? = some (.map (entsFrom 0 l).toArray l.length) := hb
  have hgo : (getObj r).run P w = .ok (.map (entsFrom 0 l).toArray l.length) w := by simp [getObj, Sem.run, hb']
  have hck := fun em => run_checkKey (P := P) (w := w) hk (k := .string k) trivial em 9999
  simp only [Instr.lookup, Sem.run_bind, run_underlying hT, Result.andThen, hgo, Sem.run_pure, hck]
  rw [hfk]
  simp only [Result.andThen]
  cases a with
  | none =>
    simp at hb2
    simp [← hb2, hz, Result.andThen]
  | some x =>
    simp at hb2
    obtain ⟨i, v⟩ := x
    simp [← hb2]

/-- one insert of a closed key into the map in a slot -/
def opIns (T : TypeId) (slot : Nat) (o : Oper) : Option (ByteArray × Operand) :=
  match o.op, o.guard, o.dst with
  | .insert T' (.tmp s) (.const (.string k)) v, none, none => if T' = T ∧ s = slot then some (k, v) else none
  | _, _, _ => none

def fresh : List ByteArray → Bool
  | [] => true
  | k :: r => !(r.any fun k' => k == k') && fresh r

theorem seek_none (k : ByteArray) : ∀ l : List (ByteArray × Value), (∀ p ∈ l, (k == p.1) = false) → seek k l = none
  | [], _ => rfl
  | (k', v) :: r, h => by
    have h1 := h (k', v) (by simp)
    simp only [seek]
    rw [show (k == k') = false from h1]
    simp
    exact seek_none k r fun p hp => h p (by simp [hp])

/-- the new object, put in step by step -/
theorem wpList_inserts {P : Program} {T kt et : TypeId} (hT : P.underlying T = some (.map kt et)) (hk : P.underlying kt = some .string) {ops : Array Oper} {Q : Exit → Act → World → Prop} {a : Act} (slot r : Nat) (hs : a.eval (.tmp slot) = .map (some r)) :
    ∀ (os : List Oper) (kvs : List (ByteArray × Operand)) (l : List (ByteArray × Value)) (w : World) (rest : List Oper), os.mapM (opIns T slot) = some kvs → w.heap[r]? = some (mapOf l) →
      (∀ p ∈ kvs, ∀ q ∈ l, (p.1 == q.1) = false) → (kvs.Pairwise fun p q => (q.1 == p.1) = false) →
      wpList P ops Q rest a { w with heap := w.heap.setIfInBounds r (mapOf (l ++ kvs.map fun p => (p.1, a.eval p.2))) } → wpList P ops Q (os ++ rest) a w
  | [], kvs, l, w, rest, hm, hb, _, _, h => by
    simp at hm
    subst hm
    simp only [List.map_nil, List.append_nil] at h
    have hw : { w with heap := w.heap.setIfInBounds r (mapOf l) } = w := by
      have : w.heap.setIfInBounds r (mapOf l) = w.heap := by
        apply Array.ext_getElem?
        intro i
        rw [Array.getElem?_setIfInBounds]
        split
        · rename_i e; subst e; split
          · exact hb.symm
          · rename_i hlt; rw [Array.getElem?_eq_none (by omega)]
        · rfl
      rw [this]
    rw [hw] at h
    simpa using h
  | o :: os, kvs, l, w, rest, hm, hb, h1, h2, h => by
    simp only [List.mapM_cons, Option.bind_eq_bind, Option.bind_eq_some_iff, Option.pure_def, Option.some.injEq] at hm
    obtain ⟨⟨k, v⟩, ho, kvs', hos, rfl⟩ := hm
    have hop : o.op = .insert T (.tmp slot) (.const (.string k)) v ∧ o.guard = none ∧ o.dst = none := by
      unfold opIns at ho
      split at ho
      · rename_i e1 e2 e3
        split at ho
        · rename_i hc; simp at ho; obtain ⟨rfl, rfl⟩ := ho; rw [e1, hc.1, hc.2]; exact ⟨rfl, e2, e3⟩
        · cases ho
      · cases ho
    obtain ⟨hop, hg, hd⟩ := hop
    refine wpList_plain hg fun K hK => ?_
    have hi := run_insert (P := P) (w := w) hT hk hb k (a.eval v) (seek_none k l fun p hp => h1 (k, v) (by simp) p hp)
    have hev : a.eval (.const (.string k)) = .string k := rfl
    unfold Oper.wp execOp
    simp only [hop, hs, hev, Sem.run_bind, hi, Result.andThen_ok, Sem.run_pure]
    rw [Oper.upon_skip, hd]
    refine hK _ _ ?_
    have hb2 : (w.heap.setIfInBounds r (mapOf (l ++ [(k, a.eval v)])))[r]? = some (mapOf (l ++ [(k, a.eval v)])) := by
      have hlt : r < w.heap.size := (Array.getElem?_eq_some_iff.1 hb).1
      simp [hlt]
    refine wpList_inserts hT hk slot r hs os kvs' (l ++ [(k, a.eval v)]) _ rest hos hb2 ?_ (List.pairwise_cons.1 h2).2 ?_
    · intro p hp q hq
      rcases List.mem_append.1 hq with hq | hq
      · exact h1 p (by simp [hp]) q hq
      · simp at hq; subst hq; exact (List.pairwise_cons.1 h2).1 p hp
    · simp only [List.map_cons] at h
      simpa using h

/-- the form for the walk: n inserts at a list's head -/
theorem wpList_inserts_n {P : Program} {T kt et : TypeId} (hT : P.underlying T = some (.map kt et)) (hk : P.underlying kt = some .string) {ops : Array Oper} {Q : Exit → Act → World → Prop} {a : Act} {w : World} (slot r : Nat) (hs : a.eval (.tmp slot) = .map (some r))
    (L : List Oper) (n : Nat) (kvs : List (ByteArray × Operand)) (hm : (L.take n).mapM (opIns T slot) = some kvs) (hb : w.heap[r]? = some (mapOf [])) (hd : (kvs.Pairwise fun p q => (q.1 == p.1) = false))
    (h : wpList P ops Q (L.drop n) a { w with heap := w.heap.setIfInBounds r (mapOf (kvs.map fun p => (p.1, a.eval p.2))) }) : wpList P ops Q L a w := by
  rw [← List.take_append_drop n L]
  exact wpList_inserts hT hk slot r hs _ kvs [] w _ hm hb (fun _ _ q hq => by simp at hq) hd (by simpa using h)

theorem setIfInBounds_new (w : World) (o o' : Obj) : { (w.alloc o) with heap := (w.alloc o).heap.setIfInBounds w.heap.size o' } = w.alloc o' := by
  have : (w.alloc o).heap.setIfInBounds w.heap.size o' = (w.alloc o').heap := by
    show (w.heap.push o).setIfInBounds w.heap.size o' = w.heap.push o'
    apply Array.ext_getElem?
    intro i
    rw [Array.getElem?_setIfInBounds, Array.getElem?_push, Array.getElem?_push]
    by_cases h : w.heap.size = i
    · subst h; simp
    · simp [h, Ne.symm h]
  rw [this]
  rfl
end Go.Proofs.YtghiboknhjnlkaaDoor

namespace Go.Proofs.YtghiboknhjnlkaaDoor
open Go.RowKit Go.MapKept

def entsFromI : Nat → List (Int × Value) → List MapEntry
  | _, [] => []
  | n, (k, v) :: r => { key := .int .i64 k, val := v, born := n } :: entsFromI (n + 1) r

/-- the map that holds these keys and values, put in in this order -/
def mapOfI (l : List (Int × Value)) : Obj := .map (entsFromI 0 l).toArray l.length

theorem entsFrom_snocI (l : List (Int × Value)) (k : Int) (v : Value) : ∀ n, entsFromI n (l ++ [(k, v)]) = entsFromI n l ++ [{ key := .int .i64 k, val := v, born := n + l.length }] := by
  induction l with
  | nil => intro n; simp [entsFromI]
  | cons p l ih => intro n; obtain ⟨k', v'⟩ := p; simp only [List.cons_append, entsFromI, ih, List.length_cons, show n + 1 + l.length = n + (l.length + 1) by omega]

def seekI (k : Int) : List (Int × Value) → Option Value
  | [] => none
  | (k', v) :: r => if k == k' then some v else seekI k r

theorem findNow_seekI (k : Int) : ∀ (l : List (Int × Value)) (n i : Nat), (Instr.findNow (.int .i64) (.int .i64 k) (entsFromI n l) i).map (·.map (·.2)) = some (seekI k l)
  | [], n, i => by simp [entsFromI, Instr.findNow, seekI]
  | (k', v) :: r, n, i => by
    simp only [entsFromI, Instr.findNow, Instr.sameNow, seekI]
    by_cases h : (k == k') = true
    · simp [h]
    · have h' : (k == k') = false := by simpa using h
      simp only [h', Bool.false_eq_true, if_false]
      exact findNow_seekI k r (n + 1) (i + 1)

theorem run_insertI {P : Program} {w : World} {T kt et : TypeId} (hT : P.underlying T = some (.map kt et)) (hk : P.underlying kt = some (.int .i64)) {r : Nat} {l : List (Int × Value)} (hb : w.heap[r]? = some (mapOfI l)) (k : Int) (v : Value) (hn : seekI k l = none) :
    (Instr.mapUpdate T (.map (some r)) (.int .i64 k) v).run P w = .ok () { w with heap := w.heap.setIfInBounds r (mapOfI (l ++ [(k, v)])) } := by
  have hf := findNow_seekI k l 0 0
  rw [hn] at hf
  obtain ⟨a, ha, hb2⟩ := Option.map_eq_some_iff.1 hf
  have ha0 : a = none := by cases a with | none => rfl | some x => simp at hb2
  subst ha0
  have hfk := run_findKey (P := P) (w := w) hk ha
  have hck := run_checkKey (P := P) (w := w) hk (k := .int .i64 k) rfl false 9999
  have hb' : w.heap[r]? = some (.map (entsFromI 0 l).toArray l.length) := hb
  have hgo : (getObj r).run P w = .ok (.map (entsFromI 0 l).toArray l.length) w := by simp [getObj, Sem.run, hb']
  simp only [Instr.mapUpdate, Sem.run_bind, run_underlying hT, Result.andThen, hgo, hck]
  rw [hfk]
  simp only [Result.andThen]
  rw [run_setObj_map _ hb']
  simp only [mapOfI, entsFrom_snocI, List.length_append, List.length_cons, List.length_nil, Nat.zero_add, List.push_toArray]

theorem run_lookupI {P : Program} {w : World} {T kt et : TypeId} (hT : P.underlying T = some (.map kt et)) (hk : P.underlying kt = some (.int .i64)) {r : Nat} {l : List (Int × Value)} (hb : w.heap[r]? = some (mapOfI l)) (k : Int) (z : Value) (hz : (zeroValue et).run P w = .ok z w) :
    (Instr.lookup T (.map (some r)) (.int .i64 k) true).run P w = .ok (.tuple #[(seekI k l).getD z, .bool (seekI k l).isSome]) w := by
  have hf := findNow_seekI k l 0 0
  obtain ⟨a, ha, hb2⟩ := Option.map_eq_some_iff.1 hf
  have hfk := run_findKey (P := P) (w := w) hk ha
  have hb' : w.heap[r]? = some (.map (entsFromI 0 l).toArray l.length) := hb
  have hgo : (getObj r).run P w = .ok (.map (entsFromI 0 l).toArray l.length) w := by simp [getObj, Sem.run, hb']
  have hck := fun em => run_checkKey (P := P) (w := w) hk (k := .int .i64 k) rfl em 9999
  simp only [Instr.lookup, Sem.run_bind, run_underlying hT, Result.andThen, hgo, Sem.run_pure, hck]
  rw [hfk]
  simp only [Result.andThen]
  cases a with
  | none =>
    simp at hb2
    simp [← hb2, hz, Result.andThen]
  | some x =>
    simp at hb2
    obtain ⟨i, v⟩ := x
    simp [← hb2]

theorem run_lookup1I {P : Program} {w : World} {T kt et : TypeId} (hT : P.underlying T = some (.map kt et)) (hk : P.underlying kt = some (.int .i64)) {r : Nat} {l : List (Int × Value)} (hb : w.heap[r]? = some (mapOfI l)) (k : Int) (z : Value) (hz : (zeroValue et).run P w = .ok z w) :
    (Instr.lookup T (.map (some r)) (.int .i64 k) false).run P w = .ok ((seekI k l).getD z) w := by
  have hf := findNow_seekI k l 0 0
  obtain ⟨a, ha, hb2⟩ := Option.map_eq_some_iff.1 hf
  have hfk := run_findKey (P := P) (w := w) hk ha
  have hb' : w.heap[r]? = some (.map (entsFromI 0 l).toArray l.length) := hb
  have hgo : (getObj r).run P w = .ok (.map (entsFromI 0 l).toArray l.length) w := by simp [getObj, Sem.run, hb']
  have hck := fun em => run_checkKey (P := P) (w := w) hk (k := .int .i64 k) rfl em 9999
  simp only [Instr.lookup, Sem.run_bind, run_underlying hT, Result.andThen, hgo, Sem.run_pure, hck]
  rw [hfk]
  simp only [Result.andThen]
  cases a with
  | none =>
    simp at hb2
    simp [← hb2, hz, Result.andThen]
  | some x =>
    simp at hb2
    obtain ⟨i, v⟩ := x
    simp [← hb2]

/-- one insert of a closed key into the map in a slot -/
def opInsI (T : TypeId) (slot : Nat) (o : Oper) : Option (Int × Operand) :=
  match o.op, o.guard, o.dst with
  | .insert T' (.tmp s) (.const (.int .i64 k)) v, none, none => if T' = T ∧ s = slot then some (k, v) else none
  | _, _, _ => none

def freshI : List Int → Bool
  | [] => true
  | k :: r => !(r.any fun k' => k == k') && freshI r

theorem seek_noneI (k : Int) : ∀ l : List (Int × Value), (∀ p ∈ l, (k == p.1) = false) → seekI k l = none
  | [], _ => rfl
  | (k', v) :: r, h => by
    have h1 := h (k', v) (by simp)
    simp only [seekI]
    rw [show (k == k') = false from h1]
    simp
    exact seek_noneI k r fun p hp => h p (by simp [hp])

/-- the new object, put in step by step -/
theorem wpList_insertsI {P : Program} {T kt et : TypeId} (hT : P.underlying T = some (.map kt et)) (hk : P.underlying kt = some (.int .i64)) {ops : Array Oper} {Q : Exit → Act → World → Prop} {a : Act} (slot r : Nat) (hs : a.eval (.tmp slot) = .map (some r)) :
    ∀ (os : List Oper) (kvs : List (Int × Operand)) (l : List (Int × Value)) (w : World) (rest : List Oper), os.mapM (opInsI T slot) = some kvs → w.heap[r]? = some (mapOfI l) →
      (∀ p ∈ kvs, ∀ q ∈ l, (p.1 == q.1) = false) → (kvs.Pairwise fun p q => (q.1 == p.1) = false) →
      wpList P ops Q rest a { w with heap := w.heap.setIfInBounds r (mapOfI (l ++ kvs.map fun p => (p.1, a.eval p.2))) } → wpList P ops Q (os ++ rest) a w
  | [], kvs, l, w, rest, hm, hb, _, _, h => by
    simp at hm
    subst hm
    simp only [List.map_nil, List.append_nil] at h
    have hw : { w with heap := w.heap.setIfInBounds r (mapOfI l) } = w := by
      have : w.heap.setIfInBounds r (mapOfI l) = w.heap := by
        apply Array.ext_getElem?
        intro i
        rw [Array.getElem?_setIfInBounds]
        split
        · rename_i e; subst e; split
          · exact hb.symm
          · rename_i hlt; rw [Array.getElem?_eq_none (by omega)]
        · rfl
      rw [this]
    rw [hw] at h
    simpa using h
  | o :: os, kvs, l, w, rest, hm, hb, h1, h2, h => by
    simp only [List.mapM_cons, Option.bind_eq_bind, Option.bind_eq_some_iff, Option.pure_def, Option.some.injEq] at hm
    obtain ⟨⟨k, v⟩, ho, kvs', hos, rfl⟩ := hm
    have hop : o.op = .insert T (.tmp slot) (.const (.int .i64 k)) v ∧ o.guard = none ∧ o.dst = none := by
      unfold opInsI at ho
      split at ho
      · rename_i e1 e2 e3
        split at ho
        · rename_i hc; simp at ho; obtain ⟨rfl, rfl⟩ := ho; rw [e1, hc.1, hc.2]; exact ⟨rfl, e2, e3⟩
        · cases ho
      · cases ho
    obtain ⟨hop, hg, hd⟩ := hop
    refine wpList_plain hg fun K hK => ?_
    have hi := run_insertI (P := P) (w := w) hT hk hb k (a.eval v) (seek_noneI k l fun p hp => h1 (k, v) (by simp) p hp)
    have hev : a.eval (.const (.int .i64 k)) = .int .i64 k := rfl
    unfold Oper.wp execOp
    simp only [hop, hs, hev, Sem.run_bind, hi, Result.andThen_ok, Sem.run_pure]
    rw [Oper.upon_skip, hd]
    refine hK _ _ ?_
    have hb2 : (w.heap.setIfInBounds r (mapOfI (l ++ [(k, a.eval v)])))[r]? = some (mapOfI (l ++ [(k, a.eval v)])) := by
      have hlt : r < w.heap.size := (Array.getElem?_eq_some_iff.1 hb).1
      simp [hlt]
    refine wpList_insertsI hT hk slot r hs os kvs' (l ++ [(k, a.eval v)]) _ rest hos hb2 ?_ (List.pairwise_cons.1 h2).2 ?_
    · intro p hp q hq
      rcases List.mem_append.1 hq with hq | hq
      · exact h1 p (by simp [hp]) q hq
      · simp at hq; subst hq; exact (List.pairwise_cons.1 h2).1 p hp
    · simp only [List.map_cons] at h
      simpa using h

/-- the form for the walk: n inserts at a list's head -/
theorem wpList_inserts_nI {P : Program} {T kt et : TypeId} (hT : P.underlying T = some (.map kt et)) (hk : P.underlying kt = some (.int .i64)) {ops : Array Oper} {Q : Exit → Act → World → Prop} {a : Act} {w : World} (slot r : Nat) (hs : a.eval (.tmp slot) = .map (some r))
    (L : List Oper) (n : Nat) (kvs : List (Int × Operand)) (hm : (L.take n).mapM (opInsI T slot) = some kvs) (hb : w.heap[r]? = some (mapOfI [])) (hd : (kvs.Pairwise fun p q => (q.1 == p.1) = false))
    (h : wpList P ops Q (L.drop n) a { w with heap := w.heap.setIfInBounds r (mapOfI (kvs.map fun p => (p.1, a.eval p.2))) }) : wpList P ops Q L a w := by
  rw [← List.take_append_drop n L]
  exact wpList_insertsI hT hk slot r hs _ kvs [] w _ hm hb (fun _ _ q hq => by simp at hq) hd (by simpa using h)

end Go.Proofs.YtghiboknhjnlkaaDoor
