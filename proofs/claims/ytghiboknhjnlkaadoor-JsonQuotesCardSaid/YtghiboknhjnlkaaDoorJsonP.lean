/- JSON texts: the reader and the writer as plain functions on lists of bytes. No program. -/
import Derived.Test.YtghiboknhjnlkaaDoorTxtR
import Derived.Test.YtghiboknhjnlkaaDoorNum
set_option linter.unusedVariables false
set_option linter.unusedSimpArgs false
set_option linter.unnecessarySimpa false
namespace Go.Proofs.YtghiboknhjnlkaaDoor
open Go.Lib (decodeL encodeRune)

/-- a JSON value: its kind, text, names, kids and place -/
inductive JV where
  | mk (kind : Int) (text : List UInt8) (names : List (List UInt8)) (kids : List JV) (pos : Int)

def JV.kind : JV → Int | .mk k _ _ _ _ => k
def JV.text : JV → List UInt8 | .mk _ t _ _ _ => t
def JV.names : JV → List (List UInt8) | .mk _ _ n _ _ => n
def JV.kids : JV → List JV | .mk _ _ _ k _ => k
def JV.pos : JV → Int | .mk _ _ _ _ p => p

instance : Inhabited JV := ⟨.mk 0 [] [] [] 0⟩

/-- what is wrong: where, and its number -/
abbrev JErr := Nat × Int

def isBl (c : UInt8) : Bool := [32, 9, 10, 13].contains c
def isDg (c : UInt8) : Bool := [48, 49, 50, 51, 52, 53, 54, 55, 56, 57].contains c

def jBlank (s : List UInt8) (p : Nat) : Nat := p + ((s.drop p).takeWhile isBl).length

def jDigs (s : List UInt8) (p : Nat) : Except Nat Nat :=
  if ((s.drop p).takeWhile isDg).length = 0 then .error p else .ok (p + ((s.drop p).takeWhile isDg).length)

def jWord (s : List UInt8) : Nat → List UInt8 → Except Nat Nat
  | p, [] => .ok p
  | p, c :: w => if s[p]? = some c then jWord s (p + 1) w else .error p

/-- is one of these bytes here -/
def jHas (s : List UInt8) (p : Nat) (set : List UInt8) : Bool := (s[p]?).any set.contains

def jNum0 (s : List UInt8) (p : Nat) : Except Nat Nat := if jHas s p [48] then .ok (p + 1) else jDigs s p
def jNum1 (s : List UInt8) (p : Nat) : Except Nat Nat := if jHas s p [46] then jDigs s (p + 1) else .ok p
def jNum2 (s : List UInt8) (p : Nat) : Except Nat Nat :=
  if jHas s p [101, 69] then jDigs s (if jHas s (p + 1) [43, 45] then p + 2 else p + 1) else .ok p

def jNum (s : List UInt8) (p : Nat) : Except Nat Nat :=
  match jNum0 s (if jHas s p [45] then p + 1 else p) with
  | .error e => .error e
  | .ok p2 =>
    match jNum1 s p2 with
    | .error e => .error e
    | .ok p3 => jNum2 s p3

/-- so many hexadecimal digits, behind a number -/
def jHex (s : List UInt8) : Nat → Nat → Nat → Except Nat Nat
  | 0, _, v => .ok v
  | n + 1, p, v =>
    match s[p]? with
    | none => .error p
    | some c => if dval c < 16 then jHex s n (p + 1) (v * 16 + dval c) else .error p

def jFour (s : List UInt8) (p : Nat) : Except Nat Nat := jHex s 4 p 0

def escFrom : List UInt8 := [34, 92, 47, 98, 102, 110, 114, 116]
def escTo : List UInt8 := [34, 92, 47, 8, 12, 10, 13, 9]

/-- the second half of a character, whose first one is v -/
def jEsc2 (s : List UInt8) (p v : Nat) : Except Nat (Nat × Nat) :=
  match jWord s p [92, 117] with
  | .error e => .error e
  | .ok _ =>
    match jFour s (p + 2) with
    | .error e => .error e
    | .ok d => if d < 56320 ∨ 57343 < d then .error p else .ok (65536 + (v - 55296) * 1024 + (d - 56320), p + 6)

/-- an escape, whose backslash is here: the character's number, and the place behind it -/
def jEsc (s : List UInt8) (p : Nat) : Except Nat (Nat × Nat) :=
  match s[p + 1]? with
  | none => .error (p + 1)
  | some c =>
    if escFrom.contains c then .ok ((escTo.getD (escFrom.idxOf c) 0).toNat, p + 2)
    else if c ≠ 117 then .error (p + 1)
    else
      match jFour s (p + 2) with
      | .error e => .error e
      | .ok v =>
        if v < 55296 ∨ 57343 < v then .ok (v, p + 6)
        else if 56320 ≤ v then .error p
        else jEsc2 s (p + 6) v

/-- a string's bytes, up to its end -/
def jStr (s : List UInt8) : Nat → Nat → List UInt8 → Except Nat (List UInt8 × Nat)
  | 0, p, _ => .error p
  | n + 1, p, acc =>
    match s[p]? with
    | none => .error p
    | some c =>
      if c = 34 then .ok (acc, p + 1)
      else if c < 32 then .error p
      else if c = 92 then
        match jEsc s p with
        | .error e => .error e
        | .ok (r, q) => jStr s n q (acc ++ encodeRune r)
      else if (decodeL (s.drop p)).1 = 65533 ∧ (decodeL (s.drop p)).2 = 1 then .error p
      else jStr s n (p + (decodeL (s.drop p)).2) (acc ++ (s.drop p).take (decodeL (s.drop p)).2)

def jText (s : List UInt8) (p : Nat) : Except Nat (List UInt8 × Nat) :=
  if s[p]? = some 34 then jStr s s.length (p + 1) [] else .error p

def synE {α : Type} : Except Nat α → Except JErr α
  | .error p => .error (p, 40)
  | .ok a => .ok a

/-- a value that isn't an array or object -/
def jScal (s : List UInt8) (p : Nat) : Except Nat (JV × Nat) :=
  if s[p]? = some 110 then (match jWord s p [110, 117, 108, 108] with | .error e => .error e | .ok q => .ok (.mk 1 [] [] [] p, q))
  else if s[p]? = some 116 then (match jWord s p [116, 114, 117, 101] with | .error e => .error e | .ok q => .ok (.mk 2 [] [] [] p, q))
  else if s[p]? = some 102 then (match jWord s p [102, 97, 108, 115, 101] with | .error e => .error e | .ok q => .ok (.mk 3 [] [] [] p, q))
  else if s[p]? = some 34 then (match jText s p with | .error e => .error e | .ok (t, q) => .ok (.mk 5 t [] [] p, q))
  else (match jNum s p with | .error e => .error e | .ok q => .ok (.mk 4 ((s.drop p).take (q - p)) [] [] p, q))

/-- an array's or object's names and kids so far -/
abbrev JSt := List (List UInt8) × List JV

/-- what stands with "," between, up to an end -/
def jLoop (s : List UInt8) (en : UInt8) (step : JSt → Nat → Except JErr (JSt × Nat)) : Nat → JSt → Nat → Except JErr (JSt × Nat)
  | 0, _, p => .error (p, 40)
  | n + 1, st, p =>
    match step st p with
    | .error e => .error e
    | .ok (st', q) =>
      if s[jBlank s q]? = some en then .ok (st', jBlank s q + 1)
      else if s[jBlank s q]? = some 44 then jLoop s en step n st' (jBlank s (jBlank s q + 1))
      else .error (jBlank s q, 40)

def jList (s : List UInt8) (en : UInt8) (step : JSt → Nat → Except JErr (JSt × Nat)) (p : Nat) : Except JErr (JSt × Nat) :=
  if s[jBlank s (p + 1)]? = some en then .ok (([], []), jBlank s (p + 1) + 1)
  else jLoop s en step (s.length + 1) ([], []) (jBlank s (p + 1))

def stepA (kid : Nat → Except JErr (JV × Nat)) (st : JSt) (p : Nat) : Except JErr (JSt × Nat) :=
  match kid p with
  | .error e => .error e
  | .ok (v, q) => .ok ((st.1, st.2 ++ [v]), q)

def stepO (s : List UInt8) (kid : Nat → Except JErr (JV × Nat)) (st : JSt) (p : Nat) : Except JErr (JSt × Nat) :=
  match jText s p with
  | .error e => .error (e, 40)
  | .ok (name, q) =>
    if st.1.contains name then .error (p, 42)
    else
      if s[jBlank s q]? = some 58 then
        match kid (jBlank s (jBlank s q + 1)) with
        | .error e => .error e
        | .ok (v, q2) => .ok ((st.1 ++ [name], st.2 ++ [v]), q2)
      else .error (jBlank s q, 40)

/-- a value within 64 - n others -/
def jVal (s : List UInt8) : Nat → Nat → Except JErr (JV × Nat)
  | 0, p => if s[p]? = some 91 ∨ s[p]? = some 123 then .error (p, 41) else synE (jScal s p)
  | n + 1, p =>
    if s[p]? = some 91 then (match jList s 93 (stepA (jVal s n)) p with | .error e => .error e | .ok (st, q) => .ok (.mk 6 [] st.1 st.2 p, q))
    else if s[p]? = some 123 then (match jList s 125 (stepO s (jVal s n)) p with | .error e => .error e | .ok (st, q) => .ok (.mk 7 [] st.1 st.2 p, q))
    else synE (jScal s p)

/-- the value of a JSON text -/
def jRead (s : List UInt8) : Except JErr JV :=
  if 65536 < s.length then .error (0, 10)
  else
    match jVal s 64 (jBlank s 0) with
    | .error e => .error e
    | .ok (v, q) => if jBlank s q < s.length then .error (jBlank s q, 40) else .ok v

/-- a character within a JSON string -/
def hexB (n : Nat) : UInt8 := [48, 49, 50, 51, 52, 53, 54, 55, 56, 57, 97, 98, 99, 100, 101, 102].getD n 0
def quoteR (r : Nat) : List UInt8 :=
  if r = 34 ∨ r = 92 then 92 :: encodeRune r
  else if r < 32 then [92, 117, 48, 48, hexB (r / 16), hexB (r % 16)]
  else encodeRune r

/-- the characters of a text; the number: bytes that belong to the character before -/
def quoteG : Nat → List UInt8 → List UInt8
  | _, [] => []
  | 0, b :: l => quoteR (decodeL (b :: l)).1 ++ quoteG ((decodeL (b :: l)).2 - 1) l
  | k + 1, _ :: l => quoteG k l

def quoteC (l : List UInt8) : List UInt8 := quoteG 0 l
/-- a text as a JSON string -/
def jQuote (l : List UInt8) : List UInt8 := 34 :: (quoteC l ++ [34])

theorem quoteG_drop : ∀ (k : Nat) (l : List UInt8), quoteG k l = quoteC (l.drop k)
  | 0, l => by rfl
  | k + 1, [] => by simp [quoteG, quoteC]
  | k + 1, b :: l => by rw [quoteG, quoteG_drop k l]; rfl

theorem quoteC_nil : quoteC [] = [] := rfl

theorem quoteC_step (l : List UInt8) (h : l ≠ []) : quoteC l = quoteR (decodeL l).1 ++ quoteC (l.drop (decodeL l).2) := by
  cases l with
  | nil => exact absurd rfl h
  | cons b l =>
    rw [quoteC, quoteG, quoteG_drop]
    have := Lib.decodeL_width (b :: l)
    obtain ⟨m, hm⟩ : ∃ m, (decodeL (b :: l)).2 = m + 1 := ⟨(decodeL (b :: l)).2 - 1, by omega⟩
    rw [hm]
    rfl

/-- the words of the kinds that have one -/
def kindWord (k : Int) : List UInt8 := if k = 1 then [110, 117, 108, 108] else if k = 2 then [116, 114, 117, 101] else if k = 3 then [102, 97, 108, 115, 101] else []

/-- the kids from the i-th on -/
def showKids (sh : JV → List UInt8) (obj : Bool) (names : List (List UInt8)) : Nat → List JV → List UInt8
  | _, [] => []
  | i, k :: ks => (if 0 < i then [44] else []) ++ (if obj = true ∧ i < names.length then jQuote (names.getD i []) ++ [58] else []) ++ sh k ++ showKids sh obj names (i + 1) ks

/-- a value's text, down to so many levels -/
def jShow : Nat → JV → List UInt8
  | 0, .mk kind text names kids _ =>
    if kind = 6 then [91, 93] else if kind = 7 then [123, 125] else if kind = 5 then jQuote text else if kind = 4 then text else kindWord kind
  | n + 1, .mk kind text names kids _ =>
    if kind = 6 then [91] ++ showKids (jShow n) false names 0 kids ++ [93]
    else if kind = 7 then [123] ++ showKids (jShow n) true names 0 kids ++ [125]
    else if kind = 5 then jQuote text else if kind = 4 then text else kindWord kind

/-- two values are one but for their places, down to so many levels -/
def jSame : Nat → JV → JV → Bool
  | 0, _, _ => false
  | n + 1, .mk k t ns ks _, .mk k' t' ns' ks' _ => k == k' && t == t' && ns == ns' && (ks.length == ks'.length && (ks.zip ks').all fun q => jSame n q.1 q.2)
end Go.Proofs.YtghiboknhjnlkaaDoor
