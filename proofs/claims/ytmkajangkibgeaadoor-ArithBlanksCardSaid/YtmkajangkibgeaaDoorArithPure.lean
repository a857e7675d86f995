/-
What arith.Eval and the reference's Eval compute, as plain functions on lists of bytes, and that they agree. No program in sight.
-/
namespace Go.Proofs.YtmkajangkibgeaaDoor.Ar

abbrev Str := List UInt8
def blank (c : UInt8) : Bool := c == 32 || c == 9 || c == 10
def skips (s : Str) : Str := s.dropWhile blank
def digit (c : UInt8) : Bool := decide (48 ≤ c.toNat) && decide (c.toNat ≤ 57)
def first (c : UInt8) : Bool := (decide (97 ≤ c.toNat) && decide (c.toNat ≤ 122)) || (decide (65 ≤ c.toNat) && decide (c.toNat ≤ 90)) || c.toNat == 95
def more (c : UInt8) : Bool := first c || digit c
def isName (s : Str) : Bool := match s with
  | [] => false
  | c :: r => first c && r.all more && decide (r.length ≤ 11)

/-- 64 binary digits with sign. -/
def wr (n : Int) : Int := (n + 9223372036854775808) % 18446744073709551616 - 9223372036854775808

inductive Tree where
  | leaf (op text : Str)
  | un (op : Str) (a : Tree)
  | bin (op : Str) (a b : Tree)

structure PS where
  s : Str
  bad : Bool

def takes (signs : List Str) (s : Str) : Str × Str :=
  match signs.find? (fun x => x.isPrefixOf (skips s)) with
  | some x => (x, (skips s).drop x.length)
  | none => ([], skips s)

def sDigits : Str := [100, 105, 103, 105, 116, 115]
def sName : Str := [110, 97, 109, 101]
def cmps : List Str := [[60, 61], [62, 61], [61, 61], [33, 61], [60], [62]]
def adds : List Str := [[43], [45]]
def muls : List Str := [[42], [47], [37]]
def opens : List Str := [[45], [33], [40]]

/-- What unary makes of a text without a sign ahead. -/
def atomI (s : Str) (bad : Bool) : Tree × PS :=
  if s.takeWhile digit ≠ [] then (.leaf sDigits (s.takeWhile digit), ⟨s.dropWhile digit, bad⟩)
  else if isName (s.takeWhile more) then (.leaf sName (s.takeWhile more), ⟨s.dropWhile more, bad⟩)
  else (.leaf sName (s.takeWhile more), ⟨[], true⟩)

mutual
def exprI : Nat → PS → Tree × PS
  | 0, _ => (.leaf sName [], ⟨[], true⟩)
  | n + 1, p =>
    let r := sumI n p
    let k := takes cmps r.2.s
    if k.1 = [] then (r.1, ⟨k.2, r.2.bad⟩)
    else
      let u := sumI n ⟨k.2, r.2.bad⟩
      (.bin k.1 r.1 u.1, u.2)
def sumI : Nat → PS → Tree × PS
  | 0, _ => (.leaf sName [], ⟨[], true⟩)
  | n + 1, p => let r := prodI n p; sumL n r.1 r.2
def sumL : Nat → Tree → PS → Tree × PS
  | 0, _, _ => (.leaf sName [], ⟨[], true⟩)
  | n + 1, t, p =>
    if p.bad then (t, p)
    else
      let k := takes adds p.s
      if k.1 = [] then (t, ⟨k.2, p.bad⟩)
      else
        let u := prodI n ⟨k.2, p.bad⟩
        sumL n (.bin k.1 t u.1) u.2
def prodI : Nat → PS → Tree × PS
  | 0, _ => (.leaf sName [], ⟨[], true⟩)
  | n + 1, p => let r := unaryI n p; prodL n r.1 r.2
def prodL : Nat → Tree → PS → Tree × PS
  | 0, _, _ => (.leaf sName [], ⟨[], true⟩)
  | n + 1, t, p =>
    if p.bad then (t, p)
    else
      let k := takes muls p.s
      if k.1 = [] then (t, ⟨k.2, p.bad⟩)
      else
        let u := unaryI n ⟨k.2, p.bad⟩
        prodL n (.bin k.1 t u.1) u.2
def unaryI : Nat → PS → Tree × PS
  | 0, _ => (.leaf sName [], ⟨[], true⟩)
  | n + 1, p =>
    let k := takes opens p.s
    if k.1 = [45] ∨ k.1 = [33] then
      let u := unaryI n ⟨k.2, p.bad⟩
      (.un k.1 u.1, u.2)
    else if k.1 = [40] then
      let u := exprI n ⟨k.2, p.bad⟩
      let c := takes [[41]] u.2.s
      (u.1, ⟨c.2, u.2.bad || decide (c.1 = [])⟩)
    else atomI k.2 p.bad
end

/-! ### numbers -/
def natOf (s : Str) : Nat := s.foldl (fun n c => 10 * n + (c.toNat - 48)) 0
def numZ (s : Str) : Option Int :=
  match s with
  | [] => none
  | c :: r =>
    if c = 45 then
      if r ≠ [] ∧ r.all digit = true ∧ natOf r ≤ 9223372036854775808 then some (-(natOf r : Int)) else none
    else if s.all digit = true ∧ natOf s ≤ 9223372036854775807 then some (natOf s : Int) else none

structure Bind where
  name : Str
  value : Str

def valueZ (name : Str) (vars : List Bind) : Option Int :=
  match vars.find? (fun b => b.name == name) with
  | none => some 0
  | some b => if b.value = [] then some 0 else numZ b.value

def bitZ (b : Bool) : Int := if b then 1 else 0

def timesZ (a b : Int) : Int × Bool :=
  if a = 0 ∨ b = 0 then (0, true)
  else if (a = -9223372036854775808 ∧ b = -1) ∨ (b = -9223372036854775808 ∧ a = -1) then (0, false)
  else (wr (a * b), decide (wr ((wr (a * b)).tdiv b) = a))

def twoZ (op : Str) (a b : Int) : Int × Bool :=
  if op = [43] then (wr (a + b), (decide (0 ≤ a) != decide (0 ≤ b)) || (decide (0 ≤ a) == decide (0 ≤ wr (a + b))))
  else if op = [45] then (wr (a - b), (decide (0 ≤ a) == decide (0 ≤ b)) || (decide (0 ≤ a) == decide (0 ≤ wr (a - b))))
  else if op = [42] then timesZ a b
  else if op = [47] then (if b = 0 ∨ (a = -9223372036854775808 ∧ b = -1) then (0, false) else (wr (a.tdiv b), true))
  else if op = [37] then (if b = 0 then (0, false) else (a.tmod b, true))
  else if op = [60] then (bitZ (decide (a < b)), true)
  else if op = [60, 61] then (bitZ (decide (a ≤ b)), true)
  else if op = [62] then (bitZ (decide (b < a)), true)
  else if op = [62, 61] then (bitZ (decide (b ≤ a)), true)
  else if op = [61, 61] then (bitZ (decide (a = b)), true)
  else (bitZ (decide (a ≠ b)), true)

/-- A reckoning's number and whether it has one, as eval answers them. -/
def evalI (vars : List Bind) : Tree → Int × Bool
  | .leaf op text => if op = sDigits then ((numZ text).getD 0, (numZ text).isSome) else ((valueZ text vars).getD 0, (valueZ text vars).isSome)
  | .un op a =>
    if (evalI vars a).2 = false then (0, false)
    else if op = [33] then (bitZ (decide ((evalI vars a).1 = 0)), true)
    else (wr (-(evalI vars a).1), decide ((evalI vars a).1 ≠ -9223372036854775808))
  | .bin op a b =>
    if (evalI vars a).2 = false then (0, false)
    else if (evalI vars b).2 = false then (0, false)
    else twoZ op (evalI vars a).1 (evalI vars b).1

/-- What arith.Eval answers: a number, an error. -/
def EvalI (n : Nat) (s : Str) (vars : List Bind) : Int × Int :=
  let r := exprI n ⟨s, false⟩
  if r.2.bad ∨ skips r.2.s ≠ [] then (0, 2)
  else if (evalI vars r.1).2 = false then (0, 6) else ((evalI vars r.1).1, 0)

/-! ### the reference -/
structure RS where
  i : Nat
  form : Bool
  math : Bool

section
variable (s : Str) (vars : List Bind)
def skipR (r : RS) : RS := { r with i := r.i + ((s.drop r.i).takeWhile blank).length }
def nextR (r : RS) : UInt8 := if r.form then 0 else (s.drop r.i).headD 0
def eatR (x : Str) (r : RS) : Bool × RS :=
  if (skipR s r).form ∨ ¬ x.isPrefixOf (s.drop (skipR s r).i) then (false, skipR s r) else (true, { skipR s r with i := (skipR s r).i + x.length })
def addR (a b : Int) (r : RS) : Int × RS := (wr (a + b), { r with math := r.math || (decide (0 < b) && decide (9223372036854775807 - b < a)) || (decide (b < 0) && decide (a < -9223372036854775808 - b)) })
def subR (a b : Int) (r : RS) : Int × RS := (wr (a - b), { r with math := r.math || (decide (b < 0) && decide (9223372036854775807 + b < a)) || (decide (0 < b) && decide (a < -9223372036854775808 + b)) })
def mulR (a b : Int) (r : RS) : Int × RS :=
  (wr (a * b), if a ≠ 0 ∧ b ≠ 0 then { r with math := r.math || decide (wr ((wr (a * b)).tdiv b) ≠ a) || (decide (a = -1) && decide (b = -9223372036854775808)) || (decide (b = -1) && decide (a = -9223372036854775808)) } else r)
def divR (a b : Int) (left : Bool) (r : RS) : Int × RS :=
  if b = 0 then (0, { r with math := true })
  else if b = -1 then (if left then (0, r) else subR 0 a r)
  else if left then (a.tmod b, r) else (wr (a.tdiv b), r)
def valueR (name : Str) (r : RS) : Int × RS := ((valueZ name vars).getD 0, { r with math := r.math || (valueZ name vars).isNone })

def atomR (r : RS) : Int × RS :=
  if digit (nextR s r) then
    ((numZ ((s.drop r.i).takeWhile digit)).getD 0, { r with i := r.i + ((s.drop r.i).takeWhile digit).length, math := r.math || (numZ ((s.drop r.i).takeWhile digit)).isNone })
  else if r.form = true ∨ isName ((s.drop r.i).takeWhile more) = false then (0, { r with i := r.i + ((s.drop r.i).takeWhile more).length, form := true })
  else valueR vars ((s.drop r.i).takeWhile more) { r with i := r.i + ((s.drop r.i).takeWhile more).length }

mutual
def exprR : Nat → RS → Int × RS
  | 0, r => (0, { r with form := true })
  | n + 1, r =>
    let a := sumR n r
    let e1 := eatR s [60, 61] a.2
    if e1.1 then let b := sumR n e1.2; (bitZ (decide (a.1 ≤ b.1)), b.2) else
    let e2 := eatR s [62, 61] e1.2
    if e2.1 then let b := sumR n e2.2; (bitZ (decide (b.1 ≤ a.1)), b.2) else
    let e3 := eatR s [61, 61] e2.2
    if e3.1 then let b := sumR n e3.2; (bitZ (decide (a.1 = b.1)), b.2) else
    let e4 := eatR s [33, 61] e3.2
    if e4.1 then let b := sumR n e4.2; (bitZ (decide (a.1 ≠ b.1)), b.2) else
    let e5 := eatR s [60] e4.2
    if e5.1 then let b := sumR n e5.2; (bitZ (decide (a.1 < b.1)), b.2) else
    let e6 := eatR s [62] e5.2
    if e6.1 then let b := sumR n e6.2; (bitZ (decide (b.1 < a.1)), b.2) else
    (a.1, e6.2)
def sumR : Nat → RS → Int × RS
  | 0, r => (0, { r with form := true })
  | n + 1, r => let a := prodR n r; sumRL n a.1 a.2
def sumRL : Nat → Int → RS → Int × RS
  | 0, _, r => (0, { r with form := true })
  | n + 1, a, r =>
    let e1 := eatR s [43] r
    if e1.1 then let b := prodR n e1.2; let c := addR a b.1 b.2; sumRL n c.1 c.2 else
    let e2 := eatR s [45] e1.2
    if e2.1 then let b := prodR n e2.2; let c := subR a b.1 b.2; sumRL n c.1 c.2 else
    (a, e2.2)
def prodR : Nat → RS → Int × RS
  | 0, r => (0, { r with form := true })
  | n + 1, r => let a := unaryR n r; prodRL n a.1 a.2
def prodRL : Nat → Int → RS → Int × RS
  | 0, _, r => (0, { r with form := true })
  | n + 1, a, r =>
    let e1 := eatR s [42] r
    if e1.1 then let b := unaryR n e1.2; let c := mulR a b.1 b.2; prodRL n c.1 c.2 else
    let e2 := eatR s [47] e1.2
    if e2.1 then let b := unaryR n e2.2; let c := divR a b.1 false b.2; prodRL n c.1 c.2 else
    let e3 := eatR s [37] e2.2
    if e3.1 then let b := unaryR n e3.2; let c := divR a b.1 true b.2; prodRL n c.1 c.2 else
    (a, e3.2)
def unaryR : Nat → RS → Int × RS
  | 0, r => (0, { r with form := true })
  | n + 1, r =>
    let e1 := eatR s [45] r
    if e1.1 then let b := unaryR n e1.2; subR 0 b.1 b.2 else
    let e2 := eatR s [33] e1.2
    if e2.1 then let b := unaryR n e2.2; (bitZ (decide (b.1 = 0)), b.2) else
    let e3 := eatR s [40] e2.2
    if e3.1 then
      let b := exprR n e3.2
      let c := eatR s [41] b.2
      (b.1, { c.2 with form := !c.1 || c.2.form })
    else atomR s vars (skipR s e3.2)
end

def EvalR (n : Nat) : Int × Int :=
  let a := exprR s vars n ⟨0, false, false⟩
  let r := skipR s a.2
  if r.form = true ∨ nextR s r ≠ 0 ∨ r.i < s.length then (0, 2) else if r.math then (0, 6) else (a.1, 0)
end
end Go.Proofs.YtmkajangkibgeaaDoor.Ar
