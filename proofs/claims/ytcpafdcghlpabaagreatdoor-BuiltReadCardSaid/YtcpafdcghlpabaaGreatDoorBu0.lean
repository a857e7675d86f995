/-
What built.Test tells of arguments, as a plain function on lists of texts, and that a test turned round is the other one. No program in sight.
-/
import Derived.Test.YtcpafdcghlpabaaGreatDoorNum
set_option linter.unusedVariables false
namespace Go.Proofs.YtcpafdcghlpabaaGreatDoor.Bu
open Go.Proofs.YtcpafdcghlpabaaGreatDoor.Ar

def stZ (b : Bool) : Int := if b then 0 else 1
def sEq : Str := [61]
def sNe : Str := [33, 61]
def signs : List Str := [[45, 101, 113], [45, 110, 101], [45, 108, 116], [45, 108, 101], [45, 103, 116], [45, 103, 101]]
/-- The answers of six comparisons, in the order of their signs. -/
def six (x y : Int) : List Bool := [decide (x = y), !decide (x = y), decide (x < y), decide (x ≤ y), decide (y < x), decide (y ≤ x)]
def idxS (l : List Str) (s : Str) : Nat := l.findIdx (fun x => x == s)
/-- What a test of three is; none: it is none. -/
def compZ (a op b : Str) : Option Int :=
  if op == sEq then some (stZ (a == b))
  else if op == sNe then some (stZ (!(a == b)))
  else if signs.contains op then
    match numZ a, numZ b with
    | some x, some y => some (stZ ((six x y).getD (idxS signs op) false))
    | _, _ => some 2
  else none
def singleZ (has : Str → Bool) (op s : Str) : Int :=
  if op == [45, 110] then stZ (!(s == []))
  else if op == [45, 122] then stZ (s == [])
  else if op == [45, 101] then stZ (has s)
  else 2
def flip (n : Int) : Int := if n < 2 then 1 - n else n
def bang : Str := [33]
def testZ (has : Str → Bool) : List Str → Int
  | [] => 1
  | [a] => stZ (!(a == []))
  | [a, b] => if a == bang then flip (testZ has [b]) else singleZ has a b
  | [a, b, c] => match compZ a b c with
    | some n => n
    | none => if a == bang then flip (testZ has [b, c]) else 2
  | a :: b :: c :: d :: r => if a == bang then flip (testZ has (b :: c :: d :: r)) else 2

theorem stZ_le (b : Bool) : 0 ≤ stZ b ∧ stZ b ≤ 2 := by cases b <;> simp [stZ]
theorem compZ_le (a op b : Str) (n : Int) (h : compZ a op b = some n) : 0 ≤ n ∧ n ≤ 2 := by
  unfold compZ at h
  split at h
  · cases h; exact stZ_le _
  · split at h
    · cases h; exact stZ_le _
    · split at h
      · split at h
        · cases h; exact stZ_le _
        · cases h; decide
      · cases h
theorem flip_le {n : Int} (h : 0 ≤ n ∧ n ≤ 2) : 0 ≤ flip n ∧ flip n ≤ 2 := by unfold flip; split <;> omega
theorem singleZ_le (has : Str → Bool) (a b : Str) : 0 ≤ singleZ has a b ∧ singleZ has a b ≤ 2 := by
  unfold singleZ
  split
  · exact stZ_le _
  · split
    · exact stZ_le _
    · split
      · exact stZ_le _
      · decide
theorem testZ_le (has : Str → Bool) : ∀ l, 0 ≤ testZ has l ∧ testZ has l ≤ 2
  | [] => by simp [testZ]
  | [a] => by unfold testZ; exact stZ_le _
  | [a, b] => by
    unfold testZ
    split
    · exact flip_le (testZ_le has [b])
    · exact singleZ_le _ _ _
  | [a, b, c] => by
    unfold testZ
    split
    · next h => exact compZ_le _ _ _ _ h
    · split
      · exact flip_le (testZ_le has [b, c])
      · decide
  | a :: b :: c :: d :: r => by
    unfold testZ
    split
    · exact flip_le (testZ_le has (b :: c :: d :: r))
    · decide
/-- The law: a test turned round. -/
theorem test_not (has : Str → Bool) (l : List Str) (h1 : 1 ≤ l.length) (h2 : l.length ≠ 2) : testZ has (bang :: l) = flip (testZ has l) := by
  match l, h1, h2 with
  | [a], _, _ => conv => lhs; unfold testZ
                 simp [bang]
  | [a, b], _, h => simp at h
  | [a, b, c], _, _ => conv => lhs; unfold testZ
                       simp [bang]
  | a :: b :: c :: d :: r, _, _ => conv => lhs; unfold testZ
                                   simp [bang]
theorem not_law (has : Str → Bool) (l : List Str) (h1 : 1 ≤ l.length) (h2 : l.length ≠ 2) :
    0 ≤ testZ has l ∧ testZ has l ≤ 2 ∧ (testZ has l + testZ has (bang :: l) = 1 ∨ (testZ has l = 2 ∧ testZ has (bang :: l) = 2)) := by
  have h := testZ_le has l
  rw [test_not has l h1 h2]
  refine ⟨h.1, h.2, ?_⟩
  unfold flip
  split <;> omega
end Go.Proofs.YtcpafdcghlpabaaGreatDoor.Bu
