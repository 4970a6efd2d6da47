/- The plain words of sizes and arenas. No program. -/
import Derived.Test.YtfcnjhgfaibmnaaB0
namespace Go.Hw

def wordsOf (c : Int) : Int := if c < 0 ∨ c ≥ 3 then 0 else if c = 0 then 2 else if c = 1 then 4 else 8
def cellsOf (c : Int) : Int := if wordsOf c = 0 then 0 else 32 / wordsOf c
def classOf (f : Int) : Int := if f ≤ 0 then 0 else if f ≤ 2 then 1 else 2
def refOf (p c i : Int) : Int := p * 32 + (if i < 0 ∨ i ≥ cellsOf c then 0 else i * wordsOf c) + 1

theorem words_cases (c : Int) : (wordsOf c = 0 ∧ cellsOf c = 0 ∧ (c < 0 ∨ c ≥ 3)) ∨ (c = 0 ∧ wordsOf c = 2 ∧ cellsOf c = 16) ∨ (c = 1 ∧ wordsOf c = 4 ∧ cellsOf c = 8) ∨ (c = 2 ∧ wordsOf c = 8 ∧ cellsOf c = 4) := by
  by_cases h : c < 0 ∨ c ≥ 3
  · left; have : wordsOf c = 0 := by simp [wordsOf, h]
    exact ⟨this, by simp [cellsOf, this], h⟩
  · right
    obtain rfl | rfl | rfl : c = 0 ∨ c = 1 ∨ c = 2 := by omega
    · left; exact ⟨rfl, rfl, rfl⟩
    · right; left; exact ⟨rfl, rfl, rfl⟩
    · right; right; exact ⟨rfl, rfl, rfl⟩
theorem words_bd (c : Int) : 0 ≤ wordsOf c ∧ wordsOf c ≤ 8 := by rcases words_cases c with h | h | h | h <;> omega
theorem cells_bd (c : Int) : 0 ≤ cellsOf c ∧ cellsOf c ≤ 16 := by rcases words_cases c with h | h | h | h <;> omega

theorem class_bd (f : Int) : 0 ≤ classOf f ∧ classOf f ≤ 2 := by unfold classOf; split <;> (try split) <;> omega
theorem class_lt (f c : Int) (h6 : f ≤ 6) (h0 : 0 ≤ c) (h : c < classOf f) : wordsOf c < 2 + f := by
  unfold classOf at h
  rcases words_cases c with ⟨h1, h2, h3⟩ | ⟨h3, h1, h2⟩ | ⟨h3, h1, h2⟩ | ⟨h3, h1, h2⟩ <;> split at h <;> (try split at h) <;> omega
theorem class_ok (f : Int) (h6 : f ≤ 6) : 2 + f ≤ wordsOf (classOf f) := by
  unfold classOf
  split
  · show 2 + f ≤ 2; omega
  · split
    · show 2 + f ≤ 4; omega
    · show 2 + f ≤ 8; omega

def pageAt (A : Ar) (r : Int) : Int := if r < 1 ∨ r ≥ 32 * A.pages.length + 1 then -1 else (r - 1) / 32
def clsAt (A : Ar) (p : Int) : Int := if p < 0 ∨ p ≥ A.pages.length then -1 else (A.pages.getD p.toNat (0, 0)).1
def hasR (S : Nat → Bool) (r : Int) : Bool := decide (0 ≤ r) && S r.toNat

/-- Is word i of the cell at r one? -/
def wordOk (A : Ar) (S : Nat → Bool) (r i : Int) : Bool := hasR S r && decide (0 ≤ i) && decide (i < wordsOf (clsAt A (pageAt A r)))
def wordAt (A : Ar) (S : Nat → Bool) (r i : Int) : Int := if wordOk A S r i = true then A.words.getD (r - 1 + i).toNat 0 else 0
def setWord (A : Ar) (S : Nat → Bool) (r i x : Int) : Ar := if wordOk A S r i = true then { A with words := A.words.set (r - 1 + i).toNat x } else A

/-- The first free cell of a page. -/
def gapCell (S : Nat → Bool) (p c : Int) : Option Nat := (List.range (cellsOf c).toNat).find? fun i => !hasR S (refOf p c i)
def gapPage (A : Ar) (S : Nat → Bool) (c : Int) (p : Nat) : Option (Nat × Nat) :=
  if (A.pages.getD p (0, 0)).1 ≠ c ∨ (A.pages.getD p (0, 0)).2 = cellsOf c then none else (gapCell S p c).map fun i => (p, i)
def gapOf (A : Ar) (S : Nat → Bool) (c : Int) : Option (Nat × Nat) := (List.range A.pages.length).findSome? (gapPage A S c)
def roomOf (A : Ar) (S : Nat → Bool) (c : Int) : Bool := decide (cellsOf c ≠ 0) && ((gapOf A S c).isSome || decide (A.free > 0))


def clearAt (ws : List Int) (o n : Nat) : List Int := ws.take o ++ List.replicate n 0 ++ ws.drop (o + n)
def firstFree (A : Ar) : Nat := ((List.range A.pages.length).find? fun p => decide ((A.pages.getD p (0, 0)).1 < 0)).getD 0
/-- A page is made one of class c. -/
def openPage (A : Ar) (p : Nat) (c : Int) : Ar := { A with pages := A.pages.set p (c, 0), free := A.free - 1 }
/-- A cell is taken. -/
def takeCell (A : Ar) (p : Nat) (c i : Int) : Ar :=
  { A with pages := A.pages.set p ((A.pages.getD p (0, 0)).1, (A.pages.getD p (0, 0)).2 + 1), words := clearAt A.words (refOf p c i - 1).toNat (wordsOf c).toNat }
def takeOf (A : Ar) (S : Nat → Bool) (c : Int) : Option (Int × Ar) :=
  if roomOf A S c = true then
    match gapOf A S c with
    | some (p, i) => some (refOf p c i, takeCell A p c i)
    | none => some (refOf (firstFree A) c 0, takeCell (openPage A (firstFree A) c) (firstFree A) c 0)
  else none
def addTo (S : Nat → Bool) (r : Int) : Nat → Bool := fun k => if (k : Int) = r then true else S k
theorem clearAt_length (ws : List Int) (o n : Nat) (h : o + n ≤ ws.length) : (clearAt ws o n).length = ws.length := by
  simp [clearAt]; omega
end Go.Hw
