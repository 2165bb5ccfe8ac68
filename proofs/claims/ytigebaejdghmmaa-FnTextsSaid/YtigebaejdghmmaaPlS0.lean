/-
  What is said of trees: codes, renamings, reading: no program in sight.
-/
import Derived.Test.YtigebaejdghmmaaPl8
import Derived.Test.YtigebaejdghmmaaPl3
set_option linter.unusedVariables false
namespace Go.Proofs.Ytigebaejdghmmaa
open Go Go.Proofs.Ytigebaejdghmmaa.Ow
def treeCode (xs : List Int) : List UInt8 := if treeB xs = true then codeF xs 12 0 else []
def sameB (xs ys : List Int) : Bool := treeB xs && treeB ys && decide (treeCode xs = treeCode ys)
/-- the text ahead of the k-th; the empty one ahead of the first -/
def lastS (l : List (List UInt8)) : Nat → List UInt8
  | 0 => []
  | j + 1 => l.getD j []
/-- the length of the run that ends behind the k-th text -/
def rz (l : List (List UInt8)) : Nat → Nat
  | 0 => 0
  | k + 1 => if l.getD k [] = lastS l k then rz l k + 1 else 1
theorem rz_s (l : List (List UInt8)) (k : Nat) : rz l (k + 1) = if l.getD k [] = lastS l k then rz l k + 1 else 1 := rfl
theorem rz_le (l : List (List UInt8)) : ∀ k, rz l k ≤ k
  | 0 => Nat.le_refl _
  | k + 1 => by
    have := rz_le l k
    rw [rz_s]
    split <;> omega
/-- a number times the lengths of the runs up to the k-th text -/
def pz (l : List (List UInt8)) (n : Int) : Nat → Int
  | 0 => n
  | k + 1 => w64 (pz l n k * (rz l (k + 1) : Nat))
theorem pz_s (l : List (List UInt8)) (n : Int) (k : Nat) : pz l n (k + 1) = w64 (pz l n k * (rz l (k + 1) : Nat)) := rfl
/-- the renamings of a tree, from its first v vertices -/
def tz (xs : List Int) : Nat → Int
  | 0 => 1
  | v + 1 => pz (kidsF xs 11 v) (tz xs v) (kidsF xs 11 v).length
def treeRen (xs : List Int) : Int := if treeB xs = true then tz xs xs.length else 0
def rdStep (s : List Int × Int) (c : UInt8) : List Int × Int := if ((c.toNat : Nat) : Int) = 40 then (s.1 ++ [s.2], ((s.1.length : Nat) : Int)) else if 0 ≤ s.2 then (s.1, s.1.getD s.2.toNat 0) else s
def rdT (code : List UInt8) : List Int × Int := code.foldl rdStep ([], -1)
def readB (code : List UInt8) : Bool := decide (code.length ≤ 24) && (treeB (rdT code).1 && decide (treeCode (rdT code).1 = code))
end Go.Proofs.Ytigebaejdghmmaa
