/-
  Contracts of the functions that write lists of integers as text.
-/
import Derived.Test.YtbnonelkdgkpdaaWfmt
set_option linter.unusedVariables false
namespace Go.Proofs.Ytbnonelkdgkpdaa
open Go Go.Proofs.Ytbnonelkdgkpdaa.Ow
theorem fmtI_len (n : Int) (h1 : -9223372036854775808 ≤ n) (h2 : n ≤ 9223372036854775807) : (fmtI n).length ≤ 20 := by
  have := fmtN_len64 n.natAbs (by omega)
  rw [fmtI]; split
  · simp; omega
  · omega
theorem map_succ (xs : List Int) (k : Nat) (h : k < xs.length) : (xs.take (k + 1)).map fmtI = (xs.take k).map fmtI ++ [fmtI (xs.getD k 0)] := by
  rw [L_succ xs k 0 h, List.map_append]; rfl
theorem fmts_len (xs : List Int) (sep : List UInt8) (hx : In64 xs) (hl : xs.length ≤ 1048576) (hs : sep.length ≤ 100) : (Lib.join (xs.map fmtI) sep).length ≤ 140737488355328 := by
  rw [← jn_join]
  have h := jn_len (xs.map fmtI) sep 20 (fun i hi => by
    have hi2 : i < xs.length := by simpa using hi
    rw [getD_get _ _ _ hi, List.getElem_map]
    have := hx i hi2
    rw [getD_get _ _ _ hi2] at this
    exact fmtI_len _ this.1 this.2) (xs.map fmtI).length (Nat.le_refl _)
  rw [List.length_map] at h ⊢
  have : xs.length * (sep.length + 20) ≤ 1048576 * 120 := Nat.mul_le_mul hl (by omega)
  omega


/-- a list of integers as text -/
def fmtL (xs : List Int) : List UInt8 := if xs.length = 0 then [45] else Lib.join (xs.map fmtI) [44]


end Go.Proofs.Ytbnonelkdgkpdaa
