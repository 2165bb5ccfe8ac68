/-
  Contracts of the functions that write lists of integers as text.
-/
import Derived.Test.YtigebaejdghmmaaWfmt
set_option linter.unusedVariables false
namespace Go.Proofs.Ytigebaejdghmmaa
open Go Go.Proofs.Ytigebaejdghmmaa.Ow
theorem fmtI_len (n : Int) (h1 : -9223372036854775808 ≤ n) (h2 : n ≤ 9223372036854775807) : (fmtI n).length ≤ 20 := by
  have := fmtN_len64 n.natAbs (by omega)
  rw [fmtI]; split
  · simp; omega
  · omega
theorem map_succ (xs : List Int) (k : Nat) (h : k < xs.length) : (xs.take (k + 1)).map fmtI = (xs.take k).map fmtI ++ [fmtI (xs.getD k 0)] := by
  rw [L_succ xs k 0 h, List.map_append]; rfl
theorem fmts_len (xs : List Int) (sep : List UInt8) (hx : In64 xs) (hl : xs.length ≤ 1048576) (hs : sep.length ≤ 100) : (Lib.join (xs.map fmtI) sep).length ≤ 140737488355328 := by
  rw [← jn_join]
  have h := jn_len (xs.map fmtI) sep 20 (fun i hi => by
    have hi2 : i < xs.length := by simpa using hi
    rw [getD_get _ _ _ hi, List.getElem_map]
    have := hx i hi2
    rw [getD_get _ _ _ hi2] at this
    exact fmtI_len _ this.1 this.2) (xs.map fmtI).length (Nat.le_refl _)
  rw [List.length_map] at h ⊢
  have : xs.length * (sep.length + 20) ≤ 1048576 * 120 := Nat.mul_le_mul hl (by omega)
  omega
/-- impl.commas -/
theorem impl_commas (sh : Bool) (xs : List Int) (sep : List UInt8) (hx : In64 xs) (hl : xs.length ≤ 1048576) (hs : sep.length ≤ 100) :
    AC Try.prog 84 [.d sh (.sl .int) xs, .d true .str sep] [] [.d true .str (Lib.join (xs.map fmtI) sep)] [] := by
  have hlen := fmts_len xs sep hx hl hs
  refine AC_of tauOk 24 0 [4] Try.func84 rfl (by kernel_rfl) rfl rfl rfl rfl rfl ?_
  refine ⟨rfl, by decide, true, ?_⟩
  refine ⟨Nat, fun k => ⟨[(1, .d true .str sep), (5, .ow 0), (9, .d sh (.sl .int) xs), (10, I xs.length), (11, I (k : Nat))], [.sl 9 .str ((xs.take k).map fmtI)]⟩, fun k => k ≤ xs.length, fun k => xs.length - k, 0, Nat.zero_le _,
    ⟨⟨rfl, rfl⟩, ⟨rfl, rfl, rfl, rfl, rfl, trivial⟩, rfl, trivial⟩, fun k hk => ?_⟩
  dsimp only at hk
  refine ⟨fun h1 => ?_, fun h1 => ?_⟩
  · have hk2 : k < xs.length := by omega
    have hb := hx k hk2
    have hle : ((xs.take k).map fmtI).length ≤ 1048576 := by simp; omega
    refine ⟨k, rfl, by omega, [], false, _, _, impl_FormatInt _ hb.1 hb.2, List.nodup_nil, rfl, rfl, trivial, ?_⟩
    refine ⟨rfl, by decide, false, ?_⟩
    refine ⟨rfl, Nat.zero_le _, rfl, by simp at hle ⊢; omega, rfl, ?_⟩
    exact ⟨((k + 1 : Nat) : Int), w64_eq (by omega) (by omega) (by omega), k + 1, by dsimp only; omega, by dsimp only; omega, ⟨rfl, rfl⟩, ⟨rfl, rfl, rfl, rfl, rfl, trivial⟩, rowE (map_succ xs k hk2).symm, trivial⟩
  · obtain rfl : k = xs.length := by omega
    dsimp only; rw [List.take_length]
    refine ⟨[], false, _, _, impl_Join false (xs.map fmtI) sep (by rw [List.length_map]; omega) hlen, List.nodup_nil, rfl, rfl, trivial, ?_⟩
    exact ⟨none, ⟨rfl, trivial⟩, rfl, rfl⟩


/-- a list of integers as text -/
def fmtL (xs : List Int) : List UInt8 := if xs.length = 0 then [45] else Lib.join (xs.map fmtI) [44]
/-- impl.FormatInts -/
theorem impl_FormatInts (sh : Bool) (xs : List Int) (hx : In64 xs) (hl : xs.length ≤ 1048576) : AC Try.prog 36 [.d sh (.sl .int) xs] [] [.d true .str (fmtL xs)] [] := by
  refine AC_of tauOk 8 0 [2] Try.func36 rfl (by kernel_rfl) rfl rfl rfl rfl rfl ?_
  refine ⟨fun h1 => ?_, fun h1 => ?_⟩
  · exact ⟨none, ⟨retS (by rw [fmtL, if_pos (by omega)]), trivial⟩, rfl, rfl⟩
  · refine ⟨[], false, _, _, impl_commas sh xs [44] hx hl (by decide), List.nodup_nil, rfl, rfl, trivial, ?_⟩
    exact ⟨none, ⟨retS (by rw [fmtL, if_neg (by omega)]), trivial⟩, rfl, rfl⟩


end Go.Proofs.Ytigebaejdghmmaa
