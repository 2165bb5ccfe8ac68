/-
  Contracts of the functions that write words.
-/
import Derived.Test.YtigebaejdghmmaaWints
set_option linter.unusedVariables false
namespace Go.Proofs.Ytigebaejdghmmaa
open Go Go.Proofs.Ytigebaejdghmmaa.Ow
theorem join_nil : ∀ l : List (List UInt8), Lib.join l [] = l.flatten := by
  intro l
  cases l with
  | nil => rfl
  | cons x r =>
    rw [Lib.join_cons, List.flatten_cons]
    congr 1
    induction r with
    | nil => rfl
    | cons y r ih => simp [Lib.joinTail] at ih ⊢ <;> exact ih
theorem word_join (xs : List Int) (h : ColP xs) : Lib.join (xs.map fmtI) [] = wordS xs := by
  rw [join_nil]
  have h1 : ∀ x ∈ xs, fmtI x = [dg x.toNat] := by
    intro x hx
    obtain ⟨i, hi, rfl⟩ := List.getElem_of_mem hx
    have h2 := h.1 i hi
    rw [getD_get _ _ _ hi] at h2
    have h3 : ¬ xs[i] < 0 := by omega
    have e : xs[i].natAbs = xs[i].toNat := by omega
    rw [fmtI, if_neg h3, e, fmtN_lt _ (by omega)]
  rw [List.map_congr_left h1]
  clear h1 h
  induction xs with
  | nil => rfl
  | cons x r ih => simp [wordS] at ih ⊢; exact ih
/-- impl.FormatWord -/
theorem impl_FormatWord (sh : Bool) (xs : List Int) (hx : In64 xs) (hl : xs.length ≤ 1048576) : AC Try.prog 45 [.d sh (.sl .int) xs] [] [.d true .str (formatW xs)] [] := by
  refine AC_of tauOk 8 0 [2] Try.func45 rfl (by kernel_rfl) rfl rfl rfl rfl rfl ?_
  refine ⟨[], false, _, _, impl_ColoringOk sh xs hl, List.nodup_nil, rfl, rfl, trivial, fun h1 => ?_, fun h1 => ?_⟩
  · refine ⟨[], false, _, _, impl_commas sh xs [] hx hl (by decide), List.nodup_nil, rfl, rfl, trivial, ?_⟩
    exact ⟨none, ⟨retS (by rw [formatW, if_pos h1, word_join xs ((colB_iff xs).1 h1)]), trivial⟩, rfl, rfl⟩
  · exact ⟨none, ⟨retS (by rw [formatW, if_neg (by rw [h1]; decide)]), trivial⟩, rfl, rfl⟩
end Go.Proofs.Ytigebaejdghmmaa
