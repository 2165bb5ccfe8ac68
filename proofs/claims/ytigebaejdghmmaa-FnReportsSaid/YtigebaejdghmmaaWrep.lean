/-
  FnReports: reports name what the functions return.
-/
import Derived.Test.YtigebaejdghmmaaWdrw
import Derived.Test.YtigebaejdghmmaaWcl
import Derived.Test.YtigebaejdghmmaaWcyc
import Derived.Test.YtigebaejdghmmaaWfws
import Derived.Test.YtigebaejdghmmaaWftm
set_option linter.unusedVariables false
namespace Go.Proofs.Ytigebaejdghmmaa
open Go Go.Proofs.Ytigebaejdghmmaa.Ow
theorem impl_FormatInts_nil : AC Try.prog 36 [.nil] [] [.d true .str [45]] [] := by
  refine AC_of tauOk 8 0 [2] Try.func36 rfl (by kernel_rfl) rfl rfl rfl rfl rfl ?_
  refine ⟨fun _ => ?_, fun h => (h rfl).elim⟩
  exact ⟨none, ⟨rfl, trivial⟩, rfl, rfl⟩
/-- a drawn group is short -/
theorem grpD_short (code : List Int) (m : Nat) : gokB (grpD code m) = true ∧ (grpD code m).length ≤ 1048576 ∧ ∀ i, i < (grpD code m).length → ((grpD code m).getD i []).length ≤ 1048576 := by
  obtain ⟨n, h1, h2, h⟩ := grpD_ok code m
  refine ⟨grq_gok h, by have := h.2.1; omega, fun i hi => ?_⟩
  have := (h.2.2.2.1 ((grpD code m).getD i []) (by rw [getD_get _ _ _ hi]; exact List.getElem_mem _)).2
  omega
/-- a number from 1 to 3 -/
theorem dec3 (code : List Int) (m : Nat) : ∃ n : Nat, 1 + (mkNum code m).tmod 3 = n ∧ 1 ≤ n ∧ n < 4 := by
  have hb := mkNum_b code m
  have ht := Int.tmod_nonneg 3 hb.1
  have ht2 := Int.tmod_lt_of_pos (mkNum code m) (by decide : (0 : Int) < 3)
  exact ⟨(1 + (mkNum code m).tmod 3).toNat, by omega, by omega, by omega⟩
/-- laws.FnReports -/
theorem laws_FnReports (code : List Int) : AC Try.prog 6 [.d true (.sl .u8) code] [] [.d true .bool true] [] := by
  obtain ⟨hg, hgl, hgx⟩ := grpD_short code 0
  obtain ⟨k, hk, hk1, hk2⟩ := dec3 code 20
  have b1 := colI_b (grpD code 0) (k : Nat)
  have b2 := cexI_b (grpD code 0) (k : Nat)
  have l0 := fI_len ((grpD code 0).length : Int) (by omega)
  have l1 := fI_len (colI (grpD code 0) (k : Nat)) b1
  have l2 := fI_len (cexI (grpD code 0) (k : Nat)) b2
  refine AC_of tauOk 56 0 [2] Try.func6 rfl (by kernel_rfl) rfl rfl rfl rfl rfl ?_
  refine ⟨fun h1 => ?_, fun h1 => ?_⟩
  · exact ⟨none, ⟨rfl, trivial⟩, rfl, rfl⟩
  have hl : code.length ≤ 1048576 := by omega
  refine ⟨[], false, _, _, spec_MakeGroup code hl 0 (by decide), List.nodup_nil, rfl, rfl, trivial, ?_⟩
  refine ⟨[], false, _, _, spec_MakeNum code hl 20 (by decide), List.nodup_nil, rfl, rfl, trivial, ?_⟩
  refine ⟨by decide, _, rfl, (k : Int), w64_eq hk.symm (by omega) (by omega), ?_⟩
  refine ⟨[], false, _, _, impl_CountLine true (grpD code 0) (k : Nat) hgl hgx, List.nodup_nil, rfl, rfl, trivial, ?_⟩
  refine ⟨[], false, _, _, impl_FormatInt ((grpD code 0).length : Int) (by omega) (by omega), List.nodup_nil, rfl, rfl, trivial, by simp only [List.length_append, List.length_cons, List.length_nil]; omega, by simp only [List.length_append, List.length_cons, List.length_nil]; omega, ?_⟩
  refine ⟨[], false, _, _, impl_CountColorings true (grpD code 0) (k : Nat) hgl hgx, List.nodup_nil, rfl, rfl, trivial, [], false, _, _, impl_FormatInt (colI (grpD code 0) (k : Nat)) b1.1 b1.2, List.nodup_nil, rfl, rfl, trivial, by simp only [List.length_append, List.length_cons, List.length_nil]; omega, by simp only [List.length_append, List.length_cons, List.length_nil]; omega, ?_⟩
  refine ⟨[], false, _, _, impl_CountExchange true (grpD code 0) (k : Nat) hgl hgx, List.nodup_nil, rfl, rfl, trivial, [], false, _, _, impl_FormatInt (cexI (grpD code 0) (k : Nat)) b2.1 b2.2, List.nodup_nil, rfl, rfl, trivial, by simp only [List.length_append, List.length_cons, List.length_nil]; omega, ?_⟩
  refine ⟨fun h2 => ?_, fun h2 => (h2 ?_).elim⟩
  · refine ⟨rfl, by decide, false, ?_⟩
    refine ⟨[], false, _, _, impl_FormatCycles true [1, 0, 2, 4, 3] (by decide), List.nodup_nil, rfl, rfl, trivial, fun _ => ?_, fun h3 => (h3 (by decide +kernel)).elim⟩
    refine ⟨rfl, by decide, false, ?_⟩
    refine ⟨rfl, by decide, false, ?_⟩
    refine ⟨rfl, by decide, false, ?_⟩
    refine ⟨[], false, _, _, impl_FormatWords true [[0, 1], [2]] ?_ ?_, List.nodup_nil, rfl, rfl, trivial, fun _ => ?_, fun h3 => (h3 (by decide +kernel)).elim⟩
    · intro i hi
      have hi : i < 2 := hi
      match i, hi with
      | 0, _ => intro j hj; have hj : j < 2 := hj; (match j, hj with | 0, _ => exact ⟨by decide, by decide⟩ | 1, _ => exact ⟨by decide, by decide⟩)
      | 1, _ => intro j hj; have hj : j < 1 := hj; (match j, hj with | 0, _ => exact ⟨by decide, by decide⟩)
    · refine ⟨by decide, fun i hi => ?_⟩
      have hi : i < 2 := hi
      match i, hi with
      | 0, _ => exact (by decide : 2 ≤ 1048576)
      | 1, _ => exact (by decide : 1 ≤ 1048576)
    refine ⟨rfl, by decide, false, ?_⟩
    refine ⟨[], false, _, _, impl_FormatTerm ([2, 0, 1], 5) ?_, List.nodup_nil, rfl, rfl, trivial, fun _ => ?_, fun h3 => (h3 (by decide +kernel)).elim⟩
    · exact ⟨by decide, fun i => (by decide : ∀ i, i < 3 → (0 : Int) ≤ [2, 0, 1].getD i 0 ∧ [2, 0, 1].getD i 0 ≤ (10 : Int)) |> fun h => if hi : i < 3 then h i hi else by rw [List.getD_eq_getElem?_getD, List.getElem?_eq_none (by simp; omega)]; decide, by decide⟩
    refine ⟨[], false, _, _, impl_FormatInts_nil, List.nodup_nil, rfl, rfl, trivial, fun _ => ?_, fun h3 => (h3 rfl).elim⟩
    exact ⟨none, ⟨rfl, trivial⟩, rfl, rfl⟩
  · rw [clnS, if_pos ⟨hg, by omega⟩]
end Go.Proofs.Ytigebaejdghmmaa
