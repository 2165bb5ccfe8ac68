/-
  Contracts of the functions that list the codes of all trees.
-/
import Derived.Test.YtcamhpknmbohnaaWcode
import Derived.Test.YtcamhpknmbohnaaWstr
import Derived.Test.YtcamhpknmbohnaaWlst
set_option linter.unusedVariables false
namespace Go.Proofs.Ytcamhpknmbohnaa
open Go Go.Proofs.Ytcamhpknmbohnaa.Ow
theorem bytesLess_lt (a b : Tx) : Op.bytesLess a b = true ↔ a < b := by
  induction a generalizing b with
  | nil => cases b <;> simp [Op.bytesLess]
  | cons x a ih =>
    cases b with
    | nil => simp [Op.bytesLess]
    | cons y b =>
      rw [List.cons_lt_cons_iff, Op.bytesLess]
      by_cases h1 : x < y
      · simp [h1]
      · by_cases h2 : x = y
        · subst h2; simp [ih, UInt8.lt_irrefl]
        · simp [h1, h2]
theorem lstT_get (k j : Nat) (hj : j < (lstT k).length) : ((lstT k).getD j []).length = k + 1 := by
  rw [getD_get _ _ _ hj]; exact lstT_len k _ (List.getElem_mem hj)
/-- impl.TreeCodes -/
theorem impl_TreeCodes_raw (n : Nat) (h1 : 1 ≤ n) (hn : n < 8) (ys : List Tx) (hp : ys.Perm ((lstT (n - 1)).map fun l => codeF l 12 0)) (hs : ys.Pairwise fun x y => ¬ y < x) :
    AC Try.prog 62 [I (n : Nat)] [] [.x (.sb 0 0 (Lib.compact ys).length), .d true .bool true] [.sl 9 .str (Lib.compact ys ++ List.replicate (ys.length - (Lib.compact ys).length) [])] := by
  have H := tc_ok n hn h1
  have hL2 := H.l2
  have hyl := hp.length_eq
  rw [List.length_map] at hyl
  refine AC_of tauOk 65 0 [2, 3] Try.func62 rfl (by kernel_rfl) rfl rfl rfl rfl rfl ?_
  refine ⟨fun h => by omega, fun _ => ?_⟩
  refine ⟨fun h => by omega, fun _ => ?_⟩
  refine ⟨rfl, by decide, false, rfl, by decide, false, ?_⟩
  refine ⟨Nat, fun i => ⟨[(0, I (n : Nat)), (4, .d true (.sl (.sl .int)) (lstT i)), (5, I ((i + 1 : Nat)))], []⟩, fun i => i + 1 ≤ n, fun i => n - i, 0, by omega,
    ⟨⟨rfl, rfl⟩, ⟨rfl, rfl, rfl, trivial⟩, trivial⟩, fun i hi => ?_⟩
  dsimp only at hi
  have hc := lstT_cnt i (by omega)
  refine ⟨fun h2 => ?_, fun h2 => ?_⟩
  · have hi2 : i + 1 < n := by omega
    have hc2 := lstT_cnt (i + 1) (by omega)
    refine ⟨rfl, by decide, true, ?_⟩
    refine ⟨Nat, fun a => ⟨[(0, I (n : Nat)), (5, I ((i + 1 : Nat))), (6, .ow 0), (27, .d true (.sl (.sl .int)) (lstT i)), (28, I (lstT i).length), (29, I (a : Nat))], [.sl 25 (.sl .int) (extA (lstT i) (i + 1) a)]⟩, fun a => a ≤ (lstT i).length, fun a => (lstT i).length - a, 0, Nat.zero_le _,
      ⟨⟨rfl, rfl⟩, ⟨rfl, rfl, rfl, rfl, rfl, rfl, trivial⟩, rfl, trivial⟩, fun a ha => ?_⟩
    dsimp only at ha
    refine ⟨fun h3 => ?_, fun h3 => ?_⟩
    · have ha2 : a < (lstT i).length := by omega
      have hl := lstT_get i a ha2
      have hne : (lstT i).getD a [] ≠ [] := fun e => by rw [e] at hl; simp at hl
      have hax := extA_len (lstT i) (i + 1) a ha
      have hmul : a * (i + 1) ≤ 720 * 7 := Nat.mul_le_mul (by omega) (by omega)
      refine ⟨a, rfl, ha2, ?_⟩
      refine ⟨Nat, fun b => ⟨[(0, I (n : Nat)), (5, I ((i + 1 : Nat))), (6, .ow 0), (8, .d true (.sl .int) ((lstT i).getD a [])), (27, .d true (.sl (.sl .int)) (lstT i)), (28, I (lstT i).length), (29, I (a : Nat)), (33, I ((i + 1 : Nat))), (34, I (b : Nat))], [.sl 25 (.sl .int) (extA (lstT i) (i + 1) a ++ extL ((lstT i).getD a []) b)]⟩, fun b => b ≤ i + 1, fun b => i + 1 - b, 0, Nat.zero_le _,
        ⟨⟨rfl, rfl⟩, ⟨rfl, rfl, rfl, rfl, rfl, rfl, rfl, rfl, rfl, trivial⟩, rowE (by simp [extL]), trivial⟩, fun b hb => ?_⟩
      dsimp only at hb
      have hxl := extL_len ((lstT i).getD a []) b
      refine ⟨fun h4 => ?_, fun h4 => ?_⟩
      · have hb2 : b < i + 1 := by omega
        refine ⟨[], false, _, _, slices_Clone_int true ((lstT i).getD a []) (by omega) hne, List.nodup_nil, rfl, rfl, trivial, ?_⟩
        refine ⟨rfl, by decide, false, ?_⟩
        refine ⟨rfl, Nat.zero_le _, rfl, by simp only [List.length_cons, List.length_nil]; omega, rfl, ?_⟩
        refine ⟨rfl, rfl, by decide, false, ?_⟩
        refine ⟨rfl, Nat.zero_le _, rfl, by simp only [List.length_append, List.length_cons, List.length_nil]; omega, rfl, ?_⟩
        exact ⟨((b + 1 : Nat) : Int), w64_eq (by omega) (by omega) (by omega), b + 1, by dsimp only; omega, by dsimp only; omega, ⟨rfl, rfl⟩, ⟨rfl, rfl, rfl, rfl, rfl, rfl, rfl, rfl, rfl, trivial⟩, rowE (by rw [extL_s, List.append_assoc]), trivial⟩
      · obtain rfl : b = i + 1 := by omega
        exact ⟨((a + 1 : Nat) : Int), w64_eq (by omega) (by omega) (by omega), a + 1, by dsimp only; omega, by dsimp only; omega, ⟨rfl, rfl⟩, ⟨rfl, rfl, rfl, rfl, rfl, rfl, trivial⟩, rowE (extA_s _ _ _ ha2).symm, trivial⟩
    · obtain rfl : a = (lstT i).length := by omega
      refine ⟨((i + 1 + 1 : Nat) : Int), w64_eq (by omega) (by omega) (by omega), i + 1, by dsimp only; omega, by dsimp only; omega, ⟨rfl, rfl⟩, ⟨rfl, ⟨rfl, rfl, extA_all i⟩, rfl, trivial⟩, trivial⟩
  · obtain rfl : i = n - 1 := by omega
    refine ⟨rfl, by decide, true, ?_⟩
    refine ⟨Nat, fun k => ⟨[(10, .ow 0), (49, .d true (.sl (.sl .int)) (lstT (n - 1))), (50, I (lstT (n - 1)).length), (51, I (k : Nat))], [.sl 9 .str (((lstT (n - 1)).take k).map fun l => codeF l 12 0)]⟩, fun k => k ≤ (lstT (n - 1)).length, fun k => (lstT (n - 1)).length - k, 0, Nat.zero_le _,
      ⟨⟨rfl, rfl⟩, ⟨rfl, rfl, rfl, rfl, trivial⟩, rfl, trivial⟩, fun k hk => ?_⟩
    dsimp only at hk
    refine ⟨fun h3 => ?_, fun h3 => ?_⟩
    · have hk2 : k < (lstT (n - 1)).length := by omega
      have hl := lstT_get (n - 1) k hk2
      have ht := (H.tr _ (List.getElem_mem hk2)).1
      have hml : (((lstT (n - 1)).take k).map fun l => codeF l 12 0).length ≤ 720 := by rw [List.length_map, List.length_take]; omega
      have hms : ((lstT (n - 1)).take (k + 1)).map (fun l => codeF l 12 0) = ((lstT (n - 1)).take k).map (fun l => codeF l 12 0) ++ [codeF ((lstT (n - 1)).getD k []) 12 0] := by
        rw [L_succ _ _ [] hk2, List.map_append]; rfl
      have htc : treeCode ((lstT (n - 1)).getD k []) = codeF ((lstT (n - 1)).getD k []) 12 0 := by
        rw [treeCode, getD_get _ _ _ hk2, if_pos ht]
      have hT := impl_TreeCode true ((lstT (n - 1)).getD k []) (by omega)
      rw [htc] at hT
      refine ⟨k, rfl, hk2, [], false, _, _, hT, List.nodup_nil, rfl, rfl, trivial, ?_⟩
      refine ⟨rfl, by decide, false, ?_⟩
      refine ⟨rfl, Nat.zero_le _, rfl, by simp only [List.length_cons, List.length_nil]; omega, rfl, ?_⟩
      exact ⟨((k + 1 : Nat) : Int), w64_eq (by omega) (by omega) (by omega), k + 1, by dsimp only; omega, by dsimp only; omega, ⟨rfl, rfl⟩, ⟨rfl, rfl, rfl, rfl, trivial⟩, rowE hms.symm, trivial⟩
    · obtain rfl : k = (lstT (n - 1)).length := by omega
      have hp2 : ys.Perm (((lstT (n - 1)).take (lstT (n - 1)).length).map fun l => codeF l 12 0) := by rw [List.take_length]; exact hp
      have hpl := hp2.length_eq
      refine ⟨[0], false, _, _, slices_SortFunc_str 9 _ ys (by rw [← hpl]; omega) hp2 hs, by decide, rfl, rfl, ⟨⟨hpl, rfl, rfl⟩, trivial⟩, ?_⟩
      refine ⟨[0], false, _, _, slices_Compact_str 9 ys (by omega), by decide, rfl, rfl, ⟨⟨?_, rfl, rfl⟩, trivial⟩, ?_⟩
      · show (Lib.compact ys ++ List.replicate (ys.length - (Lib.compact ys).length) ([] : Tx)).length = ys.length
        have := compact_le ys
        simp; omega
      · exact ⟨some 0, ⟨⟨rfl, rfl⟩, rfl, trivial⟩, ⟨rfl, rfl⟩, rfl⟩
theorem impl_TreeCodes (n : Nat) (h1 : 1 ≤ n) (hn : n < 8) : AC Try.prog 62 [I (n : Nat)] [] [.ow 0, .d true .bool true] [.sl 9 .str (tcsL n)] := by
  obtain ⟨ys, hp, hs⟩ : ∃ ys : List Tx, ys.Perm ((lstT (n - 1)).map fun l => codeF l 12 0) ∧ ys.Pairwise fun x y => ¬ y < x := by
    refine ⟨((lstT (n - 1)).map fun l => codeF l 12 0).mergeSort (fun x y => decide (x ≤ y)), List.mergeSort_perm _ _, ?_⟩
    refine (List.pairwise_mergeSort (fun a b c h1 h2 => ?_) (fun a b => ?_) _).imp ?_
    · simp only [decide_eq_true_eq] at *; exact List.le_trans h1 h2
    · rcases leS_total a b with h | h <;> simp [h]
    · intro a b h
      exact List.not_lt.2 (of_decide_eq_true h)
  have hc := tcs_compact n hn h1 ys hp hs
  have h := impl_TreeCodes_raw n h1 hn ys hp hs
  rw [hc] at h
  have h2 := AC.cut2 (t2 := .bool) rfl (tcs_pos n hn h1) h
  rwa [List.take_left'] at h2
  rfl
theorem impl_TreeCodes_no (n : Int) (h : ¬ (1 ≤ n ∧ n ≤ 7)) : AC Try.prog 62 [I n] [] [.nil, .d true .bool false] [] := by
  refine AC_of tauOk 65 0 [2, 3] Try.func62 rfl (by kernel_rfl) rfl rfl rfl rfl rfl ?_
  refine ⟨fun _ => ?_, fun h2 => ?_⟩
  · exact ⟨none, ⟨rfl, rfl, trivial⟩, rfl, rfl⟩
  · refine ⟨fun _ => ?_, fun h3 => by omega⟩
    exact ⟨none, ⟨rfl, rfl, trivial⟩, rfl, rfl⟩
end Go.Proofs.Ytcamhpknmbohnaa
