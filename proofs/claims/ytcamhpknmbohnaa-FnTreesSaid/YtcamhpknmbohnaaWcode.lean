/-
  Contracts of the functions that code trees as texts.
-/
import Derived.Test.YtcamhpknmbohnaaPlS0
import Derived.Test.YtcamhpknmbohnaaWtree
import Derived.Test.YtcamhpknmbohnaaWsort
import Derived.Test.YtcamhpknmbohnaaWjoin
set_option linter.unusedVariables false
namespace Go.Proofs.Ytcamhpknmbohnaa
open Go Go.Proofs.Ytcamhpknmbohnaa.Ow
theorem retD {sh : Bool} {t : Ty} {b c : List t.T} (h : b = c) : (AV.d sh (.sl t) b) = .d sh (.sl t) c := by rw [h]
theorem kid_lt {xs : List Int} (hT : TreeP xs) {i at_ : Nat} (hi : i < xs.length) (e : xs.getD i 0 = (at_ : Int)) : at_ < i := by
  by_cases h0 : i = 0
  · subst h0
    have := hT.2.1; omega
  · have := hT.2.2 i (by omega) hi; omega
/-- impl.children -/
theorem impl_children (sh : Bool) (xs : List Int) (hl : xs.length ≤ 12) (b at_ : Nat)
    (ih : ∀ i, i < xs.length → xs.getD i 0 = (at_ : Int) → AC Try.prog 128 [.d sh (.sl .int) xs, I (i : Nat)] [] [.d true .str (codeF xs b i)] []) :
    AC Try.prog 129 [.d sh (.sl .int) xs, I (at_ : Nat)] [] [.ow 0] [.sl 9 .str (kidsF xs b at_)] := by
  refine AC_of tauOk 31 0 [4] Try.func129 rfl (by kernel_rfl) rfl rfl rfl rfl rfl ?_
  refine ⟨rfl, by decide, true, ?_⟩
  refine ⟨Nat, fun k => ⟨[(0, .d sh (.sl .int) xs), (1, I (at_ : Nat)), (5, .ow 0), (9, .d sh (.sl .int) xs), (10, I xs.length), (11, I (k : Nat))], [.sl 9 .str (kidsP xs b at_ k)]⟩, fun k => k ≤ xs.length, fun k => xs.length - k, 0, Nat.zero_le _,
    ⟨⟨rfl, rfl⟩, ⟨rfl, rfl, rfl, rfl, rfl, rfl, trivial⟩, rfl, trivial⟩, fun k hk => ?_⟩
  dsimp only at hk
  have hkl := kidsP_len xs b at_ k
  refine ⟨fun h1 => ?_, fun h1 => ?_⟩
  · have hk2 : k < xs.length := by omega
    refine ⟨k, rfl, hk2, fun h2 => ?_, fun h2 => ?_⟩
    · refine ⟨[], false, _, _, ih k hk2 h2, List.nodup_nil, rfl, rfl, trivial, ?_⟩
      refine ⟨rfl, by decide, false, ?_⟩
      refine ⟨rfl, Nat.zero_le _, rfl, by simp only [List.length_cons, List.length_nil]; omega, rfl, ?_⟩
      exact ⟨((k + 1 : Nat) : Int), w64_eq (by omega) (by omega) (by omega), k + 1, by dsimp only; omega, by dsimp only; omega, ⟨rfl, rfl⟩, ⟨rfl, rfl, rfl, rfl, rfl, rfl, trivial⟩, rowE (kidsP_yes xs b at_ k h2).symm, trivial⟩
    · exact ⟨((k + 1 : Nat) : Int), w64_eq (by omega) (by omega) (by omega), k + 1, by dsimp only; omega, by dsimp only; omega, ⟨rfl, rfl⟩, ⟨rfl, rfl, rfl, rfl, rfl, rfl, trivial⟩, rowE (kidsP_no xs b at_ k h2).symm, trivial⟩
  · obtain rfl : k = xs.length := by omega
    refine ⟨[0], false, _, _, slices_Sort_str 9 (kidsP xs b at_ xs.length) (by omega), by decide, rfl, rfl, ⟨⟨List.length_mergeSort _, rfl, rfl⟩, trivial⟩, ?_⟩
    refine ⟨[0], false, _, _, slices_Reverse_str 9 ((kidsP xs b at_ xs.length).mergeSort fun x y => decide (x ≤ y)) (by rw [List.length_mergeSort]; omega), by decide, rfl, rfl, ⟨⟨List.length_reverse, rfl, rfl⟩, trivial⟩, ?_⟩
    exact ⟨some 0, ⟨⟨rfl, rfl⟩, trivial⟩, ⟨rfl, rowsE (sortD_merge _)⟩, rfl⟩
/-- impl.codeOf -/
theorem impl_codeOf (sh : Bool) (xs : List Int) (hT : TreeP xs) : ∀ (b at_ : Nat), at_ < xs.length → xs.length - at_ ≤ b → b ≤ 12 → AC Try.prog 128 [.d sh (.sl .int) xs, I (at_ : Nat)] [] [.d true .str (codeF xs b at_)] []
  | 0, at_, h1, h2, _ => by omega
  | b + 1, at_, h1, h2, h3 => by
    have hl : xs.length ≤ 12 := hT.1.2
    have ih := impl_codeOf sh xs hT b
    have hj := kidsF_join xs hl b at_ (by omega)
    refine AC_of tauOk 11 0 [4] Try.func128 rfl (by kernel_rfl) rfl rfl rfl rfl rfl ?_
    refine ⟨[], false, _, _, impl_children sh xs hl b at_ (fun i hi e => ih i hi (by have := kid_lt hT hi e; omega) (by omega)), List.nodup_nil, rfl, rfl, trivial, ?_⟩
    refine ⟨[], false, _, _, impl_Join false (kidsF xs b at_) [] (by omega) (by omega), List.nodup_nil, rfl, rfl, trivial, ?_⟩
    refine ⟨by simp only [List.length_cons, List.length_nil]; omega, by simp only [List.length_append, List.length_cons, List.length_nil]; omega, ?_⟩
    exact ⟨none, ⟨retS (by rw [codeF_s]; rfl), trivial⟩, rfl, rfl⟩
theorem treeCode_len (xs : List Int) : (treeCode xs).length ≤ 70368744177664 := by
  unfold treeCode
  split
  · rename_i h
    have h1 := ((treeB_iff xs).1 h).1.2
    have h2 := codeF_len xs h1 12 0
    omega
  · simp
/-- impl.TreeCode -/
theorem impl_TreeCode (sh : Bool) (xs : List Int) (hl : xs.length ≤ 1048576) : AC Try.prog 57 [.d sh (.sl .int) xs] [] [.d true .str (treeCode xs)] [] := by
  refine AC_of tauOk 8 0 [2] Try.func57 rfl (by kernel_rfl) rfl rfl rfl rfl rfl ?_
  refine ⟨[], false, _, _, impl_TreeOk sh xs hl, List.nodup_nil, rfl, rfl, trivial, fun h1 => ?_, fun h1 => ?_⟩
  · have hT := (treeB_iff xs).1 h1
    refine ⟨[], false, _, _, impl_codeOf sh xs hT 12 0 hT.1.1 (by have := hT.1.2; omega) (by decide), List.nodup_nil, rfl, rfl, trivial, ?_⟩
    exact ⟨none, ⟨retS (by rw [treeCode, if_pos h1]), trivial⟩, rfl, rfl⟩
  · exact ⟨none, ⟨retS (by rw [treeCode, if_neg (by rw [h1]; decide)]), trivial⟩, rfl, rfl⟩
/-- impl.SameTree -/
theorem impl_SameTree (sh sh2 : Bool) (xs ys : List Int) (hl : xs.length ≤ 1048576) (hl2 : ys.length ≤ 1048576) : AC Try.prog 61 [.d sh (.sl .int) xs, .d sh2 (.sl .int) ys] [] [.d true .bool (sameB xs ys)] [] := by
  refine AC_of tauOk 18 0 [4] Try.func61 rfl (by kernel_rfl) rfl rfl rfl rfl rfl ?_
  refine ⟨[], false, _, _, impl_TreeOk sh xs hl, List.nodup_nil, rfl, rfl, trivial, fun h1 => ?_, fun h1 => ?_⟩
  · refine ⟨[], false, _, _, impl_TreeOk sh2 ys hl2, List.nodup_nil, rfl, rfl, trivial, fun h2 => ?_, fun h2 => ?_⟩
    · refine ⟨[], false, _, _, impl_TreeCode sh xs hl, List.nodup_nil, rfl, rfl, trivial, [], false, _, _, impl_TreeCode sh2 ys hl2, List.nodup_nil, rfl, rfl, trivial, fun h3 => ?_, fun h3 => ?_⟩
      · exact ⟨none, ⟨retB (by rw [sameB, h1, h2, h3]; simp), trivial⟩, rfl, rfl⟩
      · exact ⟨none, ⟨retB (by rw [sameB, h1, h2, decide_eq_false h3]; rfl), trivial⟩, rfl, rfl⟩
    · exact ⟨none, ⟨retB (by rw [sameB, h1, h2]; rfl), trivial⟩, rfl, rfl⟩
  · exact ⟨none, ⟨retB (by rw [sameB, h1]; rfl), trivial⟩, rfl, rfl⟩

/-- impl.TreeRenamings -/
theorem impl_TreeRenamings (sh : Bool) (xs : List Int) (hl : xs.length ≤ 1048576) : AC Try.prog 59 [.d sh (.sl .int) xs] [] [I (treeRen xs)] [] := by
  refine AC_of tauOk 46 0 [2] Try.func59 rfl (by kernel_rfl) rfl rfl rfl rfl rfl ?_
  refine ⟨[], false, _, _, impl_TreeOk sh xs hl, List.nodup_nil, rfl, rfl, trivial, fun h1 => ?_, fun h1 => ?_⟩
  · have hT := (treeB_iff xs).1 h1
    have hl12 : xs.length ≤ 12 := hT.1.2
    refine ⟨Nat, fun v => ⟨[(0, .d sh (.sl .int) xs), (3, I (tz xs v)), (13, I xs.length), (14, I (v : Nat))], []⟩, fun v => v ≤ xs.length, fun v => xs.length - v, 0, Nat.zero_le _,
      ⟨⟨rfl, rfl⟩, ⟨rfl, rfl, rfl, rfl, trivial⟩, trivial⟩, fun v hv => ?_⟩
    dsimp only at hv
    refine ⟨fun h2 => ?_, fun h2 => ?_⟩
    · have hv2 : v < xs.length := by omega
      have hj := kidsF_join xs hl12 11 v (by decide)
      refine ⟨[], false, _, _, impl_children sh xs hl12 11 v (fun i hi e => impl_codeOf sh xs hT 11 i hi (by have := kid_lt hT hi e; omega) (by omega)), List.nodup_nil, rfl, rfl, trivial, ?_⟩
      refine ⟨Nat, fun k => ⟨[(0, .d sh (.sl .int) xs), (3, I (pz (kidsF xs 11 v) (tz xs v) k)), (13, I xs.length), (14, I (v : Nat)), (5, I (rz (kidsF xs 11 v) k : Nat)), (6, .ow 0), (20, .ow 0), (21, I (kidsF xs 11 v).length), (22, I (k : Nat))], [.sl 9 .str (kidsF xs 11 v)]⟩,
        fun k => k ≤ (kidsF xs 11 v).length, fun k => (kidsF xs 11 v).length - k, 0, Nat.zero_le _,
        ⟨⟨rfl, rfl⟩, ⟨rfl, rfl, rfl, rfl, rfl, rfl, rfl, rfl, rfl, trivial⟩, rfl, trivial⟩, fun k hk => ?_⟩
      dsimp only at hk
      have hrz := rz_le (kidsF xs 11 v) k
      refine ⟨fun h3 => ?_, fun h3 => ?_⟩
      · have hk2 : k < (kidsF xs 11 v).length := by omega
        refine ⟨k, rfl, hk2, ?_⟩
        refine ⟨((rz (kidsF xs 11 v) k + 1 : Nat) : Int), w64_eq (by omega) (by omega) (by omega), ?_⟩
        refine ⟨fun h4 => ?_, fun h4 => ?_⟩
        · obtain ⟨j, rfl⟩ : ∃ j, k = j + 1 := ⟨k - 1, by omega⟩
          refine ⟨((j : Nat) : Int), w64_eq (by omega) (by omega) (by omega), ?_⟩
          refine ⟨j, rfl, by omega, fun h5 => ?_, fun h5 => ?_⟩
          · have e : rz (kidsF xs 11 v) (j + 1 + 1) = 1 := by rw [rz_s]; exact if_neg h5
            refine ⟨_, rfl, ?_⟩
            exact ⟨((j + 1 + 1 : Nat) : Int), w64_eq (by omega) (by omega) (by omega), j + 1 + 1, by dsimp only; omega, by dsimp only; omega, ⟨rfl, rfl⟩, ⟨rfl, retI (by rw [pz_s _ _ (j + 1), e]; rfl), rfl, rfl, retI (by rw [e]; rfl), rfl, rfl, rfl, rfl, trivial⟩, rfl, trivial⟩
          · have h5' := Classical.not_not.1 h5
            have e : rz (kidsF xs 11 v) (j + 1 + 1) = rz (kidsF xs 11 v) (j + 1) + 1 := by rw [rz_s]; exact if_pos h5'
            refine ⟨_, rfl, ?_⟩
            exact ⟨((j + 1 + 1 : Nat) : Int), w64_eq (by omega) (by omega) (by omega), j + 1 + 1, by dsimp only; omega, by dsimp only; omega, ⟨rfl, rfl⟩, ⟨rfl, retI (by rw [pz_s _ _ (j + 1), e]), rfl, rfl, retI (by rw [e]), rfl, rfl, rfl, rfl, trivial⟩, rfl, trivial⟩
        · obtain rfl : k = 0 := by omega
          have e : rz (kidsF xs 11 v) (0 + 1) = rz (kidsF xs 11 v) 0 + 1 := by rw [rz_s]; split <;> rfl
          refine ⟨_, rfl, ?_⟩
          exact ⟨((0 + 1 : Nat) : Int), w64_eq (by omega) (by omega) (by omega), 0 + 1, by dsimp only; omega, by dsimp only; omega, ⟨rfl, rfl⟩, ⟨rfl, retI (by rw [pz_s, e]), rfl, rfl, retI (by rw [e]), rfl, rfl, rfl, rfl, trivial⟩, rfl, trivial⟩
      · obtain rfl : k = (kidsF xs 11 v).length := by omega
        exact ⟨((v + 1 : Nat) : Int), w64_eq (by omega) (by omega) (by omega), v + 1, by dsimp only; omega, by dsimp only; omega, ⟨rfl, rfl⟩, ⟨rfl, rfl, rfl, rfl, trivial⟩, trivial⟩
    · obtain rfl : v = xs.length := by omega
      exact ⟨none, ⟨retI (by rw [treeRen, if_pos h1]), trivial⟩, rfl, rfl⟩
  · exact ⟨none, ⟨retI (by rw [treeRen, if_neg (by rw [h1]; decide)]), trivial⟩, rfl, rfl⟩
end Go.Proofs.Ytcamhpknmbohnaa
