/-
  Contracts of the functions that code trees as texts.
-/
import Derived.Test.YtigebaejdghmmaaPlS0
import Derived.Test.YtigebaejdghmmaaWtree
import Derived.Test.YtigebaejdghmmaaWsort
import Derived.Test.YtigebaejdghmmaaWjoin
set_option linter.unusedVariables false
namespace Go.Proofs.Ytigebaejdghmmaa
open Go Go.Proofs.Ytigebaejdghmmaa.Ow
theorem retD {sh : Bool} {t : Ty} {b c : List t.T} (h : b = c) : (AV.d sh (.sl t) b) = .d sh (.sl t) c := by rw [h]
theorem kid_lt {xs : List Int} (hT : TreeP xs) {i at_ : Nat} (hi : i < xs.length) (e : xs.getD i 0 = (at_ : Int)) : at_ < i := by
  by_cases h0 : i = 0
  · subst h0
    have := hT.2.1; omega
  · have := hT.2.2 i (by omega) hi; omega
/-- impl.children -/
theorem impl_children (sh : Bool) (xs : List Int) (hl : xs.length ≤ 12) (b at_ : Nat)
    (ih : ∀ i, i < xs.length → xs.getD i 0 = (at_ : Int) → AC Try.prog 103 [.d sh (.sl .int) xs, I (i : Nat)] [] [.d true .str (codeF xs b i)] []) :
    AC Try.prog 141 [.d sh (.sl .int) xs, I (at_ : Nat)] [] [.ow 0] [.sl 9 .str (kidsF xs b at_)] := by
  refine AC_of tauOk 31 0 [4] Try.func141 rfl (by kernel_rfl) rfl rfl rfl rfl rfl ?_
  refine ⟨rfl, by decide, true, ?_⟩
  refine ⟨Nat, fun k => ⟨[(0, .d sh (.sl .int) xs), (1, I (at_ : Nat)), (5, .ow 0), (9, .d sh (.sl .int) xs), (10, I xs.length), (11, I (k : Nat))], [.sl 9 .str (kidsP xs b at_ k)]⟩, fun k => k ≤ xs.length, fun k => xs.length - k, 0, Nat.zero_le _,
    ⟨⟨rfl, rfl⟩, ⟨rfl, rfl, rfl, rfl, rfl, rfl, trivial⟩, rfl, trivial⟩, fun k hk => ?_⟩
  dsimp only at hk
  have hkl := kidsP_len xs b at_ k
  refine ⟨fun h1 => ?_, fun h1 => ?_⟩
  · have hk2 : k < xs.length := by omega
    refine ⟨k, rfl, hk2, fun h2 => ?_, fun h2 => ?_⟩
    · refine ⟨[], false, _, _, ih k hk2 h2, List.nodup_nil, rfl, rfl, trivial, ?_⟩
      refine ⟨rfl, by decide, false, ?_⟩
      refine ⟨rfl, Nat.zero_le _, rfl, by simp only [List.length_cons, List.length_nil]; omega, rfl, ?_⟩
      exact ⟨((k + 1 : Nat) : Int), w64_eq (by omega) (by omega) (by omega), k + 1, by dsimp only; omega, by dsimp only; omega, ⟨rfl, rfl⟩, ⟨rfl, rfl, rfl, rfl, rfl, rfl, trivial⟩, rowE (kidsP_yes xs b at_ k h2).symm, trivial⟩
    · exact ⟨((k + 1 : Nat) : Int), w64_eq (by omega) (by omega) (by omega), k + 1, by dsimp only; omega, by dsimp only; omega, ⟨rfl, rfl⟩, ⟨rfl, rfl, rfl, rfl, rfl, rfl, trivial⟩, rowE (kidsP_no xs b at_ k h2).symm, trivial⟩
  · obtain rfl : k = xs.length := by omega
    refine ⟨[0], false, _, _, slices_Sort_str 9 (kidsP xs b at_ xs.length) (by omega), by decide, rfl, rfl, ⟨⟨List.length_mergeSort _, rfl, rfl⟩, trivial⟩, ?_⟩
    refine ⟨[0], false, _, _, slices_Reverse_str 9 ((kidsP xs b at_ xs.length).mergeSort fun x y => decide (x ≤ y)) (by rw [List.length_mergeSort]; omega), by decide, rfl, rfl, ⟨⟨List.length_reverse, rfl, rfl⟩, trivial⟩, ?_⟩
    exact ⟨some 0, ⟨⟨rfl, rfl⟩, trivial⟩, ⟨rfl, rowsE (sortD_merge _)⟩, rfl⟩
/-- impl.codeOf -/
theorem impl_codeOf (sh : Bool) (xs : List Int) (hT : TreeP xs) : ∀ (b at_ : Nat), at_ < xs.length → xs.length - at_ ≤ b → b ≤ 12 → AC Try.prog 103 [.d sh (.sl .int) xs, I (at_ : Nat)] [] [.d true .str (codeF xs b at_)] []
  | 0, at_, h1, h2, _ => by omega
  | b + 1, at_, h1, h2, h3 => by
    have hl : xs.length ≤ 12 := hT.1.2
    have ih := impl_codeOf sh xs hT b
    have hj := kidsF_join xs hl b at_ (by omega)
    refine AC_of tauOk 11 0 [4] Try.func103 rfl (by kernel_rfl) rfl rfl rfl rfl rfl ?_
    refine ⟨[], false, _, _, impl_children sh xs hl b at_ (fun i hi e => ih i hi (by have := kid_lt hT hi e; omega) (by omega)), List.nodup_nil, rfl, rfl, trivial, ?_⟩
    refine ⟨[], false, _, _, impl_Join false (kidsF xs b at_) [] (by omega) (by omega), List.nodup_nil, rfl, rfl, trivial, ?_⟩
    refine ⟨by simp only [List.length_cons, List.length_nil]; omega, by simp only [List.length_append, List.length_cons, List.length_nil]; omega, ?_⟩
    exact ⟨none, ⟨retS (by rw [codeF_s]; rfl), trivial⟩, rfl, rfl⟩
theorem drop_take_self {α : Type} (l : List α) (k : Nat) : List.drop k (List.take l.length l) = l.drop k := by rw [List.take_length]
/-- spec.l12Children -/
theorem spec_l12Children (sh : Bool) (xs : List Int) (hl : xs.length ≤ 12) (b at_ : Nat) (h0 : xs.getD 0 0 = -1)
    (ih : ∀ i, i < xs.length → xs.getD i 0 = (at_ : Int) → AC Try.prog 122 [.d sh (.sl .int) xs, I (i : Nat)] [] [.d true .str (codeF xs b i)] []) :
    AC Try.prog 152 [.d sh (.sl .int) xs, I (at_ : Nat)] [] [.d true (.sl .str) (kidsF xs b at_)] [] := by
  refine AC_of tauOk 59 0 [4] Try.func152 rfl (by kernel_rfl) rfl rfl rfl rfl rfl ?_
  refine ⟨rfl, by decide, false, ?_⟩
  refine ⟨Nat, fun k => ⟨[(0, .d sh (.sl .int) xs), (1, I (at_ : Nat)), (5, .d true (.sl .str) (sortD (kidsP xs b at_ k))), (12, .d sh (.sl .int) xs), (13, I xs.length), (14, I (k : Nat))], []⟩, fun k => k ≤ xs.length, fun k => xs.length - k, 0, Nat.zero_le _,
    ⟨⟨rfl, rfl⟩, ⟨rfl, rfl, rfl, rfl, rfl, rfl, trivial⟩, trivial⟩, fun k hk => ?_⟩
  dsimp only at hk
  have hkl := kidsP_len xs b at_ k
  have hsl := sortD_len (kidsP xs b at_ k)
  refine ⟨fun h1 => ?_, fun h1 => ?_⟩
  · have hk2 : k < xs.length := by omega
    refine ⟨k, rfl, hk2, fun h2 => ?_, fun h2 => ?_⟩
    · exact ⟨((k + 1 : Nat) : Int), w64_eq (by omega) (by omega) (by omega), k + 1, by dsimp only; omega, by dsimp only; omega, ⟨rfl, rfl⟩, ⟨rfl, rfl, retD (by rw [kidsP_no xs b at_ k h2]), rfl, rfl, rfl, trivial⟩, trivial⟩
    · have h2' : xs.getD k 0 = (at_ : Int) := by omega
      refine ⟨fun h3 => ?_, fun h3 => ?_⟩
      · have : k = 0 := by omega
        subst this; omega
      refine ⟨[], false, _, _, ih k hk2 h2', List.nodup_nil, rfl, rfl, trivial, ?_⟩
      refine ⟨Nat, fun j => ⟨[(0, .d sh (.sl .int) xs), (1, I (at_ : Nat)), (5, .d true (.sl .str) (sortD (kidsP xs b at_ k))), (12, .d sh (.sl .int) xs), (13, I xs.length), (14, I (k : Nat)), (8, .d true .str (codeF xs b k)), (9, I (j : Nat))], []⟩,
        fun j => j ≤ (sortD (kidsP xs b at_ k)).length ∧ ∀ i, i < j → codeF xs b k ≤ (sortD (kidsP xs b at_ k)).getD i [], fun j => (sortD (kidsP xs b at_ k)).length - j, 0, ⟨Nat.zero_le _, fun i hi => by omega⟩,
        ⟨⟨rfl, rfl⟩, ⟨rfl, rfl, rfl, rfl, rfl, rfl, rfl, rfl, trivial⟩, trivial⟩, fun j ⟨hj, hall⟩ => ?_⟩
      have fin : (j < (sortD (kidsP xs b at_ k)).length → ¬ codeF xs b k ≤ (sortD (kidsP xs b at_ k)).getD j []) → sortD (kidsP xs b at_ (k + 1)) = (sortD (kidsP xs b at_ k)).take j ++ [codeF xs b k] ++ (sortD (kidsP xs b at_ k)).drop j := by
        intro h
        rw [kidsP_yes xs b at_ k h2', sortD_snoc]
        exact insD_eq _ _ j hj hall h
      refine ⟨fun h4 => ?_, fun h4 => ?_⟩
      · have hj2 : j < (sortD (kidsP xs b at_ k)).length := by omega
        refine ⟨j, rfl, hj2, fun h5 => ?_, fun h5 => ?_⟩
        · rw [Go.Proofs.bytesLess_eq] at h5
          refine ⟨((j + 1 : Nat) : Int), w64_eq (by omega) (by omega) (by omega), ?_⟩
          refine ⟨j + 1, ⟨by omega, fun i hi => ?_⟩, by dsimp only; omega, ⟨rfl, rfl⟩, ⟨rfl, rfl, rfl, rfl, rfl, rfl, rfl, rfl, trivial⟩, trivial⟩
          by_cases e : i = j
          · subst e; exact List.not_lt.1 (of_decide_eq_false h5)
          · exact hall i (by omega)
        · have h6 : j < (sortD (kidsP xs b at_ k)).length → ¬ codeF xs b k ≤ (sortD (kidsP xs b at_ k)).getD j [] := fun _ hle => h5 (by
            rw [Go.Proofs.bytesLess_eq]; exact decide_eq_false (List.not_lt.2 hle))
          have hX := fin h6
          refine ⟨rfl, by decide, true, ?_⟩
          refine ⟨j, rfl, Nat.zero_le _, hj, ?_⟩
          have hL : ((sortD (kidsP xs b at_ k)).take j).length ≤ 1048576 := by rw [List.length_take]; omega
          refine ⟨rfl, Nat.zero_le _, rfl, by simp only [List.length_nil, List.drop_zero]; omega, rfl, ?_⟩
          refine ⟨rfl, by decide, false, ?_⟩
          refine ⟨rfl, Nat.zero_le _, rfl, by simp only [List.nil_append, List.length_cons, List.length_nil, List.drop_zero]; omega, rfl, ?_⟩
          refine ⟨j, rfl, hj, Nat.le_refl _, ?_⟩
          refine ⟨rfl, Nat.zero_le _, rfl, by rw [drop_take_self]; simp only [List.nil_append, List.length_append, List.length_cons, List.length_nil, List.drop_zero, List.length_drop]; omega, rfl, ?_⟩
          exact ⟨((k + 1 : Nat) : Int), w64_eq (by omega) (by omega) (by omega), k + 1, by dsimp only; omega, by dsimp only; omega, ⟨rfl, rfl⟩, ⟨rfl, rfl, ⟨rfl, rfl, by rw [hX, drop_take_self]; simp⟩, rfl, rfl, rfl, trivial⟩, trivial⟩
      · have h6 : j < (sortD (kidsP xs b at_ k)).length → ¬ codeF xs b k ≤ (sortD (kidsP xs b at_ k)).getD j [] := fun h _ => by omega
        have hX := fin h6
        refine ⟨rfl, by decide, true, ?_⟩
        refine ⟨j, rfl, Nat.zero_le _, hj, ?_⟩
        have hL : ((sortD (kidsP xs b at_ k)).take j).length ≤ 1048576 := by rw [List.length_take]; omega
        refine ⟨rfl, Nat.zero_le _, rfl, by simp only [List.length_nil, List.drop_zero]; omega, rfl, ?_⟩
        refine ⟨rfl, by decide, false, ?_⟩
        refine ⟨rfl, Nat.zero_le _, rfl, by simp only [List.nil_append, List.length_cons, List.length_nil, List.drop_zero]; omega, rfl, ?_⟩
        refine ⟨j, rfl, hj, Nat.le_refl _, ?_⟩
        refine ⟨rfl, Nat.zero_le _, rfl, by rw [drop_take_self]; simp only [List.nil_append, List.length_append, List.length_cons, List.length_nil, List.drop_zero, List.length_drop]; omega, rfl, ?_⟩
        exact ⟨((k + 1 : Nat) : Int), w64_eq (by omega) (by omega) (by omega), k + 1, by dsimp only; omega, by dsimp only; omega, ⟨rfl, rfl⟩, ⟨rfl, rfl, ⟨rfl, rfl, by rw [hX, drop_take_self]; simp⟩, rfl, rfl, rfl, trivial⟩, trivial⟩
  · obtain rfl : k = xs.length := by omega
    exact ⟨none, ⟨rfl, trivial⟩, rfl, rfl⟩
/-- spec.l12Code -/
theorem spec_l12Code (sh : Bool) (xs : List Int) (hT : TreeP xs) : ∀ (b at_ : Nat), at_ < xs.length → xs.length - at_ ≤ b → b ≤ 12 → AC Try.prog 122 [.d sh (.sl .int) xs, I (at_ : Nat)] [] [.d true .str (codeF xs b at_)] []
  | 0, at_, h1, h2, _ => by omega
  | b + 1, at_, h1, h2, h3 => by
    have hl : xs.length ≤ 12 := hT.1.2
    have ih := spec_l12Code sh xs hT b
    have hj := kidsF_join xs hl b at_ (by omega)
    refine AC_of tauOk 11 0 [4] Try.func122 rfl (by kernel_rfl) rfl rfl rfl rfl rfl ?_
    refine ⟨[], false, _, _, spec_l12Children sh xs hl b at_ hT.2.1 (fun i hi e => ih i hi (by have := kid_lt hT hi e; omega) (by omega)), List.nodup_nil, rfl, rfl, trivial, ?_⟩
    refine ⟨[], false, _, _, spec_Join true (kidsF xs b at_) [] (by omega) (by omega), List.nodup_nil, rfl, rfl, trivial, ?_⟩
    refine ⟨by simp only [List.length_cons, List.length_nil]; omega, by simp only [List.length_append, List.length_cons, List.length_nil]; omega, ?_⟩
    exact ⟨none, ⟨retS (by rw [codeF_s]; rfl), trivial⟩, rfl, rfl⟩
theorem treeCode_len (xs : List Int) : (treeCode xs).length ≤ 70368744177664 := by
  unfold treeCode
  split
  · rename_i h
    have h1 := ((treeB_iff xs).1 h).1.2
    have h2 := codeF_len xs h1 12 0
    omega
  · simp
/-- impl.TreeCode -/
theorem impl_TreeCode (sh : Bool) (xs : List Int) (hl : xs.length ≤ 1048576) : AC Try.prog 49 [.d sh (.sl .int) xs] [] [.d true .str (treeCode xs)] [] := by
  refine AC_of tauOk 8 0 [2] Try.func49 rfl (by kernel_rfl) rfl rfl rfl rfl rfl ?_
  refine ⟨[], false, _, _, impl_TreeOk sh xs hl, List.nodup_nil, rfl, rfl, trivial, fun h1 => ?_, fun h1 => ?_⟩
  · have hT := (treeB_iff xs).1 h1
    refine ⟨[], false, _, _, impl_codeOf sh xs hT 12 0 hT.1.1 (by have := hT.1.2; omega) (by decide), List.nodup_nil, rfl, rfl, trivial, ?_⟩
    exact ⟨none, ⟨retS (by rw [treeCode, if_pos h1]), trivial⟩, rfl, rfl⟩
  · exact ⟨none, ⟨retS (by rw [treeCode, if_neg (by rw [h1]; decide)]), trivial⟩, rfl, rfl⟩
/-- impl.SameTree -/
theorem impl_SameTree (sh sh2 : Bool) (xs ys : List Int) (hl : xs.length ≤ 1048576) (hl2 : ys.length ≤ 1048576) : AC Try.prog 51 [.d sh (.sl .int) xs, .d sh2 (.sl .int) ys] [] [.d true .bool (sameB xs ys)] [] := by
  refine AC_of tauOk 18 0 [4] Try.func51 rfl (by kernel_rfl) rfl rfl rfl rfl rfl ?_
  refine ⟨[], false, _, _, impl_TreeOk sh xs hl, List.nodup_nil, rfl, rfl, trivial, fun h1 => ?_, fun h1 => ?_⟩
  · refine ⟨[], false, _, _, impl_TreeOk sh2 ys hl2, List.nodup_nil, rfl, rfl, trivial, fun h2 => ?_, fun h2 => ?_⟩
    · refine ⟨[], false, _, _, impl_TreeCode sh xs hl, List.nodup_nil, rfl, rfl, trivial, [], false, _, _, impl_TreeCode sh2 ys hl2, List.nodup_nil, rfl, rfl, trivial, fun h3 => ?_, fun h3 => ?_⟩
      · exact ⟨none, ⟨retB (by rw [sameB, h1, h2, h3]; simp), trivial⟩, rfl, rfl⟩
      · exact ⟨none, ⟨retB (by rw [sameB, h1, h2, decide_eq_false h3]; rfl), trivial⟩, rfl, rfl⟩
    · exact ⟨none, ⟨retB (by rw [sameB, h1, h2]; rfl), trivial⟩, rfl, rfl⟩
  · exact ⟨none, ⟨retB (by rw [sameB, h1]; rfl), trivial⟩, rfl, rfl⟩

end Go.Proofs.Ytigebaejdghmmaa
