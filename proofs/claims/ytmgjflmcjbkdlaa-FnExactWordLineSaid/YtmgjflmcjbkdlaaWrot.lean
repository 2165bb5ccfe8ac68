/-
  Contracts of the functions on rotated words, and the line about a word.
-/
import Derived.Test.YtmgjflmcjbkdlaaWlst
import Derived.Test.YtmgjflmcjbkdlaaWfws
set_option linter.unusedVariables false
namespace Go.Proofs.Ytmgjflmcjbkdlaa
open Go Go.Proofs.Ytmgjflmcjbkdlaa.Ow
/-- impl.rotated -/
theorem impl_rotated (sh : Bool) (xs : List Int) (k : Nat) (hl : xs.length ≤ 1048576) (hk : k < xs.length) : AC Try.prog 107 [.d sh (.sl .int) xs, I (k : Nat)] [] [.ow 0] [.sl 3 .int (rot xs k)] := by
  have hd : List.drop k (List.take xs.length xs) = xs.drop k := by rw [List.take_length]
  have h1 : (List.drop k (List.take xs.length xs)).length = xs.length - k := by rw [hd, List.length_drop]
  have h2 : (List.drop 0 (List.take k xs)).length ≤ k := by rw [List.drop_zero, List.length_take]; omega
  cases sh <;> (
  refine AC_of tauOk 13 0 [4] Try.func107 rfl (by kernel_rfl) rfl rfl rfl rfl rfl ?_
  refine ⟨some 1000, [0, 1, 2, 4, 5, 6], [3, 7, 8], by kernel_rfl, ?_⟩
  refine ⟨k, rfl, Nat.le_of_lt hk, Nat.le_refl _, ?_⟩
  refine ⟨k, rfl, Nat.zero_le _, Nat.le_of_lt hk, ?_⟩
  refine ⟨[], false, _, _, slices_Clone_int _ (List.drop k (List.take xs.length xs)) (by omega) (by intro e; rw [e] at h1; simp only [List.length_nil] at h1; omega), List.nodup_nil, rfl, rfl, trivial, ?_⟩
  refine ⟨rfl, Nat.zero_le _, rfl, by dsimp only; omega, rfl, ?_⟩
  exact ⟨some 0, ⟨⟨rfl, rfl⟩, trivial⟩, ⟨rfl, rowsE (by rw [hd]; rfl)⟩, rfl⟩)
/-- impl.LeastRotation of a coloring -/
theorem impl_LeastRotation (sh : Bool) (xs : List Int) (hP : ColP xs) : AC Try.prog 67 [.d sh (.sl .int) xs] [] [.ow 0, I (bestR xs xs.length : Nat), .d true .bool true] [.sl 3 .int (least xs)] := by
  have hn := hP.2
  have hl : xs.length ≤ 1048576 := by omega
  refine AC_of tauOk 29 0 [2, 3, 4] Try.func67 rfl (by kernel_rfl) rfl rfl rfl rfl rfl ?_
  refine ⟨[], false, _, _, impl_ColoringOk sh xs hl, List.nodup_nil, rfl, rfl, trivial, fun h1 => ?_, fun h1 => by rw [(colB_iff xs).2 hP] at h1; cases h1⟩
  refine ⟨Nat, fun k => ⟨[(0, .d sh (.sl .int) xs), (5, I (bestR xs k : Nat)), (11, I xs.length), (12, I (k : Nat))], []⟩, fun k => k ≤ xs.length, fun k => xs.length - k, 0, Nat.zero_le _,
    ⟨⟨rfl, rfl⟩, ⟨rfl, rfl, rfl, rfl, trivial⟩, trivial⟩, fun k hk => ?_⟩
  dsimp only at hk
  have hb : k = 0 ∨ bestR xs k < k := by
    by_cases h : k = 0
    · exact .inl h
    · exact .inr (bestR_lt xs k (by omega))
  have hb0 : bestR xs 0 = 0 := rfl
  refine ⟨fun h2 => ?_, fun h2 => ?_⟩
  · have hk2 : k < xs.length := by omega
    have hbk : bestR xs k < xs.length := by
      rcases hb with h | h
      · rw [h, hb0]; omega
      · omega
    have hr1 := rot_len xs k (by omega)
    have hr2 := rot_len xs (bestR xs k) (by omega)
    refine ⟨[], true, _, _, impl_rotated sh xs k hl hk2, List.nodup_nil, rfl, rfl, trivial, [], true, _, _, impl_rotated sh xs (bestR xs k) hl (by omega), List.nodup_nil, rfl, rfl, trivial, ?_⟩
    refine ⟨[], false, _, _, slices_Compare_int true true (rot xs k) (rot xs (bestR xs k)) (by omega) (by omega), List.nodup_nil, rfl, rfl, trivial, fun h2 => ?_, fun h2 => ?_⟩
    · have e : bestR xs (k + 1) = k := by rw [bestR, if_pos (h2)]
      exact ⟨((k + 1 : Nat) : Int), w64_eq (by omega) (by omega) (by omega), k + 1, by dsimp only; omega, by dsimp only; omega, ⟨rfl, rfl⟩, ⟨rfl, retI (by rw [e]), rfl, rfl, trivial⟩, trivial⟩
    · have e : bestR xs (k + 1) = bestR xs k := by rw [bestR, if_neg (h2)]
      exact ⟨((k + 1 : Nat) : Int), w64_eq (by omega) (by omega) (by omega), k + 1, by dsimp only; omega, by dsimp only; omega, ⟨rfl, rfl⟩, ⟨rfl, retI (by rw [e]), rfl, rfl, trivial⟩, trivial⟩
  · obtain rfl : k = xs.length := by omega
    refine ⟨[], false, _, _, impl_rotated sh xs (bestR xs xs.length) hl (bestR_lt xs _ (by omega)), List.nodup_nil, rfl, rfl, trivial, ?_⟩
    exact ⟨some 0, ⟨⟨rfl, rfl⟩, rfl, rfl, trivial⟩, ⟨rfl, rfl⟩, rfl⟩
theorem impl_LeastRotation_no (sh : Bool) (xs : List Int) (hl : xs.length ≤ 1048576) (hP : colB xs = false) : AC Try.prog 67 [.d sh (.sl .int) xs] [] [.nil, I 0, .d true .bool false] [] := by
  refine AC_of tauOk 29 0 [2, 3, 4] Try.func67 rfl (by kernel_rfl) rfl rfl rfl rfl rfl ?_
  refine ⟨[], false, _, _, impl_ColoringOk sh xs hl, List.nodup_nil, rfl, rfl, trivial, fun h1 => (by rw [hP] at h1; cases h1), fun h1 => ?_⟩
  exact ⟨none, ⟨rfl, rfl, rfl, trivial⟩, rfl, rfl⟩
/-- impl.IsNecklace of a coloring -/
theorem impl_IsNecklace (sh : Bool) (xs : List Int) (hP : ColP xs) : AC Try.prog 109 [.d sh (.sl .int) xs] [] [.d true .bool (decide (least xs = xs))] [] := by
  have hn := hP.2
  have hle := least_len xs (by omega)
  refine AC_of tauOk 18 0 [2] Try.func109 rfl (by kernel_rfl) rfl rfl rfl rfl rfl ?_
  refine ⟨[], true, _, _, impl_LeastRotation sh xs hP, List.nodup_nil, rfl, rfl, trivial, fun _ => ?_, nofun⟩
  refine ⟨[], false, _, _, slices_Equal_int true sh (least xs) xs (by omega) (by omega), List.nodup_nil, rfl, rfl, trivial, fun h => ?_, fun h => ?_⟩
  · exact ⟨none, ⟨retB h, trivial⟩, rfl, rfl⟩
  · exact ⟨none, ⟨retB h, trivial⟩, rfl, rfl⟩
/-- impl.PeriodOf of a coloring -/
theorem impl_PeriodOf (sh : Bool) (xs : List Int) (hP : ColP xs) : AC Try.prog 71 [.d sh (.sl .int) xs] [] [I (perW xs : Nat)] [] := by
  have hn := hP.2
  have hl : xs.length ≤ 1048576 := by omega
  refine AC_of tauOk 28 0 [2] Try.func71 rfl (by kernel_rfl) rfl rfl rfl rfl rfl ?_
  refine ⟨[], false, _, _, impl_ColoringOk sh xs hl, List.nodup_nil, rfl, rfl, trivial, fun h1 => ?_, fun h1 => by rw [(colB_iff xs).2 hP] at h1; cases h1⟩
  refine ⟨Nat, fun k => ⟨[(0, .d sh (.sl .int) xs), (3, I (k : Nat))], []⟩, fun k => 1 ≤ k ∧ k ≤ xs.length ∧ perF xs k (xs.length - k) = perW xs, fun k => xs.length - k, 1, ⟨Nat.le_refl _, by omega, rfl⟩,
    ⟨⟨rfl, rfl⟩, ⟨rfl, rfl, trivial⟩, trivial⟩, fun k ⟨hk1, hk, hp⟩ => ?_⟩
  refine ⟨fun h2 => ?_, fun h2 => ?_⟩
  · have hk2 : k < xs.length := by omega
    have hr := rot_len xs k (by omega)
    obtain ⟨f, hf⟩ : ∃ f, xs.length - k = f + 1 := ⟨xs.length - k - 1, by omega⟩
    have hf2 : xs.length - (k + 1) = f := by omega
    rw [hf, perF] at hp
    have hm : ((xs.length : Nat) : Int).tmod (k : Nat) = ((xs.length % k : Nat) : Int) := Int.ofNat_tmod _ _
    have next : ¬ (xs.length % k = 0 ∧ rot xs k = xs) → perF xs (k + 1) (xs.length - (k + 1)) = perW xs := fun h => by rw [if_neg h] at hp; rw [hf2]; exact hp
    refine ⟨by omega, _, rfl, fun h3 => ?_, fun h3 => ?_⟩
    · rw [hm] at h3
      refine ⟨[], true, _, _, impl_rotated sh xs k hl hk2, List.nodup_nil, rfl, rfl, trivial, [], false, _, _, slices_Equal_int true sh (rot xs k) xs (by omega) hl, List.nodup_nil, rfl, rfl, trivial, fun h4 => ?_, fun h4 => ?_⟩
      · exact ⟨none, ⟨retI (by rw [← hp, if_pos ⟨by omega, of_decide_eq_true h4⟩]), trivial⟩, rfl, rfl⟩
      · exact ⟨((k + 1 : Nat) : Int), w64_eq (by omega) (by omega) (by omega), k + 1, ⟨by omega, by omega, next fun e => of_decide_eq_false h4 e.2⟩, by dsimp only; omega, ⟨rfl, rfl⟩, ⟨rfl, rfl, trivial⟩, trivial⟩
    · rw [hm] at h3
      exact ⟨((k + 1 : Nat) : Int), w64_eq (by omega) (by omega) (by omega), k + 1, ⟨by omega, by omega, next fun e => h3 (by omega)⟩, by dsimp only; omega, ⟨rfl, rfl⟩, ⟨rfl, rfl, trivial⟩, trivial⟩
  · obtain rfl : k = xs.length := by omega
    rw [Nat.sub_self] at hp
    exact ⟨none, ⟨retI (by rw [← hp]; rfl), trivial⟩, rfl, rfl⟩
/-- impl.mirror -/
theorem impl_mirror (sh : Bool) (xs : List Int) (hl : xs.length ≤ 1048576) (h0 : xs ≠ []) : AC Try.prog 108 [.d sh (.sl .int) xs] [] [.ow 0] [.sl 3 .int xs.reverse] := by
  refine AC_of tauOk 9 0 [2] Try.func108 rfl (by kernel_rfl) rfl rfl rfl rfl rfl ?_
  refine ⟨[], false, _, _, slices_Clone_int sh xs hl h0, List.nodup_nil, rfl, rfl, trivial, ?_⟩
  refine ⟨[0], false, _, _, slices_Reverse_int 3 xs hl, by decide, rfl, rfl, ⟨⟨List.length_reverse, rfl, rfl⟩, trivial⟩, ?_⟩
  exact ⟨some 0, ⟨⟨rfl, rfl⟩, trivial⟩, ⟨rfl, rfl⟩, rfl⟩
/-- impl.IsMirrored of a coloring -/
theorem impl_IsMirrored (sh : Bool) (xs : List Int) (hP : ColP xs) : AC Try.prog 68 [.d sh (.sl .int) xs] [] [.d true .bool (decide (least xs = least xs.reverse))] [] := by
  have hn := hP.2
  have hP2 := colP_rev hP
  have hle := least_len xs (by omega)
  have hle2 := least_len xs.reverse (by rw [List.length_reverse]; omega)
  rw [List.length_reverse] at hle2
  refine AC_of tauOk 27 0 [2] Try.func68 rfl (by kernel_rfl) rfl rfl rfl rfl rfl ?_
  refine ⟨[], true, _, _, impl_LeastRotation sh xs hP, List.nodup_nil, rfl, rfl, trivial, fun _ => ?_, nofun⟩
  refine ⟨[], true, _, _, impl_mirror sh xs (by omega) (by intro e; rw [e] at hn; simp at hn), List.nodup_nil, rfl, rfl, trivial, ?_⟩
  refine ⟨[], true, _, _, impl_LeastRotation true xs.reverse hP2, List.nodup_nil, rfl, rfl, trivial, fun _ => ?_, nofun⟩
  refine ⟨[], false, _, _, slices_Equal_int true true (least xs) (least xs.reverse) (by omega) (by omega), List.nodup_nil, rfl, rfl, trivial, fun h => ?_, fun h => ?_⟩
  · exact ⟨none, ⟨retB h, trivial⟩, rfl, rfl⟩
  · exact ⟨none, ⟨retB h, trivial⟩, rfl, rfl⟩
/-- impl.IsLyndon of a coloring -/
theorem impl_IsLyndon (sh : Bool) (xs : List Int) (hP : ColP xs) : AC Try.prog 69 [.d sh (.sl .int) xs] [] [.d true .bool (decide (least xs = xs ∧ perW xs = xs.length))] [] := by
  refine AC_of tauOk 12 0 [2] Try.func69 rfl (by kernel_rfl) rfl rfl rfl rfl rfl ?_
  refine ⟨[], false, _, _, impl_IsNecklace sh xs hP, List.nodup_nil, rfl, rfl, trivial, fun h => ?_, fun h => ?_⟩
  · refine ⟨[], false, _, _, impl_PeriodOf sh xs hP, List.nodup_nil, rfl, rfl, trivial, fun h2 => ?_, fun h2 => ?_⟩
    · exact ⟨none, ⟨retB (decide_eq_true ⟨of_decide_eq_true h, by omega⟩), trivial⟩, rfl, rfl⟩
    · exact ⟨none, ⟨retB (decide_eq_false (fun e => h2 (by rw [e.2]))), trivial⟩, rfl, rfl⟩
  · exact ⟨none, ⟨retB (decide_eq_false (fun e => of_decide_eq_false h e.1)), trivial⟩, rfl, rfl⟩
/-- impl.WordLine -/
theorem impl_WordLine (sh : Bool) (xs : List Int) (hl : xs.length ≤ 1048576) : AC Try.prog 30 [.d sh (.sl .int) xs] [] [.d true .str (wordLine xs)] [] := by
  cases hc : colB xs
  · refine AC_of tauOk 29 0 [2] Try.func30 rfl (by kernel_rfl) rfl rfl rfl rfl rfl ?_
    refine ⟨[], true, _, _, impl_LeastRotation_no sh xs hl hc, List.nodup_nil, rfl, rfl, trivial, nofun, fun _ => ?_⟩
    exact ⟨none, ⟨retS (by rw [wordLine, if_neg (by rw [hc]; decide)]), trivial⟩, rfl, rfl⟩
  · have hP := (colB_iff xs).1 hc
    have hn := hP.2
    have hP2 : ColP (least xs) := colP_rot hP _ (Nat.le_of_lt (bestR_lt xs _ (by omega)))
    have hle := least_len xs (by omega)
    have hper := perW_le xs (by omega)
    have hfw := fmtN_len64 (perW xs) (by omega)
    have hfo := formatW_len (least xs)
    have hw : wordLine xs = formatW (least xs) ++ [32, 112, 101, 114, 105, 111, 100, 32] ++ fmtN (perW xs) ++ [32] ++ kindW xs := by rw [wordLine, if_pos hc]
    refine AC_of tauOk 29 0 [2] Try.func30 rfl (by kernel_rfl) rfl rfl rfl rfl rfl ?_
    refine ⟨[], true, _, _, impl_LeastRotation sh xs hP, List.nodup_nil, rfl, rfl, trivial, fun _ => ?_, nofun⟩
    refine ⟨[], false, _, _, impl_IsMirrored sh xs hP, List.nodup_nil, rfl, rfl, trivial, fun h1 => ?_, fun h1 => ?_⟩
    · have e : kindW xs = [109, 105, 114, 114, 111, 114, 101, 100] := by rw [kindW, if_pos (of_decide_eq_true h1)]
      refine ⟨[], false, _, _, impl_FormatWord true (least xs) (colP_in hP2) (by omega), List.nodup_nil, rfl, rfl, trivial, ?_⟩
      refine ⟨by simp only [List.length_cons, List.length_nil]; omega, ?_⟩
      refine ⟨[], false, _, _, impl_PeriodOf sh xs hP, List.nodup_nil, rfl, rfl, trivial, ?_⟩
      refine ⟨[], false, _, _, impl_FormatInt_nat (perW xs + 1) (perW xs) (by omega) (by omega), List.nodup_nil, rfl, rfl, trivial, ?_⟩
      refine ⟨by simp only [List.length_append, List.length_cons, List.length_nil]; omega, by simp only [List.length_append, List.length_cons, List.length_nil]; omega, by simp only [List.length_append, List.length_cons, List.length_nil]; omega, ?_⟩
      exact ⟨none, ⟨retS (by rw [hw, e]), trivial⟩, rfl, rfl⟩
    · have h1' := of_decide_eq_false h1
      refine ⟨[], false, _, _, impl_IsLyndon true (least xs) hP2, List.nodup_nil, rfl, rfl, trivial, fun h2 => ?_, fun h2 => ?_⟩
      · have e : kindW xs = [108, 121, 110, 100, 111, 110] := by rw [kindW, if_neg h1', if_pos (of_decide_eq_true h2)]
        refine ⟨[], false, _, _, impl_FormatWord true (least xs) (colP_in hP2) (by omega), List.nodup_nil, rfl, rfl, trivial, ?_⟩
        refine ⟨by simp only [List.length_cons, List.length_nil]; omega, ?_⟩
        refine ⟨[], false, _, _, impl_PeriodOf sh xs hP, List.nodup_nil, rfl, rfl, trivial, ?_⟩
        refine ⟨[], false, _, _, impl_FormatInt_nat (perW xs + 1) (perW xs) (by omega) (by omega), List.nodup_nil, rfl, rfl, trivial, ?_⟩
        refine ⟨by simp only [List.length_append, List.length_cons, List.length_nil]; omega, by simp only [List.length_append, List.length_cons, List.length_nil]; omega, by simp only [List.length_append, List.length_cons, List.length_nil]; omega, ?_⟩
        exact ⟨none, ⟨retS (by rw [hw, e]), trivial⟩, rfl, rfl⟩
      · have e : kindW xs = [112, 108, 97, 105, 110] := by rw [kindW, if_neg h1', if_neg (of_decide_eq_false h2)]
        refine ⟨[], false, _, _, impl_FormatWord true (least xs) (colP_in hP2) (by omega), List.nodup_nil, rfl, rfl, trivial, ?_⟩
        refine ⟨by simp only [List.length_cons, List.length_nil]; omega, ?_⟩
        refine ⟨[], false, _, _, impl_PeriodOf sh xs hP, List.nodup_nil, rfl, rfl, trivial, ?_⟩
        refine ⟨[], false, _, _, impl_FormatInt_nat (perW xs + 1) (perW xs) (by omega) (by omega), List.nodup_nil, rfl, rfl, trivial, ?_⟩
        refine ⟨by simp only [List.length_append, List.length_cons, List.length_nil]; omega, by simp only [List.length_append, List.length_cons, List.length_nil]; omega, by simp only [List.length_append, List.length_cons, List.length_nil]; omega, ?_⟩
        exact ⟨none, ⟨retS (by rw [hw, e]), trivial⟩, rfl, rfl⟩
/-- spec.l07Rotate -/
theorem spec_l07Rotate (sh : Bool) (xs : List Int) (k : Nat) (hl : xs.length ≤ 1048576) (hk : k < xs.length) : AC Try.prog 103 [.d sh (.sl .int) xs, I (k : Nat)] [] [.ow 0] [.sl 3 .int (rot xs k)] := by
  have hd : List.drop k (List.take xs.length xs) = xs.drop k := by rw [List.take_length]
  have h1 : (List.drop k (List.take xs.length xs)).length = xs.length - k := by rw [hd, List.length_drop]
  have h2 : (List.drop 0 (List.take k xs)).length ≤ k := by rw [List.drop_zero, List.length_take]; omega
  cases sh <;> (
  refine AC_of tauOk 14 0 [4] Try.func103 rfl (by kernel_rfl) rfl rfl rfl rfl rfl ?_
  refine ⟨some 1000, [1, 2, 3, 5, 6, 7], [0, 4, 8, 9], by kernel_rfl, ?_⟩
  refine ⟨k, rfl, Nat.le_of_lt hk, Nat.le_refl _, ?_⟩
  refine ⟨k, rfl, Nat.zero_le _, Nat.le_of_lt hk, ?_⟩
  refine ⟨rfl, by decide, true, ?_⟩
  refine ⟨rfl, Nat.zero_le _, rfl, by simp only [List.length_nil]; omega, rfl, ?_⟩
  refine ⟨rfl, Nat.zero_le _, rfl, by simp only [List.nil_append]; omega, rfl, ?_⟩
  exact ⟨some 0, ⟨⟨rfl, rfl⟩, trivial⟩, ⟨rfl, rowsE (by rw [hd]; rfl)⟩, rfl⟩)
/-- spec.LeastRotation of a coloring -/
theorem spec_LeastRotation (sh : Bool) (xs : List Int) (hP : ColP xs) : AC Try.prog 63 [.d sh (.sl .int) xs] [] [.ow 0, I (bestR xs xs.length : Nat), .d true .bool true] [.sl 3 .int (least xs)] := by
  have hn := hP.2
  have hl : xs.length ≤ 1048576 := by omega
  refine AC_of tauOk 28 0 [2, 3, 4] Try.func63 rfl (by kernel_rfl) rfl rfl rfl rfl rfl ?_
  refine ⟨[], false, _, _, spec_ColoringOk sh xs hl, List.nodup_nil, rfl, rfl, trivial, fun h1 => ?_, fun h1 => by rw [(colB_iff xs).2 hP] at h1; cases h1⟩
  refine ⟨Nat, fun k => ⟨[(0, .d sh (.sl .int) xs), (5, I (bestR xs k : Nat)), (11, I xs.length), (12, I (k : Nat))], []⟩, fun k => k ≤ xs.length, fun k => xs.length - k, 0, Nat.zero_le _,
    ⟨⟨rfl, rfl⟩, ⟨rfl, rfl, rfl, rfl, trivial⟩, trivial⟩, fun k hk => ?_⟩
  dsimp only at hk
  have hb : k = 0 ∨ bestR xs k < k := by
    by_cases h : k = 0
    · exact .inl h
    · exact .inr (bestR_lt xs k (by omega))
  have hb0 : bestR xs 0 = 0 := rfl
  refine ⟨fun h2 => ?_, fun h2 => ?_⟩
  · have hk2 : k < xs.length := by omega
    have hbk : bestR xs k < xs.length := by
      rcases hb with h | h
      · rw [h, hb0]; omega
      · omega
    have hr1 := rot_len xs k (by omega)
    have hr2 := rot_len xs (bestR xs k) (by omega)
    refine ⟨[], true, _, _, spec_l07Rotate sh xs k hl hk2, List.nodup_nil, rfl, rfl, trivial, [], true, _, _, spec_l07Rotate sh xs (bestR xs k) hl (by omega), List.nodup_nil, rfl, rfl, trivial, ?_⟩
    refine ⟨[], false, _, _, spec_l03Less true true (rot xs k) (rot xs (bestR xs k)) (by omega) (by omega), List.nodup_nil, rfl, rfl, trivial, fun h2 => ?_, fun h2 => ?_⟩
    · have e : bestR xs (k + 1) = k := by rw [bestR, if_pos (of_decide_eq_true h2)]
      exact ⟨((k + 1 : Nat) : Int), w64_eq (by omega) (by omega) (by omega), k + 1, by dsimp only; omega, by dsimp only; omega, ⟨rfl, rfl⟩, ⟨rfl, retI (by rw [e]), rfl, rfl, trivial⟩, trivial⟩
    · have e : bestR xs (k + 1) = bestR xs k := by rw [bestR, if_neg (of_decide_eq_false h2)]
      exact ⟨((k + 1 : Nat) : Int), w64_eq (by omega) (by omega) (by omega), k + 1, by dsimp only; omega, by dsimp only; omega, ⟨rfl, rfl⟩, ⟨rfl, retI (by rw [e]), rfl, rfl, trivial⟩, trivial⟩
  · obtain rfl : k = xs.length := by omega
    refine ⟨[], false, _, _, spec_l07Rotate sh xs (bestR xs xs.length) hl (bestR_lt xs _ (by omega)), List.nodup_nil, rfl, rfl, trivial, ?_⟩
    exact ⟨some 0, ⟨⟨rfl, rfl⟩, rfl, rfl, trivial⟩, ⟨rfl, rfl⟩, rfl⟩
theorem spec_LeastRotation_no (sh : Bool) (xs : List Int) (hl : xs.length ≤ 1048576) (hP : colB xs = false) : AC Try.prog 63 [.d sh (.sl .int) xs] [] [.nil, I 0, .d true .bool false] [] := by
  refine AC_of tauOk 28 0 [2, 3, 4] Try.func63 rfl (by kernel_rfl) rfl rfl rfl rfl rfl ?_
  refine ⟨[], false, _, _, spec_ColoringOk sh xs hl, List.nodup_nil, rfl, rfl, trivial, fun h1 => (by rw [hP] at h1; cases h1), fun h1 => ?_⟩
  exact ⟨none, ⟨rfl, rfl, rfl, trivial⟩, rfl, rfl⟩
/-- spec.IsNecklace of a coloring -/
theorem spec_IsNecklace (sh : Bool) (xs : List Int) (hP : ColP xs) : AC Try.prog 105 [.d sh (.sl .int) xs] [] [.d true .bool (decide (least xs = xs))] [] := by
  refine AC_of tauOk 17 0 [2] Try.func105 rfl (by kernel_rfl) rfl rfl rfl rfl rfl ?_
  refine ⟨[], true, _, _, spec_LeastRotation sh xs hP, List.nodup_nil, rfl, rfl, trivial, fun _ => ?_, nofun⟩
  refine ⟨fun h => ?_, fun h => ?_⟩
  · exact ⟨none, ⟨retB (decide_eq_true ((least_iff xs).2 (by omega))), trivial⟩, rfl, rfl⟩
  · exact ⟨none, ⟨retB (decide_eq_false (fun e => h (by have := (least_iff xs).1 e; omega))), trivial⟩, rfl, rfl⟩
/-- spec.PeriodOf of a coloring -/
theorem spec_PeriodOf (sh : Bool) (xs : List Int) (hP : ColP xs) : AC Try.prog 66 [.d sh (.sl .int) xs] [] [I (perW xs : Nat)] [] := by
  have hn := hP.2
  have hl : xs.length ≤ 1048576 := by omega
  refine AC_of tauOk 28 0 [2] Try.func66 rfl (by kernel_rfl) rfl rfl rfl rfl rfl ?_
  refine ⟨[], false, _, _, spec_ColoringOk sh xs hl, List.nodup_nil, rfl, rfl, trivial, fun h1 => ?_, fun h1 => by rw [(colB_iff xs).2 hP] at h1; cases h1⟩
  refine ⟨Nat, fun k => ⟨[(0, .d sh (.sl .int) xs), (3, I (k : Nat))], []⟩, fun k => 1 ≤ k ∧ k ≤ xs.length ∧ perF xs k (xs.length - k) = perW xs, fun k => xs.length - k, 1, ⟨Nat.le_refl _, by omega, rfl⟩,
    ⟨⟨rfl, rfl⟩, ⟨rfl, rfl, trivial⟩, trivial⟩, fun k ⟨hk1, hk, hp⟩ => ?_⟩
  refine ⟨fun h2 => ?_, fun h2 => ?_⟩
  · have hk2 : k < xs.length := by omega
    have hr := rot_len xs k (by omega)
    obtain ⟨f, hf⟩ : ∃ f, xs.length - k = f + 1 := ⟨xs.length - k - 1, by omega⟩
    have hf2 : xs.length - (k + 1) = f := by omega
    rw [hf, perF] at hp
    have hm : ((xs.length : Nat) : Int).tmod (k : Nat) = ((xs.length % k : Nat) : Int) := Int.ofNat_tmod _ _
    have next : ¬ (xs.length % k = 0 ∧ rot xs k = xs) → perF xs (k + 1) (xs.length - (k + 1)) = perW xs := fun h => by rw [if_neg h] at hp; rw [hf2]; exact hp
    refine ⟨by omega, _, rfl, fun h3 => ?_, fun h3 => ?_⟩
    · rw [hm] at h3
      refine ⟨[], true, _, _, spec_l07Rotate sh xs k hl hk2, List.nodup_nil, rfl, rfl, trivial, [], false, _, _, spec_l03Same true sh (rot xs k) xs (by omega) hl, List.nodup_nil, rfl, rfl, trivial, fun h4 => ?_, fun h4 => ?_⟩
      · exact ⟨none, ⟨retI (by rw [← hp, if_pos ⟨by omega, of_decide_eq_true h4⟩]), trivial⟩, rfl, rfl⟩
      · exact ⟨((k + 1 : Nat) : Int), w64_eq (by omega) (by omega) (by omega), k + 1, ⟨by omega, by omega, next fun e => of_decide_eq_false h4 e.2⟩, by dsimp only; omega, ⟨rfl, rfl⟩, ⟨rfl, rfl, trivial⟩, trivial⟩
    · rw [hm] at h3
      exact ⟨((k + 1 : Nat) : Int), w64_eq (by omega) (by omega) (by omega), k + 1, ⟨by omega, by omega, next fun e => h3 (by omega)⟩, by dsimp only; omega, ⟨rfl, rfl⟩, ⟨rfl, rfl, trivial⟩, trivial⟩
  · obtain rfl : k = xs.length := by omega
    rw [Nat.sub_self] at hp
    exact ⟨none, ⟨retI (by rw [← hp]; rfl), trivial⟩, rfl, rfl⟩
theorem rev_step (xs : List Int) (k : Nat) (h : k < xs.length) : (xs.drop (k + 1)).reverse ++ [xs.getD k 0] = (xs.drop k).reverse := by
  rw [List.drop_eq_getElem_cons h, List.reverse_cons, getD_get _ _ _ h]
/-- spec.l09Mirror -/
theorem spec_l09Mirror (sh : Bool) (xs : List Int) (hl : xs.length ≤ 1048576) : AC Try.prog 104 [.d sh (.sl .int) xs] [] [.ow 0] [.sl 3 .int xs.reverse] := by
  refine AC_of tauOk 21 0 [2] Try.func104 rfl (by kernel_rfl) rfl rfl rfl rfl rfl ?_
  refine ⟨rfl, by decide, true, ?_⟩
  refine ⟨((xs.length : Nat) : Int) - 1, w64_eq rfl (by omega) (by omega), ?_⟩
  refine ⟨Nat, fun k => ⟨[(0, .d sh (.sl .int) xs), (3, .ow 0), (4, I ((k : Nat) - 1))], [.sl 3 .int (xs.drop k).reverse]⟩, fun k => k ≤ xs.length, fun k => k, xs.length, Nat.le_refl _,
    ⟨⟨rfl, rfl⟩, ⟨rfl, rfl, rfl, trivial⟩, rowE (by rw [List.drop_length]; rfl), trivial⟩, fun k hk => ?_⟩
  dsimp only at hk
  refine ⟨fun h1 => ?_, fun h1 => ?_⟩
  · obtain ⟨j, rfl⟩ : ∃ j, k = j + 1 := ⟨k - 1, by omega⟩
    have hj : j < xs.length := by omega
    have hle : (xs.drop (j + 1)).reverse.length ≤ 1048576 := by rw [List.length_reverse, List.length_drop]; omega
    refine ⟨j, (show (((j + 1 : Nat) : Int) - 1) = (j : Int) by omega), hj, ?_⟩
    refine ⟨rfl, by decide, false, ?_⟩
    refine ⟨rfl, Nat.zero_le _, rfl, by simp only [List.length_cons, List.length_nil]; omega, rfl, ?_⟩
    exact ⟨((j : Nat) : Int) - 1, w64_eq (by omega) (by omega) (by omega), j, by dsimp only; omega, by dsimp only; omega, ⟨rfl, rfl⟩, ⟨rfl, rfl, rfl, trivial⟩, rowE (rev_step xs j hj), trivial⟩
  · obtain rfl : k = 0 := by omega
    exact ⟨some 0, ⟨⟨rfl, rfl⟩, trivial⟩, ⟨rfl, rfl⟩, rfl⟩
/-- spec.IsMirrored of a coloring -/
theorem spec_IsMirrored (sh : Bool) (xs : List Int) (hP : ColP xs) : AC Try.prog 64 [.d sh (.sl .int) xs] [] [.d true .bool (decide (least xs = least xs.reverse))] [] := by
  have hn := hP.2
  have hP2 := colP_rev hP
  have hle := least_len xs (by omega)
  have hle2 := least_len xs.reverse (by rw [List.length_reverse]; omega)
  rw [List.length_reverse] at hle2
  refine AC_of tauOk 28 0 [2] Try.func64 rfl (by kernel_rfl) rfl rfl rfl rfl rfl ?_
  refine ⟨[], true, _, _, spec_LeastRotation sh xs hP, List.nodup_nil, rfl, rfl, trivial, fun _ => ?_, nofun⟩
  refine ⟨[], true, _, _, spec_l09Mirror sh xs (by omega), List.nodup_nil, rfl, rfl, trivial, ?_⟩
  refine ⟨[], true, _, _, spec_LeastRotation true xs.reverse hP2, List.nodup_nil, rfl, rfl, trivial, fun _ => ?_, nofun⟩
  refine ⟨[], false, _, _, spec_l03Same true true (least xs) (least xs.reverse) (by omega) (by omega), List.nodup_nil, rfl, rfl, trivial, fun h => ?_, fun h => ?_⟩
  · exact ⟨none, ⟨retB h, trivial⟩, rfl, rfl⟩
  · exact ⟨none, ⟨retB h, trivial⟩, rfl, rfl⟩
/-- spec.IsLyndon of a coloring -/
theorem spec_IsLyndon (sh : Bool) (xs : List Int) (hP : ColP xs) : AC Try.prog 65 [.d sh (.sl .int) xs] [] [.d true .bool (decide (least xs = xs ∧ perW xs = xs.length))] [] := by
  refine AC_of tauOk 12 0 [2] Try.func65 rfl (by kernel_rfl) rfl rfl rfl rfl rfl ?_
  refine ⟨[], false, _, _, spec_IsNecklace sh xs hP, List.nodup_nil, rfl, rfl, trivial, fun h => ?_, fun h => ?_⟩
  · refine ⟨[], false, _, _, spec_PeriodOf sh xs hP, List.nodup_nil, rfl, rfl, trivial, fun h2 => ?_, fun h2 => ?_⟩
    · exact ⟨none, ⟨retB (decide_eq_true ⟨of_decide_eq_true h, by omega⟩), trivial⟩, rfl, rfl⟩
    · exact ⟨none, ⟨retB (decide_eq_false (fun e => h2 (by rw [e.2]))), trivial⟩, rfl, rfl⟩
  · exact ⟨none, ⟨retB (decide_eq_false (fun e => of_decide_eq_false h e.1)), trivial⟩, rfl, rfl⟩
/-- spec.WordLine -/
theorem spec_WordLine (sh : Bool) (xs : List Int) (hl : xs.length ≤ 1048576) : AC Try.prog 29 [.d sh (.sl .int) xs] [] [.d true .str (wordLine xs)] [] := by
  cases hc : colB xs
  · refine AC_of tauOk 29 0 [2] Try.func29 rfl (by kernel_rfl) rfl rfl rfl rfl rfl ?_
    refine ⟨[], true, _, _, spec_LeastRotation_no sh xs hl hc, List.nodup_nil, rfl, rfl, trivial, nofun, fun _ => ?_⟩
    exact ⟨none, ⟨retS (by rw [wordLine, if_neg (by rw [hc]; decide)]), trivial⟩, rfl, rfl⟩
  · have hP := (colB_iff xs).1 hc
    have hn := hP.2
    have hP2 : ColP (least xs) := colP_rot hP _ (Nat.le_of_lt (bestR_lt xs _ (by omega)))
    have hle := least_len xs (by omega)
    have hper := perW_le xs (by omega)
    have hfw := fmtN_len64 (perW xs) (by omega)
    have hfo := formatW_len (least xs)
    have hw : wordLine xs = formatW (least xs) ++ [32, 112, 101, 114, 105, 111, 100, 32] ++ fmtN (perW xs) ++ [32] ++ kindW xs := by rw [wordLine, if_pos hc]
    refine AC_of tauOk 29 0 [2] Try.func29 rfl (by kernel_rfl) rfl rfl rfl rfl rfl ?_
    refine ⟨[], true, _, _, spec_LeastRotation sh xs hP, List.nodup_nil, rfl, rfl, trivial, fun _ => ?_, nofun⟩
    refine ⟨[], false, _, _, spec_IsMirrored sh xs hP, List.nodup_nil, rfl, rfl, trivial, fun h1 => ?_, fun h1 => ?_⟩
    · have e : kindW xs = [109, 105, 114, 114, 111, 114, 101, 100] := by rw [kindW, if_pos (of_decide_eq_true h1)]
      refine ⟨[], false, _, _, spec_FormatWord true (least xs) (by omega), List.nodup_nil, rfl, rfl, trivial, ?_⟩
      refine ⟨by simp only [List.length_cons, List.length_nil]; omega, ?_⟩
      refine ⟨[], false, _, _, spec_PeriodOf sh xs hP, List.nodup_nil, rfl, rfl, trivial, ?_⟩
      refine ⟨[], false, _, _, spec_FormatInt_nat (perW xs) (by omega), List.nodup_nil, rfl, rfl, trivial, ?_⟩
      refine ⟨by simp only [List.length_append, List.length_cons, List.length_nil]; omega, by simp only [List.length_append, List.length_cons, List.length_nil]; omega, by simp only [List.length_append, List.length_cons, List.length_nil]; omega, ?_⟩
      exact ⟨none, ⟨retS (by rw [hw, e]), trivial⟩, rfl, rfl⟩
    · have h1' := of_decide_eq_false h1
      refine ⟨[], false, _, _, spec_IsLyndon true (least xs) hP2, List.nodup_nil, rfl, rfl, trivial, fun h2 => ?_, fun h2 => ?_⟩
      · have e : kindW xs = [108, 121, 110, 100, 111, 110] := by rw [kindW, if_neg h1', if_pos (of_decide_eq_true h2)]
        refine ⟨[], false, _, _, spec_FormatWord true (least xs) (by omega), List.nodup_nil, rfl, rfl, trivial, ?_⟩
        refine ⟨by simp only [List.length_cons, List.length_nil]; omega, ?_⟩
        refine ⟨[], false, _, _, spec_PeriodOf sh xs hP, List.nodup_nil, rfl, rfl, trivial, ?_⟩
        refine ⟨[], false, _, _, spec_FormatInt_nat (perW xs) (by omega), List.nodup_nil, rfl, rfl, trivial, ?_⟩
        refine ⟨by simp only [List.length_append, List.length_cons, List.length_nil]; omega, by simp only [List.length_append, List.length_cons, List.length_nil]; omega, by simp only [List.length_append, List.length_cons, List.length_nil]; omega, ?_⟩
        exact ⟨none, ⟨retS (by rw [hw, e]), trivial⟩, rfl, rfl⟩
      · have e : kindW xs = [112, 108, 97, 105, 110] := by rw [kindW, if_neg h1', if_neg (of_decide_eq_false h2)]
        refine ⟨[], false, _, _, spec_FormatWord true (least xs) (by omega), List.nodup_nil, rfl, rfl, trivial, ?_⟩
        refine ⟨by simp only [List.length_cons, List.length_nil]; omega, ?_⟩
        refine ⟨[], false, _, _, spec_PeriodOf sh xs hP, List.nodup_nil, rfl, rfl, trivial, ?_⟩
        refine ⟨[], false, _, _, spec_FormatInt_nat (perW xs) (by omega), List.nodup_nil, rfl, rfl, trivial, ?_⟩
        refine ⟨by simp only [List.length_append, List.length_cons, List.length_nil]; omega, by simp only [List.length_append, List.length_cons, List.length_nil]; omega, by simp only [List.length_append, List.length_cons, List.length_nil]; omega, ?_⟩
        exact ⟨none, ⟨retS (by rw [hw, e]), trivial⟩, rfl, rfl⟩
/-- laws.FnExactWordLine -/
theorem laws_FnExactWordLine (sh : Bool) (xs : List Int) : AC Try.prog 7 [.d sh (.sl .int) xs] [] [.d true .bool true] [] := by
  refine AC_of tauOk 24 0 [2] Try.func7 rfl (by kernel_rfl) rfl rfl rfl rfl rfl ?_
  refine ⟨fun h1 => ?_, fun h1 => ?_⟩
  · exact ⟨none, ⟨rfl, trivial⟩, rfl, rfl⟩
  have hl : xs.length ≤ 1048576 := by omega
  refine ⟨[], true, _, _, laws_toIntS sh xs hl, List.nodup_nil, rfl, rfl, trivial, ?_⟩
  refine ⟨[], false, _, _, spec_WordLine true xs hl, List.nodup_nil, rfl, rfl, trivial, ?_⟩
  refine ⟨[], false, _, _, laws_toIntS sh xs hl, List.nodup_nil, rfl, rfl, trivial, ?_⟩
  refine ⟨[], false, _, _, impl_WordLine false xs hl, List.nodup_nil, rfl, rfl, trivial, fun h2 => (h2 rfl).elim, fun h2 => ?_⟩
  refine ⟨[], true, _, _, laws_toIntS sh xs hl, List.nodup_nil, rfl, rfl, trivial, ?_⟩
  refine ⟨[], false, _, _, laws_eqIntS _ _ xs xs hl hl, List.nodup_nil, rfl, rfl, trivial, fun h5 => ?_, fun h5 => by simp at h5⟩
  exact ⟨none, ⟨rfl, trivial⟩, rfl, rfl⟩
end Go.Proofs.Ytmgjflmcjbkdlaa
