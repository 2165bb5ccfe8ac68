/-
  Part 6 of the texts that the claim rests on: Wread, Wrot, Pl2, Wroot, Wheight, Ov, Wxsw, Wxep, Wpat, Wnum, Ox, Wnck, Wlyn, PlO, Wrnm.
  No condition beyond the given program.
-/
import Derived.Test.YtacjiemkbhhhoaaGreatDoorHe
set_option linter.unusedVariables false
set_option linter.unusedSimpArgs false
set_option linter.unusedVariables false
namespace Go.Proofs.YtacjiemkbhhhoaaGreatDoor
open Go Go.Proofs.YtacjiemkbhhhoaaGreatDoor.Ow
/-- one sign read: the parents so far, and where we are -/
theorem rdT_s (code : List UInt8) (k : Nat) (h : k < code.length) : rdT (code.take (k + 1)) = rdStep (rdT (code.take k)) (code.getD k 0) := by
  unfold rdT
  rw [L_succ code k 0 h, List.foldl_append]; rfl
structure RdI2 (s : List Int × Int) (k : Nat) : Prop where
  l : s.1.length ≤ k
  a : -1 ≤ s.2 ∧ s.2 < (s.1.length : Int)
  e : ∀ i, i < s.1.length → -1 ≤ s.1.getD i 0 ∧ s.1.getD i 0 < (s.1.length : Int)
theorem rdT_ok (code : List UInt8) : ∀ k, k ≤ code.length → RdI2 (rdT (code.take k)) k
  | 0, _ => ⟨Nat.le_refl _, (by decide : (-1 : Int) ≤ -1 ∧ (-1 : Int) < ((0 : Nat) : Int)), fun i hi => by simp [rdT] at hi⟩
  | k + 1, hk => by
    have ih := rdT_ok code k (by omega)
    rw [rdT_s code k (by omega)]
    generalize rdT (code.take k) = s at *
    unfold rdStep
    split
    · refine ⟨by have := ih.l; simp; omega, by have := ih.a; simp; omega, fun i hi => ?_⟩
      dsimp only at hi ⊢
      rw [List.length_append, List.length_cons, List.length_nil] at hi ⊢
      by_cases h : i < s.1.length
      · rw [L_app_l _ _ _ _ h]
        have := ih.e i h; omega
      · rw [L_app_r _ _ _ _ (by omega), show i - s.1.length = 0 by omega]
        have := ih.a
        show -1 ≤ s.2 ∧ s.2 < _
        omega
    · split
      · rename_i h
        have ha := ih.a
        have := ih.e s.2.toNat (by omega)
        exact ⟨by have := ih.l; dsimp only; omega, this, ih.e⟩
      · exact ⟨by have := ih.l; omega, ih.a, ih.e⟩
/-- the tree of a code, if it is one -/
theorem readB_alt (code : List UInt8) : readB code = (decide (code.length ≤ 24) && (decide (code ≠ []) && decide (treeCode (rdT code).1 = code))) := by
  unfold readB
  congr 1
  cases hT : treeB (rdT code).1 with
  | true =>
    rw [Bool.true_and]
    by_cases h : treeCode (rdT code).1 = code
    · have hne : code ≠ [] := by
        rw [← h, treeCode, if_pos hT, codeF_s]
        simp [cdS]
      rw [decide_eq_true h, decide_eq_true hne]; rfl
    · rw [decide_eq_false h, Bool.and_false]
  | false =>
    rw [Bool.false_and]
    have hc : treeCode (rdT code).1 = [] := by rw [treeCode, if_neg (by rw [hT]; decide)]
    rw [hc]
    by_cases h : code = []
    · rw [decide_eq_false (p := code ≠ []) (fun e => e h)]; rfl
    · rw [decide_eq_false (p := ([] : List UInt8) = code) (fun e => h e.symm), Bool.and_false]
theorem impl_ReadTree_loop (code : List UInt8) (r : List AV) (rr : List Row)
    (hno : readB code = false → r = [.nil, .d true .bool false] ∧ rr = []) (hyes : readB code = true → r = [.ow 0, .d true .bool true] ∧ rr = [.sl 3 .int (rdT code).1]) :
    AC Tryz.prog 69 [.d true .str code] [] r rr := by
  refine AC_of tauOk 43 0 [2, 3] Tryz.func69 rfl (by kernel_rfl) rfl rfl rfl rfl rfl ?_
  refine ⟨fun h1 => ?_, fun h1 => ?_⟩
  · obtain ⟨rfl, rfl⟩ := hno (by rw [readB, decide_eq_false (by omega), Bool.false_and])
    exact ⟨none, ⟨rfl, rfl, trivial⟩, rfl, rfl⟩
  have hl : code.length ≤ 24 := by omega
  refine ⟨rfl, by decide, true, ?_⟩
  refine ⟨Nat, fun k => ⟨[(0, .d true .str code), (4, .ow 0), (5, I (rdT (code.take k)).2), (12, I code.length), (13, I (k : Nat))], [.sl 3 .int (rdT (code.take k)).1]⟩, fun k => k ≤ code.length, fun k => code.length - k, 0, Nat.zero_le _,
    ⟨⟨rfl, rfl⟩, ⟨rfl, rfl, rfl, rfl, rfl, trivial⟩, rfl, trivial⟩, fun k hk => ?_⟩
  dsimp only at hk
  have hi := rdT_ok code k hk
  refine ⟨fun h2 => ?_, fun h2 => ?_⟩
  · have hk2 : k < code.length := by omega
    have hs := rdT_s code k hk2
    have hil := hi.l
    have hia := hi.a
    refine ⟨k, rfl, hk2, fun h3 => ?_, fun h3 => ?_⟩
    · have e : rdStep (rdT (code.take k)) (code.getD k 0) = ((rdT (code.take k)).1 ++ [(rdT (code.take k)).2], (((rdT (code.take k)).1.length : Nat) : Int)) := by rw [rdStep, if_pos h3]
      refine ⟨rfl, by decide, false, ?_⟩
      refine ⟨rfl, Nat.zero_le _, rfl, by simp only [List.length_cons, List.length_nil]; omega, rfl, ?_⟩
      refine ⟨(((rdT (code.take k)).1.length : Nat) : Int), w64_eq (by dsimp only; rw [List.length_append]; simp) (by omega) (by omega), ?_⟩
      exact ⟨((k + 1 : Nat) : Int), w64_eq (by omega) (by omega) (by omega), k + 1, by dsimp only; omega, by dsimp only; omega, ⟨rfl, rfl⟩, ⟨rfl, rfl, retI (by rw [hs, e]), rfl, rfl, trivial⟩, rowE (by rw [hs, e]), trivial⟩
    · refine ⟨fun h4 => ?_, fun h4 => ?_⟩
      · have e : rdStep (rdT (code.take k)) (code.getD k 0) = ((rdT (code.take k)).1, (rdT (code.take k)).1.getD (rdT (code.take k)).2.toNat 0) := by rw [rdStep, if_neg h3, if_pos h4]
        refine ⟨(rdT (code.take k)).2.toNat, (Int.toNat_of_nonneg h4).symm, by omega, ?_⟩
        exact ⟨((k + 1 : Nat) : Int), w64_eq (by omega) (by omega) (by omega), k + 1, by dsimp only; omega, by dsimp only; omega, ⟨rfl, rfl⟩, ⟨rfl, rfl, retI (by rw [hs, e]), rfl, rfl, trivial⟩, rowE (by rw [hs, e]), trivial⟩
      · have e : rdStep (rdT (code.take k)) (code.getD k 0) = rdT (code.take k) := by rw [rdStep, if_neg h3, if_neg h4]
        exact ⟨((k + 1 : Nat) : Int), w64_eq (by omega) (by omega) (by omega), k + 1, by dsimp only; omega, by dsimp only; omega, ⟨rfl, rfl⟩, ⟨rfl, rfl, retI (by rw [hs, e]), rfl, rfl, trivial⟩, rowE (by rw [hs, e]), trivial⟩
  · obtain rfl : k = code.length := by omega
    have hil := hi.l
    dsimp only at hil ⊢
    rw [List.take_length] at hil ⊢
    refine ⟨fun h2 => ?_, fun h2 => ?_⟩
    · obtain ⟨rfl, rfl⟩ := hno (by rw [readB_alt, decide_eq_false (p := code ≠ []) (fun e => e h2), Bool.false_and, Bool.and_false])
      exact ⟨none, ⟨rfl, rfl, trivial⟩, rfl, rfl⟩
    · refine ⟨[], false, _, _, impl_TreeCode false (rdT code).1 (by omega), List.nodup_nil, rfl, rfl, trivial, fun h3 => ?_, fun h3 => ?_⟩
      · obtain ⟨rfl, rfl⟩ := hno (by rw [readB_alt, decide_eq_false (p := treeCode (rdT code).1 = code) h3, Bool.and_false, Bool.and_false])
        exact ⟨none, ⟨rfl, rfl, trivial⟩, rfl, rfl⟩
      · obtain ⟨rfl, rfl⟩ := hyes (by rw [readB_alt, decide_eq_true hl, decide_eq_true (p := code ≠ []) h2, decide_eq_true (Classical.not_not.1 h3)]; rfl)
        exact ⟨some 0, ⟨⟨rfl, rfl⟩, rfl, trivial⟩, ⟨rfl, rfl⟩, rfl⟩
theorem impl_ReadTree (code : List UInt8) (h : readB code = true) : AC Tryz.prog 69 [.d true .str code] [] [.ow 0, .d true .bool true] [.sl 3 .int (rdT code).1] :=
  impl_ReadTree_loop code _ _ (fun e => by rw [h] at e; cases e) (fun _ => ⟨rfl, rfl⟩)
theorem impl_ReadTree_no (code : List UInt8) (h : readB code = false) : AC Tryz.prog 69 [.d true .str code] [] [.nil, .d true .bool false] [] :=
  impl_ReadTree_loop code _ _ (fun _ => ⟨rfl, rfl⟩) (fun e => by rw [h] at e; cases e)
end Go.Proofs.YtacjiemkbhhhoaaGreatDoor
set_option linter.unusedVariables false
namespace Go.Proofs.YtacjiemkbhhhoaaGreatDoor
open Go Go.Proofs.YtacjiemkbhhhoaaGreatDoor.Ow
/-- impl.rotated -/
theorem impl_rotated (sh : Bool) (xs : List Int) (k : Nat) (hl : xs.length ≤ 1048576) (hk : k < xs.length) : AC Tryz.prog 265 [.d sh (.sl .int) xs, I (k : Nat)] [] [.ow 0] [.sl 3 .int (rot xs k)] := by
  have hd : List.drop k (List.take xs.length xs) = xs.drop k := by rw [List.take_length]
  have h1 : (List.drop k (List.take xs.length xs)).length = xs.length - k := by rw [hd, List.length_drop]
  have h2 : (List.drop 0 (List.take k xs)).length ≤ k := by rw [List.drop_zero, List.length_take]; omega
  cases sh <;> (
  refine AC_of tauOk 13 0 [4] Tryz.func265 rfl (by kernel_rfl) rfl rfl rfl rfl rfl ?_
  refine ⟨some 1000, [0, 1, 2, 4, 5, 6], [3, 7, 8], by kernel_rfl, ?_⟩
  refine ⟨k, rfl, Nat.le_of_lt hk, Nat.le_refl _, ?_⟩
  refine ⟨k, rfl, Nat.zero_le _, Nat.le_of_lt hk, ?_⟩
  refine ⟨[], false, _, _, slices_Clone_int _ (List.drop k (List.take xs.length xs)) (by omega) (by intro e; rw [e] at h1; simp only [List.length_nil] at h1; omega), List.nodup_nil, rfl, rfl, trivial, ?_⟩
  refine ⟨rfl, Nat.zero_le _, rfl, by dsimp only; omega, rfl, ?_⟩
  exact ⟨some 0, ⟨⟨rfl, rfl⟩, trivial⟩, ⟨rfl, rowsE (by rw [hd]; rfl)⟩, rfl⟩)
/-- impl.LeastRotation of a coloring -/
theorem impl_LeastRotation (sh : Bool) (xs : List Int) (hP : ColP xs) : AC Tryz.prog 167 [.d sh (.sl .int) xs] [] [.ow 0, I (bestR xs xs.length : Nat), .d true .bool true] [.sl 3 .int (least xs)] := by
  have hn := hP.2
  have hl : xs.length ≤ 1048576 := by omega
  refine AC_of tauOk 29 0 [2, 3, 4] Tryz.func167 rfl (by kernel_rfl) rfl rfl rfl rfl rfl ?_
  refine ⟨[], false, _, _, impl_ColoringOk sh xs hl, List.nodup_nil, rfl, rfl, trivial, fun h1 => ?_, fun h1 => by rw [(colB_iff xs).2 hP] at h1; cases h1⟩
  refine ⟨Nat, fun k => ⟨[(0, .d sh (.sl .int) xs), (5, I (bestR xs k : Nat)), (11, I xs.length), (12, I (k : Nat))], []⟩, fun k => k ≤ xs.length, fun k => xs.length - k, 0, Nat.zero_le _,
    ⟨⟨rfl, rfl⟩, ⟨rfl, rfl, rfl, rfl, trivial⟩, trivial⟩, fun k hk => ?_⟩
  dsimp only at hk
  have hb : k = 0 ∨ bestR xs k < k := by
    by_cases h : k = 0
    · exact .inl h
    · exact .inr (bestR_lt xs k (by omega))
  have hb0 : bestR xs 0 = 0 := rfl
  refine ⟨fun h2 => ?_, fun h2 => ?_⟩
  · have hk2 : k < xs.length := by omega
    have hbk : bestR xs k < xs.length := by
      rcases hb with h | h
      · rw [h, hb0]; omega
      · omega
    have hr1 := rot_len xs k (by omega)
    have hr2 := rot_len xs (bestR xs k) (by omega)
    refine ⟨[], true, _, _, impl_rotated sh xs k hl hk2, List.nodup_nil, rfl, rfl, trivial, [], true, _, _, impl_rotated sh xs (bestR xs k) hl (by omega), List.nodup_nil, rfl, rfl, trivial, ?_⟩
    refine ⟨[], false, _, _, slices_Compare_int true true (rot xs k) (rot xs (bestR xs k)) (by omega) (by omega), List.nodup_nil, rfl, rfl, trivial, fun h2 => ?_, fun h2 => ?_⟩
    · have e : bestR xs (k + 1) = k := by rw [bestR, if_pos (h2)]
      exact ⟨((k + 1 : Nat) : Int), w64_eq (by omega) (by omega) (by omega), k + 1, by dsimp only; omega, by dsimp only; omega, ⟨rfl, rfl⟩, ⟨rfl, retI (by rw [e]), rfl, rfl, trivial⟩, trivial⟩
    · have e : bestR xs (k + 1) = bestR xs k := by rw [bestR, if_neg (h2)]
      exact ⟨((k + 1 : Nat) : Int), w64_eq (by omega) (by omega) (by omega), k + 1, by dsimp only; omega, by dsimp only; omega, ⟨rfl, rfl⟩, ⟨rfl, retI (by rw [e]), rfl, rfl, trivial⟩, trivial⟩
  · obtain rfl : k = xs.length := by omega
    refine ⟨[], false, _, _, impl_rotated sh xs (bestR xs xs.length) hl (bestR_lt xs _ (by omega)), List.nodup_nil, rfl, rfl, trivial, ?_⟩
    exact ⟨some 0, ⟨⟨rfl, rfl⟩, rfl, rfl, trivial⟩, ⟨rfl, rfl⟩, rfl⟩
theorem impl_LeastRotation_no (sh : Bool) (xs : List Int) (hl : xs.length ≤ 1048576) (hP : colB xs = false) : AC Tryz.prog 167 [.d sh (.sl .int) xs] [] [.nil, I 0, .d true .bool false] [] := by
  refine AC_of tauOk 29 0 [2, 3, 4] Tryz.func167 rfl (by kernel_rfl) rfl rfl rfl rfl rfl ?_
  refine ⟨[], false, _, _, impl_ColoringOk sh xs hl, List.nodup_nil, rfl, rfl, trivial, fun h1 => (by rw [hP] at h1; cases h1), fun h1 => ?_⟩
  exact ⟨none, ⟨rfl, rfl, rfl, trivial⟩, rfl, rfl⟩
/-- impl.IsNecklace of a coloring -/
theorem impl_IsNecklace (sh : Bool) (xs : List Int) (hP : ColP xs) : AC Tryz.prog 267 [.d sh (.sl .int) xs] [] [.d true .bool (decide (least xs = xs))] [] := by
  have hn := hP.2
  have hle := least_len xs (by omega)
  refine AC_of tauOk 18 0 [2] Tryz.func267 rfl (by kernel_rfl) rfl rfl rfl rfl rfl ?_
  refine ⟨[], true, _, _, impl_LeastRotation sh xs hP, List.nodup_nil, rfl, rfl, trivial, fun _ => ?_, nofun⟩
  refine ⟨[], false, _, _, slices_Equal_int true sh (least xs) xs (by omega) (by omega), List.nodup_nil, rfl, rfl, trivial, fun h => ?_, fun h => ?_⟩
  · exact ⟨none, ⟨retB h, trivial⟩, rfl, rfl⟩
  · exact ⟨none, ⟨retB h, trivial⟩, rfl, rfl⟩
/-- impl.PeriodOf of a coloring -/
theorem impl_PeriodOf (sh : Bool) (xs : List Int) (hP : ColP xs) : AC Tryz.prog 170 [.d sh (.sl .int) xs] [] [I (perW xs : Nat)] [] := by
  have hn := hP.2
  have hl : xs.length ≤ 1048576 := by omega
  refine AC_of tauOk 28 0 [2] Tryz.func170 rfl (by kernel_rfl) rfl rfl rfl rfl rfl ?_
  refine ⟨[], false, _, _, impl_ColoringOk sh xs hl, List.nodup_nil, rfl, rfl, trivial, fun h1 => ?_, fun h1 => by rw [(colB_iff xs).2 hP] at h1; cases h1⟩
  refine ⟨Nat, fun k => ⟨[(0, .d sh (.sl .int) xs), (3, I (k : Nat))], []⟩, fun k => 1 ≤ k ∧ k ≤ xs.length ∧ perF xs k (xs.length - k) = perW xs, fun k => xs.length - k, 1, ⟨Nat.le_refl _, by omega, rfl⟩,
    ⟨⟨rfl, rfl⟩, ⟨rfl, rfl, trivial⟩, trivial⟩, fun k ⟨hk1, hk, hp⟩ => ?_⟩
  refine ⟨fun h2 => ?_, fun h2 => ?_⟩
  · have hk2 : k < xs.length := by omega
    have hr := rot_len xs k (by omega)
    obtain ⟨f, hf⟩ : ∃ f, xs.length - k = f + 1 := ⟨xs.length - k - 1, by omega⟩
    have hf2 : xs.length - (k + 1) = f := by omega
    rw [hf, perF] at hp
    have hm : ((xs.length : Nat) : Int).tmod (k : Nat) = ((xs.length % k : Nat) : Int) := Int.ofNat_tmod _ _
    have next : ¬ (xs.length % k = 0 ∧ rot xs k = xs) → perF xs (k + 1) (xs.length - (k + 1)) = perW xs := fun h => by rw [if_neg h] at hp; rw [hf2]; exact hp
    refine ⟨by omega, _, rfl, fun h3 => ?_, fun h3 => ?_⟩
    · rw [hm] at h3
      refine ⟨[], true, _, _, impl_rotated sh xs k hl hk2, List.nodup_nil, rfl, rfl, trivial, [], false, _, _, slices_Equal_int true sh (rot xs k) xs (by omega) hl, List.nodup_nil, rfl, rfl, trivial, fun h4 => ?_, fun h4 => ?_⟩
      · exact ⟨none, ⟨retI (by rw [← hp, if_pos ⟨by omega, of_decide_eq_true h4⟩]), trivial⟩, rfl, rfl⟩
      · exact ⟨((k + 1 : Nat) : Int), w64_eq (by omega) (by omega) (by omega), k + 1, ⟨by omega, by omega, next fun e => of_decide_eq_false h4 e.2⟩, by dsimp only; omega, ⟨rfl, rfl⟩, ⟨rfl, rfl, trivial⟩, trivial⟩
    · rw [hm] at h3
      exact ⟨((k + 1 : Nat) : Int), w64_eq (by omega) (by omega) (by omega), k + 1, ⟨by omega, by omega, next fun e => h3 (by omega)⟩, by dsimp only; omega, ⟨rfl, rfl⟩, ⟨rfl, rfl, trivial⟩, trivial⟩
  · obtain rfl : k = xs.length := by omega
    rw [Nat.sub_self] at hp
    exact ⟨none, ⟨retI (by rw [← hp]; rfl), trivial⟩, rfl, rfl⟩
/-- impl.mirror -/
theorem impl_mirror (sh : Bool) (xs : List Int) (hl : xs.length ≤ 1048576) (h0 : xs ≠ []) : AC Tryz.prog 266 [.d sh (.sl .int) xs] [] [.ow 0] [.sl 3 .int xs.reverse] := by
  refine AC_of tauOk 9 0 [2] Tryz.func266 rfl (by kernel_rfl) rfl rfl rfl rfl rfl ?_
  refine ⟨[], false, _, _, slices_Clone_int sh xs hl h0, List.nodup_nil, rfl, rfl, trivial, ?_⟩
  refine ⟨[0], false, _, _, slices_Reverse_int 3 xs hl, by decide, rfl, rfl, ⟨⟨List.length_reverse, rfl, rfl⟩, trivial⟩, ?_⟩
  exact ⟨some 0, ⟨⟨rfl, rfl⟩, trivial⟩, ⟨rfl, rfl⟩, rfl⟩
/-- impl.IsMirrored of a coloring -/
theorem impl_IsMirrored (sh : Bool) (xs : List Int) (hP : ColP xs) : AC Tryz.prog 168 [.d sh (.sl .int) xs] [] [.d true .bool (decide (least xs = least xs.reverse))] [] := by
  have hn := hP.2
  have hP2 := colP_rev hP
  have hle := least_len xs (by omega)
  have hle2 := least_len xs.reverse (by rw [List.length_reverse]; omega)
  rw [List.length_reverse] at hle2
  refine AC_of tauOk 27 0 [2] Tryz.func168 rfl (by kernel_rfl) rfl rfl rfl rfl rfl ?_
  refine ⟨[], true, _, _, impl_LeastRotation sh xs hP, List.nodup_nil, rfl, rfl, trivial, fun _ => ?_, nofun⟩
  refine ⟨[], true, _, _, impl_mirror sh xs (by omega) (by intro e; rw [e] at hn; simp at hn), List.nodup_nil, rfl, rfl, trivial, ?_⟩
  refine ⟨[], true, _, _, impl_LeastRotation true xs.reverse hP2, List.nodup_nil, rfl, rfl, trivial, fun _ => ?_, nofun⟩
  refine ⟨[], false, _, _, slices_Equal_int true true (least xs) (least xs.reverse) (by omega) (by omega), List.nodup_nil, rfl, rfl, trivial, fun h => ?_, fun h => ?_⟩
  · exact ⟨none, ⟨retB h, trivial⟩, rfl, rfl⟩
  · exact ⟨none, ⟨retB h, trivial⟩, rfl, rfl⟩
/-- impl.IsLyndon of a coloring -/
theorem impl_IsLyndon (sh : Bool) (xs : List Int) (hP : ColP xs) : AC Tryz.prog 169 [.d sh (.sl .int) xs] [] [.d true .bool (decide (least xs = xs ∧ perW xs = xs.length))] [] := by
  refine AC_of tauOk 12 0 [2] Tryz.func169 rfl (by kernel_rfl) rfl rfl rfl rfl rfl ?_
  refine ⟨[], false, _, _, impl_IsNecklace sh xs hP, List.nodup_nil, rfl, rfl, trivial, fun h => ?_, fun h => ?_⟩
  · refine ⟨[], false, _, _, impl_PeriodOf sh xs hP, List.nodup_nil, rfl, rfl, trivial, fun h2 => ?_, fun h2 => ?_⟩
    · exact ⟨none, ⟨retB (decide_eq_true ⟨of_decide_eq_true h, by omega⟩), trivial⟩, rfl, rfl⟩
    · exact ⟨none, ⟨retB (decide_eq_false (fun e => h2 (by rw [e.2]))), trivial⟩, rfl, rfl⟩
  · exact ⟨none, ⟨retB (decide_eq_false (fun e => of_decide_eq_false h e.1)), trivial⟩, rfl, rfl⟩
/-- impl.WordLine -/
theorem impl_WordLine (sh : Bool) (xs : List Int) (hl : xs.length ≤ 1048576) : AC Tryz.prog 77 [.d sh (.sl .int) xs] [] [.d true .str (wordLine xs)] [] := by
  cases hc : colB xs
  · refine AC_of tauOk 29 0 [2] Tryz.func77 rfl (by kernel_rfl) rfl rfl rfl rfl rfl ?_
    refine ⟨[], true, _, _, impl_LeastRotation_no sh xs hl hc, List.nodup_nil, rfl, rfl, trivial, nofun, fun _ => ?_⟩
    exact ⟨none, ⟨retS (by rw [wordLine, if_neg (by rw [hc]; decide)]), trivial⟩, rfl, rfl⟩
  · have hP := (colB_iff xs).1 hc
    have hn := hP.2
    have hP2 : ColP (least xs) := colP_rot hP _ (Nat.le_of_lt (bestR_lt xs _ (by omega)))
    have hle := least_len xs (by omega)
    have hper := perW_le xs (by omega)
    have hfw := fmtN_len64 (perW xs) (by omega)
    have hfo := formatW_len (least xs)
    have hw : wordLine xs = formatW (least xs) ++ [32, 112, 101, 114, 105, 111, 100, 32] ++ fmtN (perW xs) ++ [32] ++ kindW xs := by rw [wordLine, if_pos hc]
    refine AC_of tauOk 29 0 [2] Tryz.func77 rfl (by kernel_rfl) rfl rfl rfl rfl rfl ?_
    refine ⟨[], true, _, _, impl_LeastRotation sh xs hP, List.nodup_nil, rfl, rfl, trivial, fun _ => ?_, nofun⟩
    refine ⟨[], false, _, _, impl_IsMirrored sh xs hP, List.nodup_nil, rfl, rfl, trivial, fun h1 => ?_, fun h1 => ?_⟩
    · have e : kindW xs = [109, 105, 114, 114, 111, 114, 101, 100] := by rw [kindW, if_pos (of_decide_eq_true h1)]
      refine ⟨[], false, _, _, impl_FormatWord true (least xs) (colP_in hP2) (by omega), List.nodup_nil, rfl, rfl, trivial, ?_⟩
      refine ⟨by simp only [List.length_cons, List.length_nil]; omega, ?_⟩
      refine ⟨[], false, _, _, impl_PeriodOf sh xs hP, List.nodup_nil, rfl, rfl, trivial, ?_⟩
      refine ⟨[], false, _, _, impl_FormatInt_nat (perW xs + 1) (perW xs) (by omega) (by omega), List.nodup_nil, rfl, rfl, trivial, ?_⟩
      refine ⟨by simp only [List.length_append, List.length_cons, List.length_nil]; omega, by simp only [List.length_append, List.length_cons, List.length_nil]; omega, by simp only [List.length_append, List.length_cons, List.length_nil]; omega, ?_⟩
      exact ⟨none, ⟨retS (by rw [hw, e]), trivial⟩, rfl, rfl⟩
    · have h1' := of_decide_eq_false h1
      refine ⟨[], false, _, _, impl_IsLyndon true (least xs) hP2, List.nodup_nil, rfl, rfl, trivial, fun h2 => ?_, fun h2 => ?_⟩
      · have e : kindW xs = [108, 121, 110, 100, 111, 110] := by rw [kindW, if_neg h1', if_pos (of_decide_eq_true h2)]
        refine ⟨[], false, _, _, impl_FormatWord true (least xs) (colP_in hP2) (by omega), List.nodup_nil, rfl, rfl, trivial, ?_⟩
        refine ⟨by simp only [List.length_cons, List.length_nil]; omega, ?_⟩
        refine ⟨[], false, _, _, impl_PeriodOf sh xs hP, List.nodup_nil, rfl, rfl, trivial, ?_⟩
        refine ⟨[], false, _, _, impl_FormatInt_nat (perW xs + 1) (perW xs) (by omega) (by omega), List.nodup_nil, rfl, rfl, trivial, ?_⟩
        refine ⟨by simp only [List.length_append, List.length_cons, List.length_nil]; omega, by simp only [List.length_append, List.length_cons, List.length_nil]; omega, by simp only [List.length_append, List.length_cons, List.length_nil]; omega, ?_⟩
        exact ⟨none, ⟨retS (by rw [hw, e]), trivial⟩, rfl, rfl⟩
      · have e : kindW xs = [112, 108, 97, 105, 110] := by rw [kindW, if_neg h1', if_neg (of_decide_eq_false h2)]
        refine ⟨[], false, _, _, impl_FormatWord true (least xs) (colP_in hP2) (by omega), List.nodup_nil, rfl, rfl, trivial, ?_⟩
        refine ⟨by simp only [List.length_cons, List.length_nil]; omega, ?_⟩
        refine ⟨[], false, _, _, impl_PeriodOf sh xs hP, List.nodup_nil, rfl, rfl, trivial, ?_⟩
        refine ⟨[], false, _, _, impl_FormatInt_nat (perW xs + 1) (perW xs) (by omega) (by omega), List.nodup_nil, rfl, rfl, trivial, ?_⟩
        refine ⟨by simp only [List.length_append, List.length_cons, List.length_nil]; omega, by simp only [List.length_append, List.length_cons, List.length_nil]; omega, by simp only [List.length_append, List.length_cons, List.length_nil]; omega, ?_⟩
        exact ⟨none, ⟨retS (by rw [hw, e]), trivial⟩, rfl, rfl⟩
end Go.Proofs.YtacjiemkbhhhoaaGreatDoor
set_option linter.unusedVariables false
namespace Go.Proofs.YtacjiemkbhhhoaaGreatDoor
open Go Go.Proofs.YtacjiemkbhhhoaaGreatDoor.Ow
def rootR : List Int := [0, 1, 1, 2, 4, 9, 20, 48, 115, 286, 719, 1842, 4766]
def rg (k : Nat) : Int := rootR.getD k 0
/-- the sum of d times r[d] over the d among 1 .. k that divide j -/
def sP (j : Nat) : Nat → Int
  | 0 => 0
  | k + 1 => if (j : Int).tmod ((k + 1 : Nat) : Int) = 0 then sP j k + ((k + 1 : Nat) : Int) * rg (k + 1) else sP j k
def tP (m : Nat) : Nat → Int
  | 0 => 0
  | k + 1 => tP m k + sP (k + 1) (k + 1) * rg (m - k)
/-- the sum of r[i] times r[n-i] over i among 1 .. k -/
def uP (n : Nat) : Nat → Int
  | 0 => 0
  | k + 1 => uP n k + rg (k + 1) * rg (n - (k + 1))
def uE (n : Nat) : Int := if (n : Int).tmod 2 = 0 then uP n (n - 1) - rg (n / 2) else uP n (n - 1)
def rootN (x : Int) : Int := if 1 ≤ x ∧ x ≤ 12 then rg x.toNat else -1
def freeN (x : Int) : Int := if 1 ≤ x ∧ x ≤ 12 then rg x.toNat - (uE x.toNat).tdiv 2 else -1
theorem rg_b : ∀ k, k < 13 → 0 ≤ rg k ∧ rg k ≤ 4766 := by decide
theorem rg_m : ∀ k, k < 13 → 0 ≤ ((k : Nat) : Int) * rg k ∧ ((k : Nat) : Int) * rg k ≤ 100000 := by decide
theorem sP_b : ∀ j, j < 12 → ∀ k, k < j + 1 → 0 ≤ sP j k ∧ sP j k ≤ 1000000 := by decide
theorem sr_b : ∀ m, m < 12 → ∀ j, j < m → 0 ≤ sP (j + 1) (j + 1) * rg (m - j) ∧ sP (j + 1) (j + 1) * rg (m - j) ≤ 100000000 := by decide
theorem tP_b : ∀ m, m < 12 → ∀ k, k < m + 1 → 0 ≤ tP m k ∧ tP m k ≤ 100000000 := by decide
theorem rr_b : ∀ n, n < 13 → ∀ k, k < n → 0 ≤ rg k * rg (n - k) ∧ rg k * rg (n - k) ≤ 100000000 := by decide
theorem uP_b : ∀ n, n < 13 → ∀ k, k < n → 0 ≤ uP n k ∧ uP n k ≤ 100000000 := by decide
theorem uE_b : ∀ n, n < 13 → 1 ≤ n → -100000000 ≤ uE n ∧ uE n ≤ 100000000 ∧ -100000000 ≤ (uE n).tdiv 2 ∧ (uE n).tdiv 2 ≤ 100000000 := by decide
theorem root_step : ∀ m, m < 12 → 1 ≤ m → rootR.take (m + 1) ++ [(tP m m).tdiv (m : Int)] = rootR.take (m + 2) ∧ 0 ≤ (tP m m).tdiv (m : Int) ∧ (tP m m).tdiv (m : Int) ≤ 100000000 := by decide
theorem root_len : ∀ m, m < 13 → (rootR.take (m + 1)).length = m + 1 := by decide
theorem root_get (m k : Nat) (h : k < m + 1) : (rootR.take (m + 1)).getD k 0 = rg k := L_take _ _ _ _ h
theorem free_b : ∀ n, n < 13 → 1 ≤ n → 0 ≤ rg n - (uE n).tdiv 2 ∧ rg n - (uE n).tdiv 2 ≤ rg n := by decide
end Go.Proofs.YtacjiemkbhhhoaaGreatDoor
set_option linter.unusedVariables false
namespace Go.Proofs.YtacjiemkbhhhoaaGreatDoor
open Go Go.Proofs.YtacjiemkbhhhoaaGreatDoor.Ow
/-- impl.rooted -/
theorem impl_rooted : AC Tryz.prog 191 [] [] [.ow 0] [.sl 3 .int (rootR.take 13)] := by
  refine AC_of tauOk 52 0 [0] Tryz.func191 rfl (by kernel_rfl) rfl rfl rfl rfl rfl ?_
  refine ⟨rfl, by decide, true, ?_⟩
  refine ⟨Nat, fun m => ⟨[(1, .ow 0), (2, I (m : Nat))], [.sl 3 .int (rootR.take (m + 1))]⟩, fun m => 1 ≤ m ∧ m ≤ 12, fun m => 12 - m, 1, ⟨by omega, by omega⟩,
    ⟨⟨rfl, rfl⟩, ⟨rfl, rfl, trivial⟩, rfl, trivial⟩, fun m ⟨hm1, hm⟩ => ?_⟩
  refine ⟨fun h1 => ?_, fun h1 => ?_⟩
  · have hm2 : m < 12 := by omega
    clear h1
    refine ⟨Nat, fun k => ⟨[(1, .ow 0), (2, I (m : Nat)), (3, I (tP m k)), (4, I ((k + 1 : Nat)))], [.sl 3 .int (rootR.take (m + 1))]⟩, fun k => k ≤ m, fun k => m - k, 0, Nat.zero_le _,
      ⟨⟨rfl, rfl⟩, ⟨rfl, rfl, rfl, rfl, trivial⟩, rfl, trivial⟩, fun k hk => ?_⟩
    dsimp only at hk
    refine ⟨fun h2 => ?_, fun h2 => ?_⟩
    · have hk2 : k < m := by omega
      clear h2
      refine ⟨Nat, fun d => ⟨[(1, .ow 0), (2, I (m : Nat)), (3, I (tP m k)), (4, I ((k + 1 : Nat))), (5, I (sP (k + 1) d)), (6, I ((d + 1 : Nat)))], [.sl 3 .int (rootR.take (m + 1))]⟩, fun d => d ≤ k + 1, fun d => k + 1 - d, 0, Nat.zero_le _,
        ⟨⟨rfl, rfl⟩, ⟨rfl, rfl, rfl, rfl, rfl, rfl, trivial⟩, rfl, trivial⟩, fun d hd => ?_⟩
      dsimp only at hd
      refine ⟨fun h3 => ?_, fun h3 => ?_⟩
      · have hd2 : d < k + 1 := by omega
        clear h3
        refine ⟨by omega, _, rfl, fun h4 => ?_, fun h4 => ?_⟩
        · refine ⟨d + 1, rfl, by rw [root_len _ (by omega)]; omega, ?_⟩
          have hb := rg_m (d + 1) (by omega)
          have hc := sP_b (k + 1) (by omega) (d + 1) (by omega)
          refine ⟨((d + 1 : Nat) : Int) * rg (d + 1), w64_eq (by rw [root_get _ _ (by omega)]) (by omega) (by omega), ?_⟩
          refine ⟨sP (k + 1) (d + 1), w64_eq (by rw [sP, if_pos h4]) (by omega) (by omega), ?_⟩
          exact ⟨((d + 1 + 1 : Nat) : Int), w64_eq (by omega) (by omega) (by omega), d + 1, by dsimp only; omega, by dsimp only; omega, ⟨rfl, rfl⟩, ⟨rfl, rfl, rfl, rfl, rfl, rfl, trivial⟩, rfl, trivial⟩
        · have e : sP (k + 1) (d + 1) = sP (k + 1) d := by rw [sP, if_neg h4]
          exact ⟨((d + 1 + 1 : Nat) : Int), w64_eq (by omega) (by omega) (by omega), d + 1, by dsimp only; omega, by dsimp only; omega, ⟨rfl, rfl⟩, ⟨rfl, rfl, rfl, rfl, retI e.symm, rfl, trivial⟩, rfl, trivial⟩
      · have hd2 : d = k + 1 := by omega
        clear h3
        subst hd2
        have hb := sr_b m (by omega) k hk2
        have hc := tP_b m (by omega) (k + 1) (by omega)
        refine ⟨((m + 1 : Nat) : Int), w64_eq (by omega) (by omega) (by omega), ?_⟩
        refine ⟨((m - k : Nat) : Int), w64_eq (by omega) (by omega) (by omega), ?_⟩
        refine ⟨m - k, rfl, by rw [root_len _ (by omega)]; omega, ?_⟩
        refine ⟨sP (k + 1) (k + 1) * rg (m - k), w64_eq (by rw [root_get _ _ (by omega)]) (by omega) (by omega), ?_⟩
        refine ⟨tP m (k + 1), w64_eq (by rw [tP]) (by omega) (by omega), ?_⟩
        exact ⟨((k + 1 + 1 : Nat) : Int), w64_eq (by omega) (by omega) (by omega), k + 1, by dsimp only; omega, by dsimp only; omega, ⟨rfl, rfl⟩, ⟨rfl, rfl, rfl, rfl, trivial⟩, rfl, trivial⟩
    · have hk2 : k = m := by omega
      clear h2
      subst hk2
      obtain ⟨e, hb, hc⟩ := root_step k (by omega) hm1
      refine ⟨by omega, (tP k k).tdiv (k : Int), w64_eq rfl (by omega) (by omega), ?_⟩
      refine ⟨rfl, by decide, false, ?_⟩
      refine ⟨rfl, Nat.zero_le _, rfl, by rw [root_len _ (by omega)]; simp; omega, rfl, ?_⟩
      exact ⟨((k + 1 : Nat) : Int), w64_eq (by omega) (by omega) (by omega), k + 1, by dsimp only; omega, by dsimp only; omega, ⟨rfl, rfl⟩, ⟨rfl, rfl, trivial⟩, rowE e, trivial⟩
  · have hm2 : m = 12 := by omega
    subst hm2
    exact ⟨some 0, ⟨⟨rfl, rfl⟩, trivial⟩, ⟨rfl, rfl⟩, rfl⟩
/-- impl.CountRooted -/
theorem impl_CountRooted (x : Int) : AC Tryz.prog 91 [I x] [] [I (rootN x)] [] := by
  refine AC_of tauOk 13 0 [2] Tryz.func91 rfl (by kernel_rfl) rfl rfl rfl rfl rfl ?_
  refine ⟨fun h1 => ?_, fun h1 => ?_⟩
  · exact ⟨none, ⟨retI (by rw [rootN, if_neg (by omega)]), trivial⟩, rfl, rfl⟩
  refine ⟨fun h2 => ?_, fun h2 => ?_⟩
  · exact ⟨none, ⟨retI (by rw [rootN, if_neg (by omega)]), trivial⟩, rfl, rfl⟩
  obtain ⟨n, rfl⟩ : ∃ n : Nat, x = n := ⟨x.toNat, by omega⟩
  refine ⟨[], true, _, _, impl_rooted, List.nodup_nil, rfl, rfl, trivial, n, rfl, by rw [root_len 12 (by omega)]; omega, ?_⟩
  exact ⟨none, ⟨retI (by rw [root_get 12 _ (by omega), rootN, if_pos (by omega)]; rfl), trivial⟩, rfl, rfl⟩
/-- impl.CountFree -/
theorem impl_CountFree (x : Int) : AC Tryz.prog 92 [I x] [] [I (freeN x)] [] := by
  refine AC_of tauOk 48 0 [2] Tryz.func92 rfl (by kernel_rfl) rfl rfl rfl rfl rfl ?_
  refine ⟨fun h1 => ?_, fun h1 => ?_⟩
  · exact ⟨none, ⟨retI (by rw [freeN, if_neg (by omega)]), trivial⟩, rfl, rfl⟩
  refine ⟨fun h2 => ?_, fun h2 => ?_⟩
  · exact ⟨none, ⟨retI (by rw [freeN, if_neg (by omega)]), trivial⟩, rfl, rfl⟩
  obtain ⟨n, rfl⟩ : ∃ n : Nat, x = n := ⟨x.toNat, by omega⟩
  have hn1 : 1 ≤ n := by omega
  have hn : n ≤ 12 := by omega
  refine ⟨[], true, _, _, impl_rooted, List.nodup_nil, rfl, rfl, trivial, ?_⟩
  refine ⟨Nat, fun k => ⟨[(0, I (n : Nat)), (3, .d true (.sl .int) (rootR.take 13)), (4, I (uP n k)), (5, I ((k + 1 : Nat)))], []⟩, fun k => k + 1 ≤ n, fun k => n - k, 0, by dsimp only; omega,
    ⟨⟨rfl, rfl⟩, ⟨rfl, rfl, rfl, rfl, trivial⟩, trivial⟩, fun k hk => ?_⟩
  dsimp only at hk
  refine ⟨fun h2 => ?_, fun h2 => ?_⟩
  · have hk2 : k + 1 < n := by omega
    have hb := rr_b n (by omega) (k + 1) hk2
    have hc := uP_b n (by omega) (k + 1) hk2
    refine ⟨none, by kernel_rfl, k + 1, rfl, by rw [root_len 12 (by omega)]; omega, ?_⟩
    refine ⟨((n - (k + 1) : Nat) : Int), w64_eq (by omega) (by omega) (by omega), ?_⟩
    refine ⟨n - (k + 1), rfl, by rw [root_len 12 (by omega)]; omega, ?_⟩
    refine ⟨rg (k + 1) * rg (n - (k + 1)), w64_eq (by rw [root_get 12 _ (by omega), root_get 12 _ (by omega)]) (by omega) (by omega), ?_⟩
    refine ⟨uP n (k + 1), w64_eq (by rw [uP]) (by omega) (by omega), ?_⟩
    exact ⟨((k + 1 + 1 : Nat) : Int), w64_eq (by omega) (by omega) (by omega), k + 1, by dsimp only; omega, by dsimp only; omega, ⟨rfl, rfl⟩, ⟨rfl, rfl, rfl, rfl, trivial⟩, trivial⟩
  · obtain rfl : n = k + 1 := by omega
    have hd := uP_b (k + 1) (by omega) k (by omega)
    have he := uE_b (k + 1) (by omega) (by omega)
    have hf := rg_b (k + 1) (by omega)
    have hg := free_b (k + 1) (by omega) (by omega)
    refine ⟨by decide, _, rfl, fun h3 => ?_, fun h3 => ?_⟩
    · have hh := rg_b ((k + 1) / 2) (by omega)
      have hu : uE (k + 1) = uP (k + 1) k - rg ((k + 1) / 2) := by rw [uE, if_pos h3]; rfl
      refine ⟨by decide, (((k + 1) / 2 : Nat) : Int), w64_eq (Int.ofNat_tdiv _ _) (by omega) (by omega), ?_⟩
      refine ⟨(k + 1) / 2, rfl, by rw [root_len 12 (by omega)]; omega, ?_⟩
      refine ⟨uE (k + 1), w64_eq (by rw [root_get 12 _ (by omega), hu]) (by omega) (by omega), ?_⟩
      refine ⟨k + 1, rfl, by rw [root_len 12 (by omega)]; omega, ?_⟩
      refine ⟨by decide, (uE (k + 1)).tdiv 2, w64_eq rfl (by omega) (by omega), ?_⟩
      refine ⟨rg (k + 1) - (uE (k + 1)).tdiv 2, w64_eq (by rw [root_get 12 _ (by omega)]) (by omega) (by omega), ?_⟩
      exact ⟨none, ⟨retI (by rw [freeN, if_pos (by omega)]; rfl), trivial⟩, rfl, rfl⟩
    · have hu : uE (k + 1) = uP (k + 1) k := by rw [uE, if_neg h3]; rfl
      refine ⟨k + 1, rfl, by rw [root_len 12 (by omega)]; omega, ?_⟩
      refine ⟨by decide, (uE (k + 1)).tdiv 2, w64_eq (by rw [hu]) (by omega) (by omega), ?_⟩
      refine ⟨rg (k + 1) - (uE (k + 1)).tdiv 2, w64_eq (by rw [root_get 12 _ (by omega)]) (by omega) (by omega), ?_⟩
      exact ⟨none, ⟨retI (by rw [freeN, if_pos (by omega)]; rfl), trivial⟩, rfl, rfl⟩
end Go.Proofs.YtacjiemkbhhhoaaGreatDoor
set_option linter.unusedVariables false
namespace Go.Proofs.YtacjiemkbhhhoaaGreatDoor
open Go Go.Proofs.YtacjiemkbhhhoaaGreatDoor.Ow
/-- impl.HeightOf -/
theorem impl_HeightOf (sh : Bool) (xs : List Int) (hl : xs.length ≤ 1048576) : AC Tryz.prog 72 [.d sh (.sl .int) xs] [] [I (heightV xs)] [] := by
  refine AC_of tauOk 38 0 [2] Tryz.func72 rfl (by kernel_rfl) rfl rfl rfl rfl rfl ?_
  refine ⟨[], false, _, _, impl_TreeOk sh xs hl, List.nodup_nil, rfl, rfl, trivial, fun h1 => ?_, fun h1 => ?_⟩
  · have ht := (treeB_iff xs).1 h1
    refine ⟨xs.length, xs.length, rfl, rfl, Nat.le_refl _, by omega, ?_⟩
    refine ⟨Nat, fun k => ⟨[(0, .d sh (.sl .int) xs), (3, I (htS xs k).2), (4, .ow 0), (13, .d sh (.sl .int) xs), (14, I xs.length), (15, I (k : Nat))], [.sl 3 .int (htS xs k).1]⟩, fun k => k ≤ xs.length, fun k => xs.length - k, 0, Nat.zero_le _,
      ⟨⟨rfl, rfl⟩, ⟨rfl, rfl, rfl, rfl, rfl, rfl, trivial⟩, rfl, trivial⟩, fun k hk => ?_⟩
    dsimp only at hk
    refine ⟨fun h2 => ?_, fun h2 => ?_⟩
    · have hk2 : k < xs.length := by omega
      clear h2
      refine ⟨k, rfl, by omega, fun h3 => ?_, fun h3 => ?_⟩
      · have hk3 : 0 < k := by omega
        have hx := ht.2.2 k (by omega) hk2
        have hb := htS_b xs k (xs.getD k 0).toNat
        have hn := htS_len xs k
        have hl2 : ((htS xs k).1.set k ((htS xs k).1.getD (xs.getD k 0).toNat 0 + 1)).length = xs.length := by rw [List.length_set, hn]
        refine ⟨(xs.getD k 0).toNat, (Int.toNat_of_nonneg hx.1).symm, by rw [hn]; omega, ?_⟩
        refine ⟨_, w64_in _ (by omega) (by omega), k, rfl, by omega, ?_⟩
        refine ⟨k, rfl, by omega, ?_⟩
        exact ⟨_, w64_in _ (by omega) (by omega), k + 1, by dsimp only; omega, by dsimp only; omega, ⟨rfl, rfl⟩, ⟨rfl, retI (by rw [htS_s _ _ hk3, L_set_self _ _ _ _ (by rw [hn]; exact hk2)]; rfl), rfl, rfl, rfl, rfl, trivial⟩, rowE (by rw [htS_s _ _ hk3]), trivial⟩
      · obtain rfl : k = 0 := by omega
        refine ⟨0, rfl, by rw [htS_len]; omega, ?_⟩
        exact ⟨_, w64_in _ (by omega) (by omega), 1, by dsimp only; omega, by dsimp only; omega, ⟨rfl, rfl⟩, ⟨rfl, retI (by rw [htS_0, htS, rep_getD]; rfl), rfl, rfl, rfl, rfl, trivial⟩, rfl, trivial⟩
    · obtain rfl : k = xs.length := by omega
      exact ⟨none, ⟨retI (by rw [heightV, if_pos h1]), trivial⟩, rfl, rfl⟩
  · exact ⟨none, ⟨retI (by rw [heightV, if_neg (by rw [h1]; decide)]), trivial⟩, rfl, rfl⟩
end Go.Proofs.YtacjiemkbhhhoaaGreatDoor
set_option linter.unusedVariables false
namespace Go.Proofs.YtacjiemkbhhhoaaGreatDoor.Ow
open Go Go.RowKit
/-- a slice of lists, each with a block of its own -/
def PVS (w : World) (S : Nat → Prop) (e : Nat) (d : Bool) (xss : List (List Int)) (v : Value) : Prop :=
  (xss = [] ∧ ∃ a cap, v = .slice a 0 cap ∧ (a = none → cap = 0)) ∨
  ∃ b cur E, v = .slice (some ⟨b, 0, none⟩) (List.length xss) cur.size ∧ S b ∧ w.heap[b]? = some (.cells cur E (0, 0)) ∧ List.length xss ≤ cur.size ∧ Cells w (fun c => S c ∧ c ≠ b) (.sw e d) xss cur
def PV (w : World) (S : Nat → Prop) : (t : Ty) → t.T → Value → Prop
  | .sl (.sw e d), xss, v => PVS w S e d xss v
  | t, x, v => Rd w S t x v
theorem PVS.rd {w : World} {S : Nat → Prop} {e : Nat} {d : Bool} {xss : List (List Int)} {v : Value} (h : PVS w S e d xss v) : Rd w S (.sl (.sw e d)) xss v := by
  rcases h with ⟨rfl, a, cap, h1, h2⟩ | ⟨b, cur, E, h1, h2, h3, h4, h5⟩
  · exact ⟨a, cap, h1, Nat.zero_le _, h2, .inl rfl⟩
  · refine ⟨_, _, h1, h4, (fun hh => by cases hh), .inr ⟨b, 0, rfl, h2, fun j hj => ?_⟩⟩
    obtain ⟨cv, g1, g2⟩ := h5.c j hj
    exact ⟨cv, by rw [Nat.zero_add, cell_of_row w b j cur E (0, 0) h3]; exact g1, RdW.ext (fun b hb _ => ⟨rfl, hb.1⟩) g2⟩
theorem PV.rd {w : World} {S : Nat → Prop} {t : Ty} {x : t.T} {v : Value} (h : PV w S t x v) : Rd w S t x v := by
  cases t with
  | sl t' => cases t' with
    | sw e d => exact PVS.rd h
    | _ => exact h
  | _ => exact h
theorem PVS.ext {w w' : World} {S S' : Nat → Prop} (hk : ∀ b, S b → b < w.heap.size → w'.heap[b]? = w.heap[b]? ∧ S' b) {e : Nat} {d : Bool} {xss : List (List Int)} {v : Value} (h : PVS w S e d xss v) : PVS w' S' e d xss v := by
  rcases h with h | ⟨b, cur, E, h1, h2, h3, h4, h5⟩
  · exact .inl h
  · obtain ⟨g1, g2⟩ := hk b h2 (lt_of_heap h3)
    refine .inr ⟨b, cur, E, h1, g2, g1.trans h3, h4, fun j hj => ?_, h5.d⟩
    obtain ⟨cv, g3, g4⟩ := h5.c j hj
    exact ⟨cv, g3, RdW.ext (fun c hc hl => ⟨(hk c hc.1 hl).1, (hk c hc.1 hl).2, hc.2⟩) g4⟩
theorem PV.ext {w w' : World} {S S' : Nat → Prop} (hk : ∀ b, S b → b < w.heap.size → w'.heap[b]? = w.heap[b]? ∧ S' b) {t : Ty} {x : t.T} {v : Value} (h : PV w S t x v) : PV w' S' t x v := by
  cases t with
  | sl t' => cases t' with
    | sw e d => exact PVS.ext hk h
    | _ => exact Rd.ext hk _ _ _ h
  | _ => exact Rd.ext hk _ _ _ h
/-- what a pool holds -/
structure Pool where
  t : Ty
  x : t.T
/-- values: one value; nil; data of old; the value of a pool; a pointer to the j-th list of a pool; that list; two of them; what an operation that was passed over leaves -/
inductive LV where
  | f (av : AV)
  | n
  | o (t : Ty) (x : t.T)
  | p (i : Nat)
  | pe (i j : Nat)
  | pi (i j : Nat)
  | two (x y : LV)
  | u
  | any
structure LSt where
  env : List (Nat × LV)
  pools : List Pool
def lookL (env : List (Nat × LV)) (t : Nat) : LV :=
  match env with
  | [] => .any
  | (u, v) :: r => match Nat.beq u t with | true => v | false => lookL r t
/-- a pool's content as others see it -/
def wkA : (t : Ty) → t.T → AV
  | .sw _ _, xs => .d false (.sl .int) xs
  | .sl (.sw _ _), xss => .d false (.sl (.sl .int)) xss
  | t, x => .d false t x
def cvL (pools : List Pool) : LV → AV
  | .f av => av
  | .n => .nil
  | .o t x => .d false t x
  | .p i => match pools[i]? with | some ⟨t, x⟩ => wkA t x | none => .any
  | .pi i j => match pools[i]? with | some ⟨.sl (.sw _ _), xss⟩ => (match xss[j]? with | some xs => .d false (.sl .int) xs | none => .any) | _ => .any
  | .u => .tup []
  | _ => .any
def cvE (pools : List Pool) : List (Nat × LV) → List (Nat × AV)
  | [] => []
  | (t, x) :: l => (t, cvL pools x) :: cvE pools l
theorem look_cvE (pools : List Pool) : ∀ (env : List (Nat × LV)) (t : Nat), look (cvE pools env) t = cvL pools (lookL env t)
  | [], t => rfl
  | (u, v) :: l, t => by
    unfold cvE look lookL
    cases Nat.beq u t with
    | true => rfl
    | false => exact look_cvE pools l t
def LVal (n0 : Nat) (w : World) (vals : List Value) (pools : List Pool) : LV → Value → Prop
  | .f av, v => ∃ u, flatV av = some u ∧ v = u
  | .n, v => v = .slice none 0 0
  | .o t x, v => Rd w (fun b => b < n0) t x v
  | .p i, v => vals[i]? = some v
  | .pe i j, v => ∃ (e : Nat) (d : Bool) (xss : List (List Int)) (pv : Value) (b cap : Nat), pools[i]? = some ⟨.sl (.sw e d), xss⟩ ∧ vals[i]? = some pv ∧ j < xss.length ∧ pv = .slice (some ⟨b, 0, none⟩) (List.length xss) cap ∧ v = .pointer (some ⟨b, j, none⟩)
  | .pi i j, v => ∃ (e : Nat) (d : Bool) (xss : List (List Int)) (pv : Value) (b cap : Nat), pools[i]? = some ⟨.sl (.sw e d), xss⟩ ∧ vals[i]? = some pv ∧ j < xss.length ∧ pv = .slice (some ⟨b, 0, none⟩) (List.length xss) cap ∧ w.cell? ⟨b, j, none⟩ = some v
  | .two x y, v => ∃ a b, v = .tuple #[a, b] ∧ LVal n0 w vals pools x a ∧ LVal n0 w vals pools y b
  | .u, v => v = undef
  | .any, _ => True
structure LSat (w0 : World) (n0 : Nat) (w : World) (ps : List (Nat → Prop)) (vals : List Value) (a : Act) (N : Nat) (st : LSt) : Prop where
  n : n0 ≤ w0.heap.size
  os : w.os = w0.os
  tape : w.tape = w0.tape
  output : w.output = w0.output
  sz : w0.heap.size ≤ w.heap.size
  fr : ∀ b, b < w0.heap.size → (∀ S ∈ ps, ¬ S b) → w.heap[b]? = w0.heap[b]?
  l1 : ps.length = st.pools.length
  l2 : vals.length = st.pools.length
  lt : ∀ (i : Nat) (S : Nat → Prop), ps[i]? = some S → ∀ b, S b → n0 ≤ b ∧ b < w.heap.size
  dis : ∀ (i j : Nat) (S T : Nat → Prop), ps[i]? = some S → ps[j]? = some T → i ≠ j → ∀ b, S b → ¬ T b
  pv : ∀ (i : Nat) (S : Nat → Prop) (p : Pool) (v : Value), ps[i]? = some S → st.pools[i]? = some p → vals[i]? = some v → PV w S p.t p.x v
  env : ∀ t, LVal n0 w vals st.pools (lookL st.env t) (a.tmps.getD t undef)
  size : a.tmps.size = N
  dfs : a.defers = []
section
variable {P : Program} {τ : Nat → TI} {N n0 : Nat} {w0 w : World} {ps : List (Nat → Prop)} {vals : List Value} {a : Act} {st : LSt}
theorem Rd.free {w w' : World} {S S' : Nat → Prop} (hs : ∀ b, S b → b < w.heap.size → w'.heap[b]? = w.heap[b]? ∧ S' b) {t : Ty} {x : t.T} {v : Value} (h : Rd w S t x v) : Rd w' S' t x v := Rd.ext hs t x v h
theorem wkA_ok {w : World} {S : Nat → Prop} {t : Ty} {x : t.T} {v : Value} (h : Rd w S t x v) : V w [] (fun _ => False) [] (wkA t x) v := by
  have h' : Rd w (fun b => b ∉ ([] : List Nat)) t x v := Rd.ext (fun b _ _ => ⟨rfl, by simp⟩) t x v h
  cases t with
  | sw e d => exact RdW.rd h'
  | sl t' => cases t' with
    | sw e d => exact Rd.wk h'
    | _ => exact h'
  | _ => exact h'
theorem LVal.cv (h : LSat w0 n0 w ps vals a N st) : ∀ {x : LV} {v : Value}, LVal n0 w vals st.pools x v → V w [] (fun _ => False) [] (cvL st.pools x) v
  | .f av, v, hv => by
    obtain ⟨u, h1, rfl⟩ := hv
    exact flatV_mk h1
  | .n, v, hv => hv
  | .o t x, v, hv => Rd.ext (fun b hb _ => ⟨rfl, by simp [SS]⟩) t x v hv
  | .p i, v, hv => by
    have hi : i < st.pools.length := by rw [← h.l2]; exact (List.getElem?_eq_some_iff.1 hv).1
    have hp : st.pools[i]? = some st.pools[i] := List.getElem?_eq_getElem hi
    have hS : ps[i]? = some (ps[i]'(by rw [h.l1]; exact hi)) := List.getElem?_eq_getElem _
    have := h.pv i _ _ _ hS hp hv
    have e : cvL st.pools (.p i) = wkA (st.pools[i]).t (st.pools[i]).x := by simp only [cvL, hp]
    rw [e]
    exact wkA_ok this.rd
  | .pe i j, v, _ => trivial
  | .pi i j, v, hv => by
    obtain ⟨e, d, xss, pv, b, cap, h1, h2, h3, h4, h5⟩ := hv
    have hS : ps[i]? = some (ps[i]'(by rw [h.l1]; exact (List.getElem?_eq_some_iff.1 h1).1)) := List.getElem?_eq_getElem _
    have hp := h.pv i _ _ _ hS h1 h2
    have e1 : cvL st.pools (.pi i j) = .d false (.sl .int) xss[j] := by simp only [cvL, h1, List.getElem?_eq_getElem h3]
    rw [e1]
    have hp : PVS w _ e d xss pv := hp
    rcases hp with ⟨k, _⟩ | ⟨b', cur, E, k1, k2, k3, k4, k5⟩
    · rw [k] at h3; simp at h3
    · rw [h4] at k1
      simp only [Value.slice.injEq, Option.some.injEq, Addr.mk.injEq] at k1
      obtain ⟨⟨rfl, _⟩, _, _⟩ := k1
      rw [cell_of_row w b j cur E (0, 0) k3] at h5
      obtain ⟨cv, g1, g2⟩ := k5.c j h3
      rw [h5] at g1; cases g1
      exact RdW.rd (RdW.ext (fun _ _ _ => ⟨rfl, by simp [SS]⟩) g2)
  | .two x y, v, _ => trivial
  | .u, v, hv => ⟨[], hv, rfl⟩
  | .any, v, _ => trivial
theorem LSat.sat (h : LSat w0 n0 w ps vals a N st) : Sat w [] (fun _ => False) a N ⟨cvE st.pools st.env, []⟩ :=
  ⟨rfl, List.nodup_nil, fun b hb => by simp at hb, fun b hb => hb.elim, fun i b r hb => by simp at hb, fun t => by
    show V _ _ _ _ (look (cvE st.pools st.env) t) _
    rw [look_cvE]
    exact LVal.cv h (h.env t), h.size, h.dfs⟩
end
def fLV (k : LV → Prop) : LV → Prop
  | .f av => fAV (fun av' => k (.f av')) av
  | .n => k .n
  | .o t x => k (.o t x)
  | .p i => k (.p i)
  | .pe i j => k (.pe i j)
  | .pi i j => k (.pi i j)
  | .two x y => fLV (fun x' => fLV (fun y' => k (.two x' y')) y) x
  | .u => k .u
  | .any => k .any
theorem fLV_eq : ∀ (x : LV) (k : LV → Prop), fLV k x = k x
  | .f av, k => fAV_eq (fun av' => k (.f av')) av
  | .n, k => rfl
  | .o _ _, k => rfl
  | .p _, k => rfl
  | .pe _ _, k => rfl
  | .pi _ _, k => rfl
  | .two x y, k => by rw [fLV, fLV_eq x, fLV_eq y]
  | .u, k => rfl
  | .any, k => rfl
def fPs : List Pool → (List Pool → Prop) → Prop
  | [], k => k []
  | p :: l, k => match p with | ⟨t, x⟩ => fPs l fun l' => k (⟨t, x⟩ :: l')
theorem fPs_eq : ∀ (l : List Pool) (k : List Pool → Prop), fPs l k = k l
  | [], _ => rfl
  | ⟨t, x⟩ :: l, k => by rw [fPs, fPs_eq l]
def lput (N : Nat) (dst : Option Nat) (x : LV) (st : LSt) (K : LSt → Prop) : Prop :=
  match st with
  | ⟨env, pools⟩ => fLV (fun x' => fPs pools fun pools' => match dst with
    | none => K ⟨env, pools'⟩
    | some d => match Nat.blt d N with | true => K ⟨(d, x') :: env, pools'⟩ | false => False) x
/-- st' says no more than st -/
def subL (env : List (Nat × LV)) : List (Nat × LV) → Prop
  | [] => True
  | (t, x) :: l => lookL env t = x ∧ subL env l
section
variable {P : Program} {τ : Nat → TI} {N n0 : Nat} {w0 w w' : World} {ps : List (Nat → Prop)} {vals : List Value} {a : Act} {st : LSt}
theorem LVal.step {vals vals' : List Value} {pools pools' : List Pool} (hold : ∀ b, b < n0 → b < w.heap.size → w'.heap[b]? = w.heap[b]?) (hv : ∀ (q : Nat) (v : Value), vals[q]? = some v → vals'[q]? = some v)
    (hp : ∀ (q : Nat) (e : Nat) (d : Bool) (xss : List (List Int)), pools[q]? = some ⟨.sl (.sw e d), xss⟩ → ∃ xss' : List (List Int), pools'[q]? = some ⟨.sl (.sw e d), xss'⟩ ∧ xss'.length = xss.length)
    (hc : ∀ (q : Nat) (e : Nat) (d : Bool) (xss : List (List Int)) (b cap j : Nat) (v : Value), pools[q]? = some ⟨.sl (.sw e d), xss⟩ → vals[q]? = some (.slice (some ⟨b, 0, none⟩) (List.length xss) cap) → j < xss.length → w.cell? ⟨b, j, none⟩ = some v → w'.cell? ⟨b, j, none⟩ = some v) :
    ∀ {x : LV} {v : Value}, LVal n0 w vals pools x v → LVal n0 w' vals' pools' x v
  | .f _, _, h => h
  | .n, _, h => h
  | .o t x, v, h => Rd.ext (fun b hb hl => ⟨hold b hb hl, hb⟩) t x v h
  | .p i, v, h => hv i v h
  | .pe i j, v, h => by
    obtain ⟨e, d, xss, pv, b, cap, h1, h2, h3, h4, h5⟩ := h
    obtain ⟨xss', g1, g2⟩ := hp _ _ _ _ h1
    exact ⟨e, d, xss', pv, b, cap, g1, hv _ _ h2, by omega, by rw [g2]; exact h4, h5⟩
  | .pi i j, v, h => by
    obtain ⟨e, d, xss, pv, b, cap, h1, h2, h3, h4, h5⟩ := h
    obtain ⟨xss', g1, g2⟩ := hp _ _ _ _ h1
    subst h4
    exact ⟨e, d, xss', _, b, cap, g1, hv _ _ h2, by omega, by rw [g2], hc _ _ _ _ _ _ _ _ h1 h2 h3 h5⟩
  | .two x y, v, h => by
    obtain ⟨a, b, h1, h2, h3⟩ := h
    exact ⟨a, b, h1, LVal.step hold hv hp hc h2, LVal.step hold hv hp hc h3⟩
  | .u, _, h => h
  | .any, _, h => h
theorem lookL_cons (d : Nat) (x : LV) (env : List (Nat × LV)) (t : Nat) : lookL ((d, x) :: env) t = if d = t then x else lookL env t := by
  show (match Nat.beq d t with | true => x | false => lookL env t) = _
  by_cases h : d = t
  · subst h; simp
  · have : Nat.beq d t = false := by
      cases hb : Nat.beq d t
      · rfl
      · exact (h (Nat.eq_of_beq_eq_true hb)).elim
    rw [this, if_neg h]
theorem lput_ok {x : LV} {v : Value} {dst : Option Nat} {K : LSt → Prop} (hs : LSat w0 n0 w ps vals a N st) (hv : LVal n0 w vals st.pools x v) (h : lput N dst x st K) : ∃ st', LSat w0 n0 w ps vals (a.put dst v) N st' ∧ K st' := by
  unfold lput at h
  simp only [fLV_eq, fPs_eq] at h
  split at h
  · exact ⟨st, hs, h⟩
  · rename_i d
    split at h
    · rename_i hd
      have hd' : d < N := by
        have : Nat.ble (d + 1) N = true := hd
        exact Nat.le_of_ble_eq_true this
      refine ⟨⟨(d, x) :: st.env, st.pools⟩, { hs with env := fun t => ?_, size := by simp [Act.put, hs.size], dfs := hs.dfs }, h⟩
      show LVal n0 w vals st.pools (lookL ((d, x) :: st.env) t) _
      rw [lookL_cons]
      have hsz := hs.size
      by_cases e : d = t
      · subst e
        rw [if_pos rfl]
        have : (a.put (some d) v).tmps.getD d undef = v := by simp [Act.put, Array.getD, hsz, hd']
        rw [this]; exact hv
      · rw [if_neg e]
        have : (a.put (some d) v).tmps.getD t undef = a.tmps.getD t undef := by
          simp only [Act.put, Array.getD_eq_getD_getElem?, Array.getElem?_setIfInBounds]
          rw [if_neg e]
        rw [this]; exact hs.env t
    · exact h.elim
def Ext1 {α : Type} (l l' : List α) : Prop := ∃ x, l' = l ++ x
theorem Ext1.refl {α : Type} (l : List α) : Ext1 l l := ⟨[], by simp⟩
theorem Ext1.trans {α : Type} {l l' l'' : List α} (h : Ext1 l l') (k : Ext1 l' l'') : Ext1 l l'' := by
  obtain ⟨x, rfl⟩ := h
  obtain ⟨y, rfl⟩ := k
  exact ⟨x ++ y, by simp⟩
def NxL (w0 : World) (n0 N : Nat) (ps : List (Nat → Prop)) (vals : List Value) (K : LSt → Prop) (Kc : Act → World → Prop) : Prop :=
  ∀ w' ps' vals' a' st', LSat w0 n0 w' ps' vals' a' N st' → Ext1 ps ps' → Ext1 vals vals' → K st' → Kc a' w'
theorem NxL.of {K : LSt → Prop} {Kc : Act → World → Prop} (hK : NxL w0 n0 N ps vals K Kc) {ps' : List (Nat → Prop)} {vals' : List Value} {x : LV} {v : Value} {dst : Option Nat} (hs : LSat w0 n0 w ps' vals' a N st) (h1 : Ext1 ps ps') (h2 : Ext1 vals vals') (hv : LVal n0 w vals' st.pools x v) (h : lput N dst x st K) : Kc (a.put dst v) w := by
  obtain ⟨st', g1, g2⟩ := lput_ok hs hv h
  exact hK _ _ _ _ _ g1 h1 h2 g2
/-- the world has grown -/
structure Grw (w w' : World) : Prop where
  os : w'.os = w.os
  tape : w'.tape = w.tape
  output : w'.output = w.output
  size : w.heap.size ≤ w'.heap.size
  old : ∀ k, k < w.heap.size → w'.heap[k]? = w.heap[k]?
theorem Grw.cell (h : Grw w w') {b o : Nat} {v : Value} (hc : w.cell? ⟨b, o, none⟩ = some v) : w'.cell? ⟨b, o, none⟩ = some v := (cell_of_block (h.old b (cell_lt hc))).trans hc
theorem LSat.grow (hs : LSat w0 n0 w ps vals a N st) (h : Grw w w') : LSat w0 n0 w' ps vals a N st where
  n := hs.n
  os := h.os.trans hs.os
  tape := h.tape.trans hs.tape
  output := h.output.trans hs.output
  sz := Nat.le_trans hs.sz h.size
  fr := fun b hb hS => (h.old b (Nat.lt_of_lt_of_le hb hs.sz)).trans (hs.fr b hb hS)
  l1 := hs.l1
  l2 := hs.l2
  lt := fun i S hS b hb => ⟨(hs.lt i S hS b hb).1, Nat.lt_of_lt_of_le (hs.lt i S hS b hb).2 h.size⟩
  dis := hs.dis
  pv := fun i S p v h1 h2 h3 => PV.ext (fun b hb _ => ⟨h.old b (hs.lt i S h1 b hb).2, hb⟩) (hs.pv i S p v h1 h2 h3)
  env := fun t => LVal.step (fun b _ hl => h.old b hl) (fun _ _ h => h) (fun _ _ _ xss h => ⟨xss, h, rfl⟩) (fun _ _ _ _ _ _ _ _ _ _ _ hc => h.cell hc) (hs.env t)
  size := hs.size
  dfs := hs.dfs
/-- a new pool -/
theorem LSat.push (hs : LSat w0 n0 w ps vals a N st) (h : Grw w w') {p : Pool} {v : Value} (hv : PV w' (fun b => w.heap.size ≤ b ∧ b < w'.heap.size) p.t p.x v) :
    LSat w0 n0 w' (ps ++ [fun b => w.heap.size ≤ b ∧ b < w'.heap.size]) (vals ++ [v]) a N ⟨st.env, st.pools ++ [p]⟩ := by
  have hg := hs.grow h
  have hl1 := hs.l1
  have hl2 := hs.l2
  have hlt : ∀ (i : Nat) (S : Nat → Prop), (ps ++ [fun b => w.heap.size ≤ b ∧ b < w'.heap.size])[i]? = some S → (i < ps.length ∧ ps[i]? = some S) ∨ (i = ps.length ∧ S = fun b => w.heap.size ≤ b ∧ b < w'.heap.size) := fun i S hS => by
    by_cases hi : i < ps.length
    · rw [List.getElem?_append_left hi] at hS; exact .inl ⟨hi, hS⟩
    · have hi2 : i = ps.length := by have := (List.getElem?_eq_some_iff.1 hS).1; simp at this; omega
      subst hi2
      rw [List.getElem?_append_right (Nat.le_refl _)] at hS
      simp at hS
      exact .inr ⟨rfl, hS.symm⟩
  refine { n := hs.n, os := hg.os, tape := hg.tape, output := hg.output, sz := hg.sz, fr := fun b hb hS => hg.fr b hb fun S hm => hS S (List.mem_append_left _ hm), l1 := by simp [hl1], l2 := by simp [hl2], lt := ?_, dis := ?_, pv := ?_, env := ?_, size := hs.size, dfs := hs.dfs }
  · intro i S hS b hb
    rcases hlt i S hS with ⟨_, h1⟩ | ⟨_, rfl⟩
    · exact hg.lt i S h1 b hb
    · exact ⟨Nat.le_trans (Nat.le_trans hs.n hs.sz) hb.1, hb.2⟩
  · intro i j S T hS hT hij b hb hb2
    rcases hlt i S hS with ⟨h0, h1⟩ | ⟨h0, rfl⟩
    · rcases hlt j T hT with ⟨k0, k1⟩ | ⟨k0, rfl⟩
      · exact hs.dis i j S T h1 k1 hij b hb hb2
      · have := (hs.lt i S h1 b hb).2; have := hb2.1; omega
    · rcases hlt j T hT with ⟨k0, k1⟩ | ⟨k0, rfl⟩
      · have := (hs.lt j T k1 b hb2).2; have := hb.1; omega
      · omega
  · intro i S q u hS hq hu
    rcases hlt i S hS with ⟨h0, h1⟩ | ⟨h0, rfl⟩
    · simp only [List.getElem?_append_left (show i < st.pools.length by omega)] at hq
      rw [List.getElem?_append_left (by omega)] at hu
      exact hg.pv i S q u h1 hq hu
    · subst h0
      simp only [List.getElem?_append_right (show st.pools.length ≤ ps.length by omega), show ps.length - st.pools.length = 0 by omega] at hq
      rw [List.getElem?_append_right (by omega), show ps.length - vals.length = 0 by omega] at hu
      simp at hq hu
      subst hq; subst hu
      exact hv
  · intro t
    refine LVal.step (fun _ _ _ => rfl) (fun q u hq => ?_) (fun q e d xss hq => ⟨xss, ?_, rfl⟩) (fun _ _ _ _ _ _ _ _ _ _ _ hc => hc) (hg.env t)
    · rw [List.getElem?_append_left (List.getElem?_eq_some_iff.1 hq).1]; exact hq
    · show (st.pools ++ [p])[q]? = _
      rw [List.getElem?_append_left (List.getElem?_eq_some_iff.1 hq).1]; exact hq
def NxLE (w0 : World) (n0 N : Nat) (ps : List (Nat → Prop)) (vals : List Value) (Q : Exit → LSt → Prop) (R : Exit → Act → World → Prop) : Prop :=
  ∀ e w' ps' vals' a' st', LSat w0 n0 w' ps' vals' a' N st' → Ext1 ps ps' → Ext1 vals vals' → Q e st' → R e a' w'
theorem NxLE.trans {Q : Exit → LSt → Prop} {R : Exit → Act → World → Prop} (h : NxLE w0 n0 N ps vals Q R) {ps' : List (Nat → Prop)} {vals' : List Value} (h1 : Ext1 ps ps') (h2 : Ext1 vals vals') : NxLE w0 n0 N ps' vals' Q R :=
  fun e w2 ps2 vals2 a2 st2 k1 k2 k3 k4 => h e w2 ps2 vals2 a2 st2 k1 (h1.trans k2) (h2.trans k3) k4
theorem LSat.sub (hs : LSat w0 n0 w ps vals a N st) {st' : LSt} (h1 : st.pools = st'.pools) (h2 : ∀ t, lookL st'.env t = .any ∨ lookL st'.env t = lookL st.env t) : LSat w0 n0 w ps vals a N st' := by
  refine { hs with l1 := by rw [← h1]; exact hs.l1, l2 := by rw [← h1]; exact hs.l2, pv := by rw [← h1]; exact hs.pv, env := fun t => ?_, dfs := hs.dfs }
  rw [← h1]
  rcases h2 t with h | h
  · rw [h]; trivial
  · rw [h]; exact hs.env t
end
def LVals (n0 : Nat) (w : World) (vals : List Value) (pools : List Pool) : List LV → List Value → Prop
  | [], vs => vs = []
  | x :: l, vs => ∃ v r, vs = v :: r ∧ LVal n0 w vals pools x v ∧ LVals n0 w vals pools l r
theorem LVals.get {n0 : Nat} {w : World} {vals : List Value} {pools : List Pool} : ∀ {l : List LV} {vs : List Value} {i : Nat} {x : LV}, LVals n0 w vals pools l vs → l[i]? = some x → ∃ v, vs[i]? = some v ∧ LVal n0 w vals pools x v
  | [], _, i, x, _, h => by simp at h
  | y :: l, _, 0, x, hv, h => by
    obtain ⟨v, r, rfl, h1, _⟩ := hv
    simp at h; subst h
    exact ⟨v, rfl, h1⟩
  | y :: l, _, i + 1, x, hv, h => by
    obtain ⟨v, r, rfl, _, h2⟩ := hv
    obtain ⟨u, h3, h4⟩ := LVals.get h2 (by simpa using h)
    exact ⟨u, by simpa using h3, h4⟩
theorem LVals.len {n0 : Nat} {w : World} {vals : List Value} {pools : List Pool} : ∀ {l : List LV} {vs : List Value}, LVals n0 w vals pools l vs → vs.length = l.length
  | [], _, h => by cases h; rfl
  | _ :: _, _, h => by obtain ⟨v, r, rfl, _, h2⟩ := h; simp [LVals.len h2]
end Go.Proofs.YtacjiemkbhhhoaaGreatDoor.Ow
set_option linter.unusedVariables false
namespace Go.Proofs.YtacjiemkbhhhoaaGreatDoor
open Go Go.Proofs.YtacjiemkbhhhoaaGreatDoor.Ow
/-- impl.ExchangePatterns of anything else -/
theorem impl_ExchangePatterns_no (sh : Bool) (g : List (List Int)) (k : Int) (hl : g.length ≤ 1048576) (hx : ∀ i, i < g.length → (g.getD i []).length ≤ 1048576) (hE : (gokB g && smallB (g.getD 0 []).length k) = false) :
    AC Tryz.prog 83 [.d sh (.sl (.sl .int)) g, I k] [] [.nil, .d true .bool false] [] := by
  refine AC_of tauOk 44 0 [4, 5] Tryz.func83 rfl (by kernel_rfl) rfl rfl rfl rfl rfl ?_
  refine ⟨[], false, _, _, impl_GroupOk sh g hl hx, List.nodup_nil, rfl, rfl, trivial, fun h1 => ?_, fun h1 => ?_⟩
  · have hG := (gokB_iff g).1 h1
    have hg0 : 0 < g.length := by have := hG.l1; omega
    have hp0 := (gok1_p (hG.o1 0 hg0)).1.1
    have hSm := impl_isSmall (g.getD 0 []).length k hp0.2
    rw [h1, Bool.true_and] at hE
    rw [hE] at hSm
    refine ⟨0, rfl, hg0, [], false, _, _, hSm, List.nodup_nil, rfl, rfl, trivial, nofun, fun _ => ?_⟩
    exact ⟨none, ⟨rfl, rfl, trivial⟩, rfl, rfl⟩
  · exact ⟨none, ⟨rfl, rfl, trivial⟩, rfl, rfl⟩
end Go.Proofs.YtacjiemkbhhhoaaGreatDoor
set_option linter.unusedVariables false
namespace Go.Proofs.YtacjiemkbhhhoaaGreatDoor
open Go Go.Proofs.YtacjiemkbhhhoaaGreatDoor.Ow
/-- the patterns -/
def patL (g : List (List Int)) (k n : Nat) : List (List Int) := kptL (fun w => decide (canL g w = w)) k n (k ^ n)
theorem patL_eq (g : List (List Int)) (k n : Nat) : patL g k n = (wordsL k n).filter fun w => decide (canL g w = w) := by
  unfold patL kptL; rw [wordsL_eq]
/-- a group and few colors -/
def epB (g : List (List Int)) (k : Int) : Bool := gokB g && smallB (g.getD 0 []).length k
end Go.Proofs.YtacjiemkbhhhoaaGreatDoor
set_option linter.unusedVariables false
namespace Go.Proofs.YtacjiemkbhhhoaaGreatDoor
open Go Go.Proofs.YtacjiemkbhhhoaaGreatDoor.Ow
theorem canL_len {g : List (List Int)} {xs : List Int} (hg : ∀ i, i < g.length → PermP (g.getD i []) ∧ (g.getD i []).length = xs.length) : (canL g xs).length = xs.length := by
  rcases bst_mem (fun p => actL p xs) xs g g.length with h | ⟨i, hi, h⟩
  · rw [canL, h]
  · rw [canL, h, actL_len]
/-- the patterns among the first i words, up to a group -/
def ptnS (g : List (List Int)) (k n i : Nat) : List (List Int) := ((wordsL k n).take i).filter fun w => decide (canL g w = w)
theorem ptnS_y (g : List (List Int)) (k n i : Nat) (hi : i < (wordsL k n).length) (h : canL g ((wordsL k n).getD i []) = (wordsL k n).getD i []) : ptnS g k n (i + 1) = ptnS g k n i ++ [(wordsL k n).getD i []] := by
  rw [ptnS, L_succ _ i [] hi, List.filter_append, List.filter_cons_of_pos (by rw [decide_eq_true_eq]; exact h)]; rfl
theorem ptnS_n (g : List (List Int)) (k n i : Nat) (hi : i < (wordsL k n).length) (h : ¬ canL g ((wordsL k n).getD i []) = (wordsL k n).getD i []) : ptnS g k n (i + 1) = ptnS g k n i := by
  rw [ptnS, L_succ _ i [] hi, List.filter_append, List.filter_cons_of_neg (by rw [decide_eq_true_eq]; exact h)]; simp [ptnS]
theorem ptnS_le (g : List (List Int)) (k n i : Nat) : (ptnS g k n i).length ≤ i := Nat.le_trans (List.length_filter_le _ _) (by rw [List.length_take]; omega)
/-- impl.PatternsOf of a group and few colors -/
theorem impl_PatternsOf_d (sh : Bool) (g : List (List Int)) (K : Nat) (hl : g.length ≤ 1048576) (hx : ∀ i, i < g.length → (g.getD i []).length ≤ 1048576) (hB : gokB g = true) (hS : smallB (g.getD 0 []).length (K : Nat) = true) :
    AC Tryz.prog 82 [.d sh (.sl (.sl .int)) g, I (K : Nat)] [] [.ow 0, .d true .bool true] [.sl 29 (.sl .int) (patL g K (g.getD 0 []).length)] := by
  have hG := (gokB_iff g).1 hB
  have hg0 : 0 < g.length := by have := hG.l1; omega
  have hp0 := (gok1_p (hG.o1 0 hg0)).1.1
  have hgp : ∀ i, i < g.length → PermP (g.getD i []) ∧ (g.getD i []).length = (g.getD 0 []).length := fun i hi => ⟨(gok1_p (hG.o1 i hi)).1, (gok1_p (hG.o1 i hi)).2.1⟩
  have hK : K ≤ 4 := by
    unfold smallB at hS
    simp only [Bool.and_eq_true, decide_eq_true_eq] at hS
    omega
  have hSm := impl_isSmall (g.getD 0 []).length (K : Nat) hp0.2
  rw [hS] at hSm
  have hwl := wordsL_len K (g.getD 0 []).length
  have hpw : K ^ (g.getD 0 []).length ≤ 1048576 := pow_le hK hp0.2 (Nat.le_refl 10)
  have hwc : ∀ i, i < (wordsL K (g.getD 0 []).length).length → ColP ((wordsL K (g.getD 0 []).length).getD i []) ∧ ((wordsL K (g.getD 0 []).length).getD i []).length = (g.getD 0 []).length := fun i hi => by
    refine ⟨wrd_col hp0.1 hp0.2 hK hi, ?_⟩
    rw [hwl] at hi
    rw [wordsL_get _ _ _ hi, wrdN_len]
  have hye := ptnS_y g K (g.getD 0 []).length
  have hno := ptnS_n g K (g.getD 0 []).length
  have hle := ptnS_le g K (g.getD 0 []).length
  have h00 : ptnS g K (g.getD 0 []).length 0 = [] := by simp [ptnS]
  have hend : ptnS g K (g.getD 0 []).length (wordsL K (g.getD 0 []).length).length = patL g K (g.getD 0 []).length := by rw [ptnS, List.take_length, patL_eq]
  refine AC_of tauOk 44 0 [4, 5] Tryz.func82 rfl (by kernel_rfl) rfl rfl rfl rfl rfl ?_
  refine ⟨[], false, _, _, impl_GroupOk sh g hl hx, List.nodup_nil, rfl, rfl, trivial, fun _ => ?_, fun h => by rw [hB] at h; cases h⟩
  refine ⟨0, rfl, hg0, [], false, _, _, hSm, List.nodup_nil, rfl, rfl, trivial, fun _ => ?_, nofun⟩
  refine ⟨rfl, by decide, true, ?_⟩
  refine ⟨0, rfl, hg0, [], false, _, _, impl_wordsOf (g.getD 0 []).length K hp0.2 hK, List.nodup_nil, rfl, rfl, trivial, ?_⟩
  generalize wordsL K (g.getD 0 []).length = W at *
  refine ⟨Nat, fun i => ⟨[(0, .d sh (.sl (.sl .int)) g), (6, .ow 0), (27, .d true (.sl (.sl .int)) W), (28, I W.length), (29, I (i : Nat))], [.sl 29 (.sl .int) (ptnS g K (g.getD 0 []).length i)]⟩, fun i => i ≤ W.length, fun i => W.length - i, 0, Nat.zero_le _,
    ⟨⟨rfl, rfl⟩, ⟨rfl, rfl, rfl, rfl, rfl, trivial⟩, rowE h00.symm, trivial⟩, fun i hi => ?_⟩
  dsimp only at hi
  have hlei := hle i
  refine ⟨fun h2 => ?_, fun h2 => ?_⟩
  · have hi2 : i < W.length := by omega
    obtain ⟨hc, hcl⟩ := hwc i hi2
    have hy := hye i hi2
    have hn := hno i hi2
    have hl10 := hc.2
    refine ⟨i, rfl, hi2, ?_⟩
    have hgv : ∀ a, a < g.length → PermP (g.getD a []) ∧ (g.getD a []).length = (W.getD i []).length := fun a ha => by rw [hcl]; exact hgp a ha
    have hce := canL_len hgv
    refine ⟨[], true, _, _, impl_canon sh true g (W.getD i []) hgv hl hc, List.nodup_nil, rfl, rfl, trivial, ?_⟩
    refine ⟨[], false, _, _, slices_Equal_int true true (canL g (W.getD i [])) (W.getD i []) (by omega) (by omega), List.nodup_nil, rfl, rfl, trivial, fun h3 => ?_, fun h3 => ?_⟩
    · have h3 := of_decide_eq_true h3
      refine ⟨rfl, by decide, false, ?_⟩
      refine ⟨rfl, Nat.zero_le _, rfl, ?_, rfl, ?_⟩
      · simp only [List.length_cons, List.length_nil]; omega
      · exact ⟨((i + 1 : Nat) : Int), w64_eq (by omega) (by omega) (by omega), i + 1, by dsimp only; omega, by dsimp only; omega, ⟨rfl, rfl⟩, ⟨rfl, rfl, rfl, rfl, rfl, trivial⟩, rowE (hy h3).symm, trivial⟩
    · have h3 := of_decide_eq_false h3
      exact ⟨((i + 1 : Nat) : Int), w64_eq (by omega) (by omega) (by omega), i + 1, by dsimp only; omega, by dsimp only; omega, ⟨rfl, rfl⟩, ⟨rfl, rfl, rfl, rfl, rfl, trivial⟩, rowE (hn h3).symm, trivial⟩
  · obtain rfl : i = W.length := by omega
    exact ⟨some 0, ⟨⟨rfl, rfl⟩, rfl, trivial⟩, ⟨rfl, rowsE hend⟩, rfl⟩
theorem impl_PatternsOf_no (sh : Bool) (g : List (List Int)) (k : Int) (hl : g.length ≤ 1048576) (hx : ∀ i, i < g.length → (g.getD i []).length ≤ 1048576) (hE : epB g k = false) :
    AC Tryz.prog 82 [.d sh (.sl (.sl .int)) g, I k] [] [.nil, .d true .bool false] [] := by
  refine AC_of tauOk 44 0 [4, 5] Tryz.func82 rfl (by kernel_rfl) rfl rfl rfl rfl rfl ?_
  refine ⟨[], false, _, _, impl_GroupOk sh g hl hx, List.nodup_nil, rfl, rfl, trivial, fun hB => ?_, fun hB => ?_⟩
  · have hG := (gokB_iff g).1 hB
    have hg0 : 0 < g.length := by have := hG.l1; omega
    have hp0 := (gok1_p (hG.o1 0 hg0)).1.1
    have hS := impl_isSmall (g.getD 0 []).length k hp0.2
    rw [epB, hB, Bool.true_and] at hE
    rw [hE] at hS
    refine ⟨0, rfl, hg0, [], false, _, _, hS, List.nodup_nil, rfl, rfl, trivial, nofun, fun _ => ?_⟩
    exact ⟨none, ⟨rfl, rfl, trivial⟩, rfl, rfl⟩
  · exact ⟨none, ⟨rfl, rfl, trivial⟩, rfl, rfl⟩
end Go.Proofs.YtacjiemkbhhhoaaGreatDoor
set_option linter.unusedVariables false
namespace Go.Proofs.YtacjiemkbhhhoaaGreatDoor
open Go Go.Proofs.YtacjiemkbhhhoaaGreatDoor.Ow
theorem gcd_mod (x y : Nat) : Nat.gcd y (x % y) = Nat.gcd x y := by
  rw [Nat.gcd_comm y, ← Nat.gcd_rec, Nat.gcd_comm]
/-- impl.common -/
theorem impl_common (a b : Nat) (ha : a ≤ 1048576) (hb : b ≤ 1048576) : AC Tryz.prog 274 [I (a : Nat), I (b : Nat)] [] [I (Nat.gcd a b : Nat)] [] := by
  refine AC_of tauOk 12 0 [4] Tryz.func274 rfl (by kernel_rfl) rfl rfl rfl rfl rfl ?_
  refine ⟨Nat × Nat, fun i => ⟨[(0, I (i.1 : Nat)), (1, I (i.2 : Nat))], []⟩, fun i => i.1 ≤ 1048576 ∧ i.2 ≤ 1048576 ∧ Nat.gcd i.1 i.2 = Nat.gcd a b, fun i => i.2, (a, b), ⟨ha, hb, rfl⟩,
    ⟨⟨rfl, rfl⟩, ⟨rfl, rfl, trivial⟩, trivial⟩, ?_⟩
  rintro ⟨x, y⟩ ⟨hx, hy, hg⟩
  dsimp only at hx hy hg
  refine ⟨fun h1 => ?_, fun h1 => ?_⟩
  · dsimp only at h1
    have hm := Nat.mod_lt x (show y > 0 by omega)
    refine ⟨none, by kernel_rfl, by dsimp only; omega, ((x % y : Nat) : Int), Int.ofNat_tmod x y, ?_⟩
    exact ⟨(y, x % y), ⟨hy, by dsimp only; omega, by dsimp only; rw [gcd_mod, hg]⟩, by dsimp only; omega, ⟨rfl, rfl⟩, ⟨rfl, rfl, trivial⟩, trivial⟩
  · dsimp only at h1
    obtain rfl : y = 0 := by omega
    rw [Nat.gcd_zero_right] at hg
    exact ⟨none, ⟨retI (by rw [← hg]), trivial⟩, rfl, rfl⟩
/-- how many of the first k numbers have no common divisor with n -/
def totS (n : Nat) : Nat → Nat
  | 0 => 0
  | k + 1 => totS n k + if Nat.gcd (k + 1) n = 1 then 1 else 0
theorem totS_le (n : Nat) : ∀ k, totS n k ≤ k
  | 0 => Nat.le_refl _
  | k + 1 => by have := totS_le n k; rw [totS]; split <;> omega
/-- impl.Totient -/
theorem impl_Totient (n : Nat) (h1 : 1 ≤ n) (h2 : n ≤ 1000) : AC Tryz.prog 181 [I (n : Nat)] [] [I (totS n n : Nat)] [] := by
  have hle := totS_le n
  refine AC_of tauOk 23 0 [2] Tryz.func181 rfl (by kernel_rfl) rfl rfl rfl rfl rfl ?_
  refine ⟨fun h => by omega, fun _ => ?_⟩
  refine ⟨fun h => by omega, fun _ => ?_⟩
  refine ⟨Nat, fun k => ⟨[(0, I (n : Nat)), (3, I (totS n k : Nat)), (4, I ((k + 1 : Nat) : Int))], []⟩, fun k => k ≤ n, fun k => n - k, 0, Nat.zero_le _,
    ⟨⟨rfl, rfl⟩, ⟨rfl, rfl, rfl, trivial⟩, trivial⟩, fun k hk => ?_⟩
  dsimp only at hk
  have hlk := hle k
  refine ⟨fun h3 => ?_, fun h3 => ?_⟩
  · have hk2 : k < n := by omega
    refine ⟨[], false, _, _, impl_common (k + 1) n (by omega) (by omega), List.nodup_nil, rfl, rfl, trivial, fun h4 => ?_, fun h4 => ?_⟩
    · have e : totS n (k + 1) = totS n k + 1 := by rw [totS, if_pos (by omega)]
      refine ⟨((totS n (k + 1) : Nat) : Int), w64_eq (by omega) (by omega) (by omega), ?_⟩
      exact ⟨((k + 1 + 1 : Nat) : Int), w64_eq (by omega) (by omega) (by omega), k + 1, by dsimp only; omega, by dsimp only; omega, ⟨rfl, rfl⟩, ⟨rfl, rfl, rfl, trivial⟩, trivial⟩
    · have e : totS n (k + 1) = totS n k := by rw [totS, if_neg (by omega)]; rfl
      exact ⟨((k + 1 + 1 : Nat) : Int), w64_eq (by omega) (by omega) (by omega), k + 1, by dsimp only; omega, by dsimp only; omega, ⟨rfl, rfl⟩, ⟨rfl, retI (by rw [e]), rfl, trivial⟩, trivial⟩
  · obtain rfl : k = n := by omega
    exact ⟨none, ⟨rfl, trivial⟩, rfl, rfl⟩
/-- the Moebius function's search -/
def mobF : Nat → Nat → Int → Nat → Int
  | 0, _, out, _ => out
  | f + 1, n, out, d => if n ≤ 1 then out else if n % d ≠ 0 then mobF f n out (d + 1) else if (n / d) % d = 0 then 0 else mobF f (n / d) (-out) (d + 1)
def mobN (n : Nat) : Int := mobF (2 * n) n 1 2
theorem mobF_b : ∀ (f n : Nat) (out : Int) (d : Nat), -1 ≤ out → out ≤ 1 → -1 ≤ mobF f n out d ∧ mobF f n out d ≤ 1
  | 0, n, out, d, h1, h2 => by rw [mobF]; exact ⟨h1, h2⟩
  | f + 1, n, out, d, h1, h2 => by
    rw [mobF]
    split
    · exact ⟨h1, h2⟩
    · split
      · exact mobF_b f _ _ _ h1 h2
      · split
        · omega
        · exact mobF_b f _ _ _ (by omega) (by omega)
/-- impl.Mobius -/
theorem impl_Mobius (n0 : Nat) (h1 : 1 ≤ n0) (h2 : n0 ≤ 1000) : AC Tryz.prog 183 [I (n0 : Nat)] [] [I (mobN n0)] [] := by
  refine AC_of tauOk 29 0 [2] Tryz.func183 rfl (by kernel_rfl) rfl rfl rfl rfl rfl ?_
  refine ⟨fun h => by omega, fun _ => ?_⟩
  refine ⟨fun h => by omega, fun _ => ?_⟩
  refine ⟨Nat × Nat × Int × Nat, fun i => ⟨[(0, I (i.2.1 : Nat)), (3, I i.2.2.1), (4, I (i.2.2.2 : Nat))], []⟩,
    fun i => mobF i.1 i.2.1 i.2.2.1 i.2.2.2 = mobN n0 ∧ 1 ≤ i.2.1 ∧ i.2.1 ≤ 1000 ∧ 2 ≤ i.2.2.2 ∧ i.2.2.2 ≤ 1001 ∧ (-1 ≤ i.2.2.1 ∧ i.2.2.1 ≤ 1) ∧ (∀ e, 2 ≤ e → i.2.1 % e = 0 → i.2.2.2 ≤ e) ∧ (1 < i.2.1 → 2 * i.2.1 < i.1 + i.2.2.2), fun i => i.1, (2 * n0, n0, 1, 2),
    ⟨rfl, h1, h2, Nat.le_refl 2, (by decide : 2 ≤ 1001), (by decide : (-1 : Int) ≤ 1 ∧ (1 : Int) ≤ 1), fun e he _ => he, fun _ => by dsimp only; omega⟩,
    ⟨⟨rfl, rfl⟩, ⟨rfl, rfl, rfl, trivial⟩, trivial⟩, ?_⟩
  rintro ⟨f, n, out, d⟩ ⟨hF, hn1, hn2, hd1, hd2, ho, he, hf⟩
  dsimp only at hF hn1 hn2 hd1 hd2 ho he hf
  refine ⟨fun h3 => ?_, fun h3 => ?_⟩
  · dsimp only at h3
    have hn3 : 1 < n := by omega
    have hdn : d ≤ n := he n (by omega) (Nat.mod_self n)
    have hf1 := hf hn3
    obtain ⟨f', rfl⟩ : ∃ f', f = f' + 1 := ⟨f - 1, by omega⟩
    rw [mobF, if_neg (by omega)] at hF
    refine ⟨by dsimp only; omega, ((n % d : Nat) : Int), Int.ofNat_tmod n d, ?_⟩
    refine ⟨fun h4 => ?_, fun h4 => ?_⟩
    · rw [if_pos (by omega)] at hF
      have hdn2 : d ≠ n := fun e => by rw [e, Nat.mod_self] at h4; exact h4 rfl
      refine ⟨((d + 1 : Nat) : Int), w64_eq (by dsimp only; omega) (by omega) (by omega), (f', n, out, d + 1), ⟨hF, hn1, hn2, by dsimp only; omega, by dsimp only; omega, ho, fun e h5 h6 => ?_, fun _ => by dsimp only; omega⟩, by dsimp only; omega, ⟨rfl, rfl⟩, ⟨rfl, rfl, rfl, trivial⟩, trivial⟩
      dsimp only at h6
      have h7 := he e h5 h6
      have : e ≠ d := fun e' => by rw [e'] at h6; omega
      show d + 1 ≤ e
      omega
    · rw [if_neg (by omega)] at hF
      have hnd : n / d ≤ n / 2 := Nat.div_le_div_left hd1 (by decide)
      have hdm := Nat.div_add_mod n d
      have hpos : 1 ≤ n / d := by
        have := Nat.div_le_div_right (c := d) hdn
        rw [Nat.div_self (by omega)] at this
        exact this
      refine ⟨by dsimp only; omega, ((n / d : Nat) : Int), w64_eq (Int.ofNat_tdiv n d) (by omega) (by omega), ?_⟩
      refine ⟨by dsimp only; omega, ((n / d % d : Nat) : Int), Int.ofNat_tmod (n / d) d, ?_⟩
      refine ⟨fun h5 => ?_, fun h5 => ?_⟩
      · rw [if_pos (by omega)] at hF
        exact ⟨none, ⟨retI hF.symm, trivial⟩, rfl, rfl⟩
      · rw [if_neg (by omega)] at hF
        refine ⟨-out, by rw [← w64_in _ (by dsimp only; omega) (by dsimp only; omega)] <;> dsimp only <;> omega, ?_⟩
        refine ⟨((d + 1 : Nat) : Int), w64_eq (by dsimp only; omega) (by omega) (by omega), (f', n / d, -out, d + 1), ⟨hF, hpos, by dsimp only; omega, by dsimp only; omega, by dsimp only; omega, ⟨by dsimp only; omega, by dsimp only; omega⟩, fun e h6 h7 => ?_, fun _ => by dsimp only; omega⟩, by dsimp only; omega, ⟨rfl, rfl⟩, ⟨rfl, rfl, rfl, trivial⟩, trivial⟩
        dsimp only at h7
        have h8 : n % e = 0 := by
          have h9 : d ∣ n := Nat.dvd_of_mod_eq_zero (by omega)
          have h10 : n / d ∣ n := Nat.div_dvd_of_dvd h9
          exact Nat.mod_eq_zero_of_dvd (Nat.dvd_trans (Nat.dvd_of_mod_eq_zero h7) h10)
        have h9 := he e h6 h8
        have : e ≠ d := fun e' => by rw [e'] at h7; omega
        show d + 1 ≤ e
        omega
  · dsimp only at h3
    have e : mobF f n out d = out := by
      cases f with
      | zero => rfl
      | succ f => rw [mobF, if_pos (by omega)]
    exact ⟨none, ⟨retI (by rw [← hF, e]), trivial⟩, rfl, rfl⟩
/-- the sum over divisors -/
def divS (F : Nat → Int) (n K : Nat) : Nat → Int
  | 0 => 0
  | j + 1 => divS F n K j + if n % (j + 1) = 0 then F (j + 1) * ((K ^ (n / (j + 1)) : Nat) : Int) else 0
def divI (F : Nat → Int) (n K : Nat) : Int := (divS F n K n).tdiv n
theorem mulb {x y : Int} (hx : -1000 ≤ x ∧ x ≤ 1000) (hy : 0 ≤ y ∧ y ≤ 1048576) : -1048576000 ≤ x * y ∧ x * y ≤ 1048576000 := by
  obtain ⟨h1, h2⟩ := hx
  obtain ⟨h3, h4⟩ := hy
  have a1 : x * y ≤ 1000 * y := Int.mul_le_mul_of_nonneg_right h2 h3
  have a2 : -1000 * y ≤ x * y := Int.mul_le_mul_of_nonneg_right h1 h3
  omega
theorem divS_b {F : Nat → Int} {n K : Nat} (hF : ∀ d, 1 ≤ d → d ≤ n → -1000 ≤ F d ∧ F d ≤ 1000) (hn : n ≤ 10) (hK : K ≤ 4) : ∀ j, j ≤ n → -(j : Int) * 1048576000 ≤ divS F n K j ∧ divS F n K j ≤ (j : Int) * 1048576000
  | 0, _ => by rw [divS]; omega
  | j + 1, hj => by
    have ih := divS_b hF hn hK j (by omega)
    have hp : K ^ (n / (j + 1)) ≤ 1048576 := pow_le hK (show n / (j + 1) ≤ 10 from Nat.le_trans (Nat.div_le_self _ _) hn) (Nat.le_refl 10)
    have := mulb (hF (j + 1) (by omega) hj) (y := ((K ^ (n / (j + 1)) : Nat) : Int)) ⟨Int.natCast_nonneg _, by omega⟩
    rw [divS]
    split <;> omega
/-- impl.divided -/
theorem impl_divided (F : Nat → Int) (fn n K : Nat) (h1 : 1 ≤ n) (hn : n ≤ 10) (hK : K ≤ 4) (hF : ∀ d, 1 ≤ d → d ≤ n → (-1000 ≤ F d ∧ F d ≤ 1000) ∧ AC Tryz.prog fn [I (d : Nat)] [] [I (F d)] []) :
    AC Tryz.prog 180 [I (n : Nat), I (K : Nat), .fn fn []] [] [I (divI F n K)] [] := by
  have hb := divS_b (fun d a b => (hF d a b).1) hn hK
  refine AC_of tauOk 32 0 [6] Tryz.func180 rfl (by kernel_rfl) rfl rfl rfl rfl rfl ?_
  refine ⟨Nat, fun k => ⟨[(0, I (n : Nat)), (1, I (K : Nat)), (2, .fn fn []), (7, I (divS F n K k)), (8, I ((k + 1 : Nat) : Int))], []⟩, fun k => k ≤ n, fun k => n - k, 0, Nat.zero_le _,
    ⟨⟨rfl, rfl⟩, ⟨rfl, rfl, rfl, rfl, rfl, trivial⟩, trivial⟩, fun k hk => ?_⟩
  dsimp only at hk
  have hbk := hb k hk
  refine ⟨fun h3 => ?_, fun h3 => ?_⟩
  · have hk2 : k < n := by omega
    obtain ⟨hv, hA⟩ := hF (k + 1) (by omega) hk2
    have hb1 := hb (k + 1) (by omega)
    have hq : n / (k + 1) ≤ 10 := Nat.le_trans (Nat.div_le_self _ _) hn
    have hp : K ^ (n / (k + 1)) ≤ 1048576 := pow_le hK hq (Nat.le_refl 10)
    have hm := mulb hv (y := ((K ^ (n / (k + 1)) : Nat) : Int)) ⟨Int.natCast_nonneg _, by omega⟩
    refine ⟨by omega, ((n % (k + 1) : Nat) : Int), Int.ofNat_tmod n (k + 1), ?_⟩
    refine ⟨fun h4 => ?_, fun h4 => ?_⟩
    · have e : divS F n K (k + 1) = divS F n K k + F (k + 1) * ((K ^ (n / (k + 1)) : Nat) : Int) := by rw [divS, if_pos (by omega)]
      refine ⟨none, by kernel_rfl, _, _, hA, rfl, by omega, ((n / (k + 1) : Nat) : Int), w64_eq (Int.ofNat_tdiv n (k + 1)) (Int.le_trans (by decide) (Int.natCast_nonneg _)) (Int.le_trans (Int.ofNat_le.2 hq) (by decide)), _, _, impl_power K (n / (k + 1)) hK hq, rfl, ?_⟩
      refine ⟨F (k + 1) * ((K ^ (n / (k + 1)) : Nat) : Int), w64_eq rfl (by omega) (by omega), ?_⟩
      refine ⟨divS F n K (k + 1), w64_eq e (by omega) (by omega), ?_⟩
      exact ⟨((k + 1 + 1 : Nat) : Int), w64_eq (by omega) (by omega) (by omega), k + 1, by dsimp only; omega, by dsimp only; omega, ⟨rfl, rfl⟩, ⟨rfl, rfl, rfl, rfl, rfl, trivial⟩, trivial⟩
    · have e : divS F n K (k + 1) = divS F n K k := by rw [divS, if_neg (by omega), Int.add_zero]
      exact ⟨((k + 1 + 1 : Nat) : Int), w64_eq (by omega) (by omega) (by omega), k + 1, by dsimp only; omega, by dsimp only; omega, ⟨rfl, rfl⟩, ⟨rfl, rfl, rfl, retI (by rw [e]), rfl, trivial⟩, trivial⟩
  · obtain rfl : k = n := by omega
    have hd : -10485760000 ≤ divI F k K ∧ divI F k K ≤ 10485760000 := by
      unfold divI
      have h5 : (divS F k K k).tdiv k = (divS F k K k).tdiv k := rfl
      have h6 := Int.natAbs_tdiv_le_natAbs (divS F k K k) k
      omega
    refine ⟨by omega, divI F k K, w64_eq rfl (by omega) (by omega), ?_⟩
    exact ⟨none, ⟨rfl, trivial⟩, rfl, rfl⟩
def lenB (n k : Int) : Bool := (decide (1 ≤ n) && decide (n ≤ 10)) && (decide (1 ≤ k) && decide (k ≤ 4))
/-- impl.isLength -/
theorem impl_isLength (n : Int) : AC Tryz.prog 179 [I n] [] [.d true .bool (decide (1 ≤ n) && decide (n ≤ 10))] [] := by
  refine AC_of tauOk 9 0 [2] Tryz.func179 rfl (by kernel_rfl) rfl rfl rfl rfl rfl ?_
  refine ⟨fun h => ?_, fun h => ?_⟩
  · refine ⟨fun h2 => ?_, fun h2 => ?_⟩
    · exact ⟨none, ⟨retB (by rw [decide_eq_true (show 1 ≤ n by omega), decide_eq_true h2]; rfl), trivial⟩, rfl, rfl⟩
    · exact ⟨none, ⟨retB (by rw [decide_eq_false h2, Bool.and_false]), trivial⟩, rfl, rfl⟩
  · exact ⟨none, ⟨retB (by rw [decide_eq_false (show ¬ 1 ≤ n by omega)]; rfl), trivial⟩, rfl, rfl⟩
theorem lenB_of {n k : Int} (h : lenB n k = true) : ∃ N K : Nat, n = (N : Int) ∧ k = (K : Int) ∧ 1 ≤ N ∧ N ≤ 10 ∧ 1 ≤ K ∧ K ≤ 4 := by
  unfold lenB at h
  simp only [Bool.and_eq_true, decide_eq_true_eq] at h
  exact ⟨n.toNat, k.toNat, by omega, by omega, by omega, by omega, by omega, by omega⟩
def neckI (n k : Int) : Int := if lenB n k then divI (fun d => (totS d d : Nat)) n.toNat k.toNat else -1
def lynI (n k : Int) : Int := if lenB n k then divI mobN n.toNat k.toNat else -1
def mirI (n k : Int) : Int := if lenB n k then (if n.toNat % 2 = 1 then ((k.toNat ^ ((n.toNat + 1) / 2) : Nat) : Int) else (((k.toNat ^ (n.toNat / 2) + k.toNat ^ (n.toNat / 2 + 1)) / 2 : Nat) : Int)) else -1
def bracI (n k : Int) : Int := if lenB n k then (neckI n k + mirI n k).tdiv 2 else -1
theorem divI_b {F : Nat → Int} {n K : Nat} (hF : ∀ d, 1 ≤ d → d ≤ n → -1000 ≤ F d ∧ F d ≤ 1000) (hn : n ≤ 10) (hK : K ≤ 4) : -10485760000 ≤ divI F n K ∧ divI F n K ≤ 10485760000 := by
  have hb := divS_b hF hn hK n (Nat.le_refl _)
  unfold divI
  have h6 := Int.natAbs_tdiv_le_natAbs (divS F n K n) n
  omega
theorem tot_b (n : Nat) (hn : n ≤ 10) : ∀ d, 1 ≤ d → d ≤ n → -1000 ≤ ((totS d d : Nat) : Int) ∧ ((totS d d : Nat) : Int) ≤ 1000 := fun d _ h => by
  have := totS_le d d; omega
theorem mob_b (n : Nat) : ∀ d, 1 ≤ d → d ≤ n → -1000 ≤ mobN d ∧ mobN d ≤ 1000 := fun d _ h => by
  have := mobF_b (2 * d) d 1 2 (by decide) (by decide); unfold mobN; omega
theorem neck_b (n k : Int) : -10485760000 ≤ neckI n k ∧ neckI n k ≤ 10485760000 := by
  unfold neckI
  split
  · rename_i h
    obtain ⟨N, K, rfl, rfl, a1, a2, a3, a4⟩ := lenB_of h
    exact divI_b (tot_b _ (by simpa using a2)) (by simpa using a2) (by simpa using a4)
  · omega
theorem lyn_b (n k : Int) : -10485760000 ≤ lynI n k ∧ lynI n k ≤ 10485760000 := by
  unfold lynI
  split
  · rename_i h
    obtain ⟨N, K, rfl, rfl, a1, a2, a3, a4⟩ := lenB_of h
    exact divI_b (mob_b _) (by simpa using a2) (by simpa using a4)
  · omega
theorem mir_b (n k : Int) : -10485760000 ≤ mirI n k ∧ mirI n k ≤ 10485760000 := by
  unfold mirI
  split
  · rename_i h
    obtain ⟨N, K, rfl, rfl, a1, a2, a3, a4⟩ := lenB_of h
    simp only [Int.toNat_natCast]
    have p1 : K ^ ((N + 1) / 2) ≤ 1048576 := pow_le a4 (show (N + 1) / 2 ≤ 10 by omega) (Nat.le_refl 10)
    have p2 : K ^ (N / 2) ≤ 1048576 := pow_le a4 (show N / 2 ≤ 10 by omega) (Nat.le_refl 10)
    have p3 : K ^ (N / 2 + 1) ≤ 1048576 := pow_le a4 (show N / 2 + 1 ≤ 10 by omega) (Nat.le_refl 10)
    split <;> omega
  · omega
/-- impl.CountNecklaces -/
theorem impl_CountNecklaces (n k : Int) : AC Tryz.prog 84 [I n, I k] [] [I (neckI n k)] [] := by
  refine AC_of tauOk 16 0 [4] Tryz.func84 rfl (by kernel_rfl) rfl rfl rfl rfl rfl ?_
  refine ⟨[], false, _, _, impl_isLength n, List.nodup_nil, rfl, rfl, trivial, fun h1 => ?_, fun h1 => ?_⟩
  · refine ⟨[], false, _, _, impl_isColors k, List.nodup_nil, rfl, rfl, trivial, fun h2 => ?_, fun h2 => ?_⟩
    · have hL : lenB n k = true := by rw [lenB, h1, h2]; rfl
      have e : neckI n k = divI (fun d => (totS d d : Nat)) n.toNat k.toNat := by rw [neckI, if_pos hL]
      obtain ⟨N, K, rfl, rfl, a1, a2, a3, a4⟩ := lenB_of hL
      rw [Int.toNat_natCast, Int.toNat_natCast] at e
      refine ⟨[], false, _, _, impl_divided (fun d => (totS d d : Nat)) 181 N K a1 a2 a4 fun d b1 b2 => ⟨tot_b N a2 d b1 b2, impl_Totient d b1 (by omega)⟩, List.nodup_nil, rfl, rfl, trivial, ?_⟩
      exact ⟨none, ⟨retI e, trivial⟩, rfl, rfl⟩
    · exact ⟨none, ⟨retI (by rw [neckI, lenB, h2, Bool.and_false]; rfl), trivial⟩, rfl, rfl⟩
  · exact ⟨none, ⟨retI (by rw [neckI, lenB, h1]; rfl), trivial⟩, rfl, rfl⟩
/-- impl.CountLyndon -/
theorem impl_CountLyndon (n k : Int) : AC Tryz.prog 86 [I n, I k] [] [I (lynI n k)] [] := by
  refine AC_of tauOk 16 0 [4] Tryz.func86 rfl (by kernel_rfl) rfl rfl rfl rfl rfl ?_
  refine ⟨[], false, _, _, impl_isLength n, List.nodup_nil, rfl, rfl, trivial, fun h1 => ?_, fun h1 => ?_⟩
  · refine ⟨[], false, _, _, impl_isColors k, List.nodup_nil, rfl, rfl, trivial, fun h2 => ?_, fun h2 => ?_⟩
    · have hL : lenB n k = true := by rw [lenB, h1, h2]; rfl
      have e : lynI n k = divI mobN n.toNat k.toNat := by rw [lynI, if_pos hL]
      obtain ⟨N, K, rfl, rfl, a1, a2, a3, a4⟩ := lenB_of hL
      rw [Int.toNat_natCast, Int.toNat_natCast] at e
      refine ⟨[], false, _, _, impl_divided mobN 183 N K a1 a2 a4 fun d b1 b2 => ⟨mob_b N d b1 b2, impl_Mobius d b1 (by omega)⟩, List.nodup_nil, rfl, rfl, trivial, ?_⟩
      exact ⟨none, ⟨retI e, trivial⟩, rfl, rfl⟩
    · exact ⟨none, ⟨retI (by rw [lynI, lenB, h2, Bool.and_false]; rfl), trivial⟩, rfl, rfl⟩
  · exact ⟨none, ⟨retI (by rw [lynI, lenB, h1]; rfl), trivial⟩, rfl, rfl⟩
/-- impl.CountMirrored -/
theorem impl_CountMirrored (n k : Int) : AC Tryz.prog 182 [I n, I k] [] [I (mirI n k)] [] := by
  have hmb := mir_b n k
  refine AC_of tauOk 32 0 [4] Tryz.func182 rfl (by kernel_rfl) rfl rfl rfl rfl rfl ?_
  refine ⟨[], false, _, _, impl_isLength n, List.nodup_nil, rfl, rfl, trivial, fun h1 => ?_, fun h1 => ?_⟩
  · refine ⟨[], false, _, _, impl_isColors k, List.nodup_nil, rfl, rfl, trivial, fun h2 => ?_, fun h2 => ?_⟩
    · have hL : lenB n k = true := by rw [lenB, h1, h2]; rfl
      have e := mirI
      obtain ⟨N, K, rfl, rfl, a1, a2, a3, a4⟩ := lenB_of hL
      have p2 : K ^ (N / 2) ≤ 1048576 := pow_le a4 (show N / 2 ≤ 10 by omega) (Nat.le_refl 10)
      have p3 : K ^ (N / 2 + 1) ≤ 1048576 := pow_le a4 (show N / 2 + 1 ≤ 10 by omega) (Nat.le_refl 10)
      refine ⟨by decide, ((N % 2 : Nat) : Int), Int.ofNat_tmod N 2, ?_⟩
      refine ⟨fun h3 => ?_, fun h3 => ?_⟩
      · have e : mirI (N : Int) (K : Int) = ((K ^ ((N + 1) / 2) : Nat) : Int) := by rw [mirI, if_pos hL, Int.toNat_natCast, Int.toNat_natCast, if_pos (by omega)]
        refine ⟨((N + 1 : Nat) : Int), w64_eq (by omega) (by omega) (by omega), ?_⟩
        refine ⟨by decide, (((N + 1) / 2 : Nat) : Int), w64_eq (Int.ofNat_tdiv (N + 1) 2) (by omega) (by omega), ?_⟩
        refine ⟨[], false, _, _, impl_power K ((N + 1) / 2) a4 (by omega), List.nodup_nil, rfl, rfl, trivial, ?_⟩
        exact ⟨none, ⟨retI e, trivial⟩, rfl, rfl⟩
      · have e : mirI (N : Int) (K : Int) = (((K ^ (N / 2) + K ^ (N / 2 + 1)) / 2 : Nat) : Int) := by rw [mirI, if_pos hL, Int.toNat_natCast, Int.toNat_natCast, if_neg (by omega)]
        refine ⟨by decide, ((N / 2 : Nat) : Int), w64_eq (Int.ofNat_tdiv N 2) (by omega) (by omega), ?_⟩
        refine ⟨[], false, _, _, impl_power K (N / 2) a4 (by omega), List.nodup_nil, rfl, rfl, trivial, ?_⟩
        refine ⟨by decide, ((N / 2 : Nat) : Int), w64_eq (Int.ofNat_tdiv N 2) (by omega) (by omega), ?_⟩
        refine ⟨((N / 2 + 1 : Nat) : Int), w64_eq (by omega) (by omega) (by omega), ?_⟩
        refine ⟨[], false, _, _, impl_power K (N / 2 + 1) a4 (by omega), List.nodup_nil, rfl, rfl, trivial, ?_⟩
        refine ⟨((K ^ (N / 2) + K ^ (N / 2 + 1) : Nat) : Int), w64_eq (by omega) (by omega) (by omega), ?_⟩
        refine ⟨by decide, (((K ^ (N / 2) + K ^ (N / 2 + 1)) / 2 : Nat) : Int), w64_eq (Int.ofNat_tdiv _ 2) (by omega) (by omega), ?_⟩
        exact ⟨none, ⟨retI e, trivial⟩, rfl, rfl⟩
    · exact ⟨none, ⟨retI (by rw [mirI, lenB, h2, Bool.and_false]; rfl), trivial⟩, rfl, rfl⟩
  · exact ⟨none, ⟨retI (by rw [mirI, lenB, h1]; rfl), trivial⟩, rfl, rfl⟩
theorem brac_b (n k : Int) : -20971520000 ≤ bracI n k ∧ bracI n k ≤ 20971520000 := by
  have h1 := neck_b n k
  have h2 := mir_b n k
  have h3 := Int.natAbs_tdiv_le_natAbs (neckI n k + mirI n k) 2
  have h4 : -20971520000 ≤ neckI n k + mirI n k ∧ neckI n k + mirI n k ≤ 20971520000 := by omega
  unfold bracI
  split <;> omega
/-- impl.CountBracelets -/
theorem impl_CountBracelets (n k : Int) : AC Tryz.prog 85 [I n, I k] [] [I (bracI n k)] [] := by
  have b1 := neck_b n k
  have b2 := mir_b n k
  have b3 := Int.natAbs_tdiv_le_natAbs (neckI n k + mirI n k) 2
  refine AC_of tauOk 21 0 [4] Tryz.func85 rfl (by kernel_rfl) rfl rfl rfl rfl rfl ?_
  refine ⟨[], false, _, _, impl_isLength n, List.nodup_nil, rfl, rfl, trivial, fun h1 => ?_, fun h1 => ?_⟩
  · refine ⟨[], false, _, _, impl_isColors k, List.nodup_nil, rfl, rfl, trivial, fun h2 => ?_, fun h2 => ?_⟩
    · have hL : lenB n k = true := by rw [lenB, h1, h2]; rfl
      refine ⟨[], false, _, _, impl_CountNecklaces n k, List.nodup_nil, rfl, rfl, trivial, [], false, _, _, impl_CountMirrored n k, List.nodup_nil, rfl, rfl, trivial, ?_⟩
      refine ⟨neckI n k + mirI n k, w64_eq rfl (by omega) (by omega), ?_⟩
      refine ⟨by decide, (neckI n k + mirI n k).tdiv 2, w64_eq rfl (by omega) (by omega), ?_⟩
      exact ⟨none, ⟨retI (by rw [bracI, if_pos hL]), trivial⟩, rfl, rfl⟩
    · exact ⟨none, ⟨retI (by rw [bracI, lenB, h2, Bool.and_false]; rfl), trivial⟩, rfl, rfl⟩
  · exact ⟨none, ⟨retI (by rw [bracI, lenB, h1]; rfl), trivial⟩, rfl, rfl⟩
end Go.Proofs.YtacjiemkbhhhoaaGreatDoor
set_option linter.unusedVariables false
namespace Go.Proofs.YtacjiemkbhhhoaaGreatDoor.Ow
open Go
/-- like AC, but only the first m rows stay where they are; no rows are added -/
def BC (P : Program) (m : Nat) (f : FuncId) (args : List AV) (rows : List Row) (res : AV) (rows' : List Row) : Prop :=
  Runs P f ∧ ∀ (w : World) (bs : List Nat) (A : Nat → Prop) (vs : List Value), ROk w bs A rows → Vs w bs A rows args vs →
    Calls P f vs.toArray w fun e w' => ∃ rv bs' A', e = .returned rv ∧ ROk w' bs' A' rows' ∧ V w' bs' A' rows' res rv ∧ Step w bs A w' bs' A' ∧
      bs'.take m = bs.take m ∧ Stay w (bs.take m) w' ∧ (∀ b, A b → A' b)
def RetB (t : Nat) (res : AV) (rows' : List Row) : Exit → St → Prop :=
  fun e st => match e with
  | .goto _ => False
  | .exit _ => False
  | .panic _ => False
  | .outgrown => False
  | _ => look st.env t = res ∧ st.rows = rows'
theorem BC_of {P : Program} {τ : Nat → TI} (hτ : TyOk P τ) {f : FuncId} {fn : Func} {c : Code} {args : List AV} {res : AV} {rows rows' : List Row} (N m t : Nat) (hf : P.funcs[f]? = some fn) (hb : fn.body = some c) (hn : (fn.name == "runtime.NumGoroutine") = false) (hN : fn.ntmps = N)
    (hargs : Nat.ble args.length N = true) (hm : Nat.ble m rows.length = true) (hres : fn.results = ([t].map ResultVar.tmp).toArray)
    (h : wpC P τ N m c ⟨envOf 0 args, rows⟩ (RetB t res rows')) : BC P m f args rows res rows' := by
  refine ⟨⟨fn, c, hf, hb, hn⟩, fun w bs A vs hrok hvs => ?_⟩
  have hargs' := Nat.le_of_ble_eq_true hargs
  have hm' := Nat.le_of_ble_eq_true hm
  have hvl := Vs_len hvs
  refine calls_of_wp hf hb ?_
  have hs : Sat w bs A { tmps := vs.toArray ++ Array.replicate (fn.ntmps - vs.toArray.size) undef, defers := [] } N ⟨envOf 0 args, rows⟩ := by
    refine ⟨hrok.len, hrok.nodup, hrok.lt, hrok.old, hrok.row, fun t => ?_, by simp; omega, rfl⟩
    show V w bs A rows (look (envOf 0 args) t) _
    rw [look_envOf]
    simp only [Nat.zero_le, if_true, Nat.sub_zero]
    cases ht : args[t]? with
    | none => trivial
    | some av =>
      obtain ⟨v, hv, hr⟩ := Vs_get hvs ht
      have : (vs.toArray ++ Array.replicate (fn.ntmps - vs.toArray.size) undef).getD t undef = v := by
        have htl := (List.getElem?_eq_some_iff.1 hv).1
        rw [Array.getD_eq_getD_getElem?, Array.getElem?_append_left (by simpa using htl)]
        simp [hv]
      simp only [this]
      exact hr
  refine wpC_ok hτ c hs (by rw [hrok.len]; exact hm') (fun e w' bs' A' a' st' h1 h2 h3 => ?_) h
  have key : (look st'.env t = res ∧ st'.rows = rows') →
      a'.defers = [] ∧ ∃ v, (results fn a'.tmps).run P w' = .ok v w' ∧ (fun (e : Ending) w' => ∃ rv bs' A', e = .returned rv ∧ ROk w' bs' A' rows' ∧ V w' bs' A' rows' res rv ∧ Step w bs A w' bs' A' ∧
      bs'.take m = bs.take m ∧ Stay w (bs.take m) w' ∧ (∀ b, A b → A' b)) (.returned v) w' := by
    rintro ⟨rfl, rfl⟩
    refine ⟨h1.dfs, _, run_results fn [t] hres (show 1 ≤ 4 by decide) a'.tmps w', ?_⟩
    exact ⟨_, bs', A', rfl, h1.rok, h1.env t, h2.toStep, h2.tk, h2.st, h2.up⟩
  cases e with
  | normal => exact key h3
  | ret => exact key h3
  | exit i => exact h3.elim
  | goto l => exact h3.elim
  | panic c => exact h3.elim
  | outgrown => exact h3.elim
/-- called with a row, a box and the box's row -/
theorem XC_of3 {P : Program} {N : Nat} {F : FuncId} {args : List AV} {res : AV} {env : List (Nat × AV)} {ea eb eb' ec ec' : TypeId} {ta tc tc' : Ty} {xs xs' : List ta.T} {vb vb' : AV} {ys : List tc.T} {ys' : List tc'.T} (hl : xs'.length = xs.length)
    (h : BC P 2 F args [.sl ea ta xs, .box eb vb, .sl ec tc ys] res [.sl ea ta xs', .box eb' vb', .sl ec' tc' ys']) :
    XC P 2 N F args ⟨env, [.sl ea ta xs, .box eb vb, .sl ec tc ys]⟩ ⟨killE 2 env, [.sl ea ta xs', .box eb' vb', .sl ec' tc' ys']⟩ res := by
  refine ⟨h.1, fun w bs A a vs hs hm hvs => (h.2 w bs A vs hs.rok hvs).mono ?_⟩
  rintro e w' ⟨rv, bs', A', rfl, hrok, hv, hstep, htk, hstay, hup⟩
  have hl3 : bs.length = 3 := hs.len
  have hl3' : bs'.length = 3 := hrok.len
  have hnA : ∀ b ∈ bs, ¬ A b := fun b hb => by
    obtain ⟨i, hi, rfl⟩ := List.getElem_of_mem hb
    have h1 : bs[i]? = some bs[i] := List.getElem?_eq_getElem hi
    match i, hi, h1 with
    | 0, _, h1 => exact (hs.row 0 _ _ h1 rfl).nA (by simp)
    | 1, _, h1 => exact (hs.row 1 _ _ h1 rfl).nA (by simp)
    | 2, _, h1 => exact (hs.row 2 _ _ h1 rfl).nA (by simp)
    | i + 3, hi, _ => omega
  have hix : ∀ i, i < 2 → bs'[i]? = bs[i]? := fun i hi => by
    have h1 : (bs'.take 2)[i]? = (bs.take 2)[i]? := by rw [htk]
    rwa [List.getElem?_take, List.getElem?_take, if_pos hi, if_pos hi] at h1
  have k : Kp w bs A [.sl ea ta xs, .box eb vb, .sl ec tc ys] w' bs' A' [.sl ea ta xs', .box eb' vb', .sl ec' tc' ys'] (fun i => i < 2) :=
    { a := fun b hb hlt => ⟨hstep.block b hlt (fun hm => hnA b hm hb), hup b hb⟩
      n := fun b hb hlt => ⟨hstep.block b hlt hb, fun hm => by
        rcases hstep.sbs b hm with h1 | h1
        · exact hb h1
        · omega⟩
      h := fun i hi => by
        refine ⟨hix i hi, fun r hr => ?_, fun b cur e hb hc => ?_⟩
        · match i, hi, hr with
          | 0, _, hr => cases hr; exact ⟨_, rfl, hl, (fun e t ys h => by cases h; exact ⟨xs', rfl⟩), (fun e ys h => by cases h)⟩
          | 1, _, hr => cases hr; exact ⟨_, rfl, rfl, (fun e t ys h => by cases h), (fun e ys h => by cases h)⟩
          | i + 2, hi, _ => omega
        · exact hstay b (List.mem_of_getElem? (i := i) (by rw [List.getElem?_take, if_pos hi]; exact hb)) cur e hc }
  refine ⟨rv, bs', A', rfl, hs.change k hrok (fun t => ?_), hv, hstep, htk, hstay, hup⟩
  rcases look_killE 2 env t with h | ⟨h, h2⟩
  · exact .inl h
  · exact .inr ⟨h, fun j hj hlt => by
      have : j ≠ 2 := fun e => h2 (e ▸ hj)
      show j < 2
      omega⟩
/-- called where the box's row comes first and the other row last -/
theorem XC_of3r {P : Program} {N : Nat} {F G : FuncId} {a1 a2 a3 : Int} {b1 : Bool} {v : Bool} {env : List (Nat × AV)} {u : Nat} {ea eb ec : TypeId} {ta tc : Ty} {xs xs' : List ta.T} {ys ys' : List tc.T} (hu : look env u = .ptr 1 0)
    (h : BC P 2 F [.ow 0, I a1, I a2, I a3, .nil, .d true .bool b1, .fn G [.ptr 1 0]] [.sl ea ta xs, .box eb (.ow 2), .sl ec tc ys] (.d true .bool v) [.sl ea ta xs', .box eb (.ow 2), .sl ec tc ys']) :
    XC P 0 N F [.ow 2, I a1, I a2, I a3, .nil, .d true .bool b1, .fn G [.ptr 1 0]] ⟨env, [.sl ec tc ys, .box eb (.ow 0), .sl ea ta xs]⟩ ⟨[(u, .ptr 1 0)], [.sl ec tc ys', .box eb (.ow 0), .sl ea ta xs']⟩ (.d true .bool v) := by
  refine ⟨h.1, fun w bs A a vs hs hm hvs => ?_⟩
  obtain ⟨c0, c1, c2, rfl⟩ : ∃ c0 c1 c2, bs = [c0, c1, c2] := by
    have hl3 : bs.length = 3 := hs.len
    match bs, hl3 with
    | [c0, c1, c2], _ => exact ⟨c0, c1, c2, rfl⟩
  have hnd := hs.nodup
  have hrok : ROk w [c2, c1, c0] A [.sl ea ta xs, .box eb (.ow 2), .sl ec tc ys] := by
    refine ⟨rfl, by simp at hnd ⊢; omega, fun b hb => hs.lt b (by simp at hb ⊢; omega), hs.old, fun i b r hb hr => ?_⟩
    match i, hb, hr with
    | 0, hb, hr => cases hb; cases hr; exact hs.row 2 c2 _ rfl rfl
    | 1, hb, hr =>
      cases hb; cases hr
      obtain ⟨hA, cv, hc, b, e, t, zs, cur, k1, k2, k3, k4⟩ := hs.row 1 c1 _ rfl rfl
      exact ⟨hA, cv, hc, b, e, t, zs, cur, k1, k2, k3, k4⟩
    | 2, hb, hr => cases hb; cases hr; exact hs.row 0 c0 _ rfl rfl
    | i + 3, hb, _ => cases hb
  have hvs2 : Vs w [c2, c1, c0] A [.sl ea ta xs, .box eb (.ow 2), .sl ec tc ys] [.ow 0, I a1, I a2, I a3, .nil, .d true .bool b1, .fn G [.ptr 1 0]] vs := by
    obtain ⟨v1, r1, rfl, ⟨b, e, t, zs, cur, k1, k2, k3, k4⟩, v2, r2, rfl, h2, v3, r3, rfl, h3, v4, r4, rfl, h4, v5, r5, rfl, h5, v6, r6, rfl, h6, v7, r7, rfl, ⟨cs, hf, v8, r8, h8, ⟨b', r', q1, q2, q3, q4⟩, h9⟩, h7⟩ := hvs
    exact ⟨v1, _, rfl, ⟨b, e, t, zs, cur, k1, k2, k3, k4⟩, v2, _, rfl, h2, v3, _, rfl, h3, v4, _, rfl, h4, v5, _, rfl, h5, v6, _, rfl, h6, v7, _, rfl, ⟨cs, hf, v8, r8, h8, ⟨b', .box eb (.ow 2), q1, rfl, (by cases q2; exact q3), q4⟩, h9⟩, h7⟩
  refine (h.2 w _ A vs hrok hvs2).mono ?_
  rintro e w' ⟨rv, bs', A', rfl, hrok', hv, hstep, htk, hstay, hup⟩
  obtain ⟨d, rfl⟩ : ∃ d, bs' = [c2, c1, d] := by
    have hl3 : bs'.length = 3 := hrok'.len
    match bs', hl3, htk with
    | [x, y, z], _, htk => simp at htk; exact ⟨z, by rw [htk.1, htk.2]⟩
  have hnd' := hrok'.nodup
  refine ⟨rv, [d, c1, c2], A', rfl, ⟨rfl, by simp at hnd' ⊢; omega, fun b hb => hrok'.lt b (by simp at hb ⊢; omega), hrok'.old, fun i b r hb hr => ?_, fun t => ?_, hs.size, hs.dfs⟩, hv, ⟨hstep.os, hstep.tape, hstep.output, hstep.size, fun k hk hn => hstep.block k hk (by simp at hn ⊢; omega), fun b hb => ?_, fun b hb => ?_⟩, rfl, fun b hb => by simp at hb, hup⟩
  · match i, hb, hr with
    | 0, hb, hr => cases hb; cases hr; exact hrok'.row 2 d _ rfl rfl
    | 1, hb, hr =>
      cases hb; cases hr
      obtain ⟨hA, cv, hc, b, e, t, zs, cur, k1, k2, k3, k4⟩ := hrok'.row 1 c1 _ rfl rfl
      exact ⟨hA, cv, hc, b, e, t, zs, cur, k1, k2, k3, k4⟩
    | 2, hb, hr => cases hb; cases hr; exact hrok'.row 0 c2 _ rfl rfl
    | i + 3, hb, _ => cases hb
  · show V _ _ _ _ (look [(u, .ptr 1 0)] t) _
    rw [look_cons]
    by_cases e : u = t
    · subst e
      rw [if_pos rfl]
      have h1 := hs.env u
      rw [hu] at h1
      obtain ⟨b, r, q1, q2, q3, q4⟩ := h1
      cases q1
      exact ⟨c1, _, rfl, rfl, Nat.one_pos, q4⟩
    · rw [if_neg e]; trivial
  · have := hstep.sbs b (by simp at hb ⊢; omega)
    rcases this with h1 | h1
    · left; simp at h1 ⊢; omega
    · exact .inr h1
  · rcases hstep.sA b hb with h1 | h1 | h1
    · exact .inl h1
    · exact .inr (.inl h1)
    · right; right; simp at h1 ⊢; omega
end Go.Proofs.YtacjiemkbhhhoaaGreatDoor.Ow
set_option linter.unusedVariables false
namespace Go.Proofs.YtacjiemkbhhhoaaGreatDoor
open Go Go.Proofs.YtacjiemkbhhhoaaGreatDoor.Ow
abbrev WL := List Int × List (List Int)
def itJ (st : Nat → WL → WL) (s : WL) : Nat → WL
  | 0 => s
  | j + 1 => st j (itJ st s j)
def stpG (g : List Int → Nat → Nat → List (List Int) → WL) (a p l : Nat) (j : Nat) (s : WL) : WL :=
  g (s.1.set a ((l + j : Nat) : Int)) (a + 1) (if a = 0 then 1 else if j = 0 then p else a + 1) s.2
/-- the least letter that may come next -/
def lstN (w : List Int) (a p : Nat) : Nat := if a = 0 then 0 else (w.getD (a - p) 0).toNat
def growL (k : Nat) : Nat → List Int → Nat → Nat → List (List Int) → WL
  | 0, w, a, p, out => (w, if w.length % p = 0 then out ++ [w] else out)
  | f + 1, w, a, p, out => itJ (stpG (growL k f) a p (lstN w a p)) (w, out) (k - lstN w a p)
structure GI (k f : Nat) (w : List Int) (a p : Nat) : Prop where
  len : a + f = w.length
  el : ∀ i, i < w.length → 0 ≤ w.getD i 0 ∧ w.getD i 0 < k
  p1 : 1 ≤ p
  pa : a = 0 ∨ p ≤ a
theorem lstN_lt {k f a p : Nat} {w : List Int} (hk : 1 ≤ k) (h : GI k (f + 1) w a p) : lstN w a p < k := by
  have h1 := h.len
  unfold lstN
  split
  · omega
  · have := h.el (a - p) (by omega); omega
theorem nx_ok {a p j : Nat} (h1 : 1 ≤ p) (h2 : a = 0 ∨ p ≤ a) : 1 ≤ (if a = 0 then 1 else if j = 0 then p else a + 1) ∧ (if a = 0 then 1 else if j = 0 then p else a + 1) ≤ a + 1 := by
  split
  · omega
  · split <;> omega
theorem GI.step {k f a p : Nat} {w w2 : List Int} {x : Nat} (h : GI k (f + 1) w a p) (hl : w2.length = w.length) (he : ∀ i, i < w2.length → 0 ≤ w2.getD i 0 ∧ w2.getD i 0 < k) (hx : x < k) (j : Nat) :
    GI k f (w2.set a (x : Int)) (a + 1) (if a = 0 then 1 else if j = 0 then p else a + 1) := by
  have h1 := h.len
  have h2 := nx_ok (j := j) h.p1 h.pa
  refine ⟨by rw [List.length_set]; omega, fun i hi => ?_, h2.1, .inr h2.2⟩
  rw [List.length_set] at hi
  by_cases e : a = i
  · subst e; rw [L_set_self _ _ _ _ hi]; omega
  · rw [L_set_ne _ _ _ _ _ e]; exact he i hi
theorem growL_ok {k : Nat} (hk : 1 ≤ k) : ∀ (f : Nat) (w : List Int) (a p : Nat) (out : List (List Int)), GI k f w a p →
    ((growL k f w a p out).1.length = w.length ∧ ∀ i, i < w.length → 0 ≤ (growL k f w a p out).1.getD i 0 ∧ (growL k f w a p out).1.getD i 0 < k) ∧ (growL k f w a p out).2.length ≤ out.length + k ^ f
  | 0, w, a, p, out, h => by
    rw [growL]
    refine ⟨⟨rfl, h.el⟩, ?_⟩
    dsimp only
    split <;> simp
  | f + 1, w, a, p, out, h => by
    have ih := growL_ok hk f
    have hl := lstN_lt hk h
    have key : ∀ j, j ≤ k - lstN w a p → ((itJ (stpG (growL k f) a p (lstN w a p)) (w, out) j).1.length = w.length ∧ ∀ i, i < w.length → 0 ≤ (itJ (stpG (growL k f) a p (lstN w a p)) (w, out) j).1.getD i 0 ∧ (itJ (stpG (growL k f) a p (lstN w a p)) (w, out) j).1.getD i 0 < k) ∧
        (itJ (stpG (growL k f) a p (lstN w a p)) (w, out) j).2.length ≤ out.length + j * k ^ f := fun j => by
      induction j with
      | zero => intro _; exact ⟨⟨rfl, h.el⟩, by simp [itJ]⟩
      | succ j ihj =>
        intro hj
        obtain ⟨⟨a1, a2⟩, a3⟩ := ihj (by omega)
        rw [itJ]
        generalize itJ (stpG (growL k f) a p (lstN w a p)) (w, out) j = s at *
        have hG := h.step a1 (fun i hi => a2 i (by omega)) (show lstN w a p + j < k by omega) j
        obtain ⟨⟨b1, b2⟩, b3⟩ := ih _ _ _ s.2 hG
        rw [List.length_set] at b1 b2
        refine ⟨⟨by rw [stpG, b1, a1], fun i hi => b2 i (by omega)⟩, ?_⟩
        rw [stpG, Nat.succ_mul]
        omega
    obtain ⟨h1, h2⟩ := key (k - lstN w a p) (Nat.le_refl _)
    rw [growL]
    refine ⟨h1, Nat.le_trans h2 (Nat.add_le_add_left ?_ _)⟩
    rw [Nat.pow_succ, Nat.mul_comm]
    exact Nat.mul_le_mul_left _ (by omega)
/-- the closure of impl.necklaces -/
theorem impl_necklaces_1 (e0 eb : TypeId) (w : List Int) (out : List (List Int)) (hw : w ≠ []) (hl : w.length ≤ 10) (ho : out.length ≤ 1048576) :
    BC Tryz.prog 2 276 [.ow 0, .ptr 1 0] [.sl e0 .int w, .box eb (.ow 2), .sl 29 (.sl .int) out] (.d true .bool true) [.sl e0 .int w, .box eb (.ow 2), .sl 29 (.sl .int) (out ++ [w])] := by
  refine BC_of tauOk 9 2 3 Tryz.func276 rfl (by kernel_rfl) rfl rfl rfl rfl ?_
  refine ⟨some 3000, .take 1 (.two 0 (.one 2 (.one 3 (.one 4 (.one 5 .done)))) 2 (.two 0 (.one 3 (.one 4 (.one 5 .done))) 3 (.one 0 (.one 4 (.one 5 .done))))), by kernel_rfl, ?_⟩
  have hn : out.length + [w].length ≤ 1099511627776 := by simp only [List.length_cons, List.length_nil]; omega
  exact ⟨⟨rfl, [], true, _, _, slices_Clone_int false w (by omega) hw, List.nodup_nil, rfl, rfl, trivial, rfl, by decide, false, rfl, Nat.le_refl _, rfl, hn, rfl, rfl⟩,
    ⟨[], true, _, _, slices_Clone_int false w (by omega) hw, List.nodup_nil, rfl, rfl, trivial, ⟨rfl, rfl, by decide, false, rfl, Nat.le_refl _, rfl, hn, rfl, rfl⟩, ⟨rfl, by decide, false, rfl, rfl, Nat.le_refl _, rfl, hn, rfl, rfl⟩⟩⟩
/-- impl.grow that lists all necklaces -/
theorem impl_grow_all (e0 eb : TypeId) (k : Nat) (hk : 1 ≤ k) (hk4 : k ≤ 4) : ∀ (f : Nat) (w : List Int) (a p : Nat) (out : List (List Int)), GI k f w a p → w ≠ [] → w.length ≤ 10 → out.length + k ^ f ≤ 1048576 →
    BC Tryz.prog 2 275 [.ow 0, I (a : Nat), I (p : Nat), I (k : Nat), .nil, .d true .bool true, .fn 276 [.ptr 1 0]] [.sl e0 .int w, .box eb (.ow 2), .sl 29 (.sl .int) out] (.d true .bool true)
      [.sl e0 .int (growL k f w a p out).1, .box eb (.ow 2), .sl 29 (.sl .int) (growL k f w a p out).2]
  | 0, w, a, p, out, hG, hw, hl, ho => by
    have h1 := hG.len
    have h2 := hG.p1
    refine BC_of tauOk 91 2 14 Tryz.func275 rfl (by kernel_rfl) rfl rfl rfl rfl ?_
    refine ⟨fun _ => ?_, fun h => by omega⟩
    refine ⟨by omega, ((w.length % p : Nat) : Int), Int.ofNat_tmod w.length p, ?_⟩
    refine ⟨fun h3 => ?_, fun h3 => ?_⟩
    · have e : growL k 0 w a p out = (w, out) := by rw [growL, if_neg (by omega)]
      rw [e]
      exact ⟨rfl, rfl⟩
    · have e : growL k 0 w a p out = (w, out ++ [w]) := by rw [growL, if_pos (by omega)]
      rw [e]
      refine ⟨[1000000], false, [], [], _, _, XC_of3 rfl (impl_necklaces_1 e0 eb w out hw hl (by omega)), ?_⟩
      exact ⟨rfl, rfl⟩
  | f + 1, w, a, p, out, hG, hw, hl, ho => by
    have ih := impl_grow_all e0 eb k hk hk4 f
    have h1 := hG.len
    have h2 := hG.p1
    have h3 := hG.pa
    have hL := lstN_lt hk hG
    have hp0 : 1 ≤ k ^ f := Nat.pos_of_ne_zero (by intro e; rw [Nat.pow_eq_zero] at e; omega)
    have hB : ∀ j, j ≤ k - lstN w a p → ((itJ (stpG (growL k f) a p (lstN w a p)) (w, out) j).1.length = w.length ∧ ∀ i, i < w.length → 0 ≤ (itJ (stpG (growL k f) a p (lstN w a p)) (w, out) j).1.getD i 0 ∧ (itJ (stpG (growL k f) a p (lstN w a p)) (w, out) j).1.getD i 0 < k) ∧
        (itJ (stpG (growL k f) a p (lstN w a p)) (w, out) j).2.length ≤ out.length + j * k ^ f := fun j => by
      induction j with
      | zero => intro _; exact ⟨⟨rfl, hG.el⟩, by simp [itJ]⟩
      | succ j ihj =>
        intro hj
        obtain ⟨⟨a1, a2⟩, a3⟩ := ihj (by omega)
        rw [itJ]
        generalize itJ (stpG (growL k f) a p (lstN w a p)) (w, out) j = s at *
        have hG := hG.step a1 (fun i hi => a2 i (by omega)) (show lstN w a p + j < k by omega) j
        obtain ⟨⟨b1, b2⟩, b3⟩ := growL_ok hk f _ _ _ s.2 hG
        rw [List.length_set] at b1 b2
        refine ⟨⟨by rw [stpG, b1, a1], fun i hi => b2 i (by omega)⟩, ?_⟩
        rw [stpG, Nat.succ_mul]
        omega
    have hend : growL k (f + 1) w a p out = itJ (stpG (growL k f) a p (lstN w a p)) (w, out) (k - lstN w a p) := rfl
    have hstep : ∀ j, itJ (stpG (growL k f) a p (lstN w a p)) (w, out) (j + 1) = stpG (growL k f) a p (lstN w a p) j (itJ (stpG (growL k f) a p (lstN w a p)) (w, out) j) := fun j => rfl
    have h0 : itJ (stpG (growL k f) a p (lstN w a p)) (w, out) 0 = (w, out) := rfl
    have hLv1 : a ≠ 0 → w.getD (a - p) 0 = ((lstN w a p : Nat) : Int) := fun h => by
      have := hG.el (a - p) (by omega)
      rw [lstN, if_neg h]; omega
    have hLv0 : a = 0 → (0 : Int) = ((lstN w a p : Nat) : Int) := fun h => by rw [lstN, if_pos h]; rfl
    have hpow : (k - lstN w a p) * k ^ f ≤ k ^ (f + 1) := by
      rw [Nat.pow_succ, Nat.mul_comm]; exact Nat.mul_le_mul_left _ (by omega)
    generalize lstN w a p = L at *
    rw [hend]
    generalize itJ (stpG (growL k f) a p L) (w, out) = S at *
    refine BC_of tauOk 91 2 14 Tryz.func275 rfl (by kernel_rfl) rfl rfl rfl rfl ?_
    refine ⟨fun h => by omega, fun _ => ?_⟩
    refine ⟨fun h4 => ?_, fun h4 => ?_⟩
    · refine ⟨((a - p : Nat) : Int), w64_eq (by omega) (by omega) (by omega), a - p, rfl, by omega, ?_⟩
      have hLv := hLv1 (by omega)
      refine ⟨Nat, fun j => ⟨[(0, .ow 0), (1, I (a : Nat)), (2, I (p : Nat)), (3, I (k : Nat)), (4, .nil), (5, .d true .bool true), (6, .fn 276 [.ptr 1 0]), (16, I (L : Nat)), (17, I ((L + j : Nat) : Int))], [.sl e0 .int (S j).1, .box eb (.ow 2), .sl 29 (.sl .int) (S j).2]⟩, fun j => j ≤ k - L, fun j => k - L - j, 0, Nat.zero_le _,
        ⟨⟨rfl, rfl⟩, ⟨rfl, rfl, rfl, rfl, rfl, rfl, rfl, retI hLv, retI hLv, trivial⟩, rowE (by rw [h0]), rfl, rowE (by rw [h0]), trivial⟩, fun j hj => ?_⟩
      dsimp only at hj
      obtain ⟨⟨s1, s2⟩, s3⟩ := hB j hj
      refine ⟨fun h5 => ?_, fun h5 => ?_⟩
      · have hj2 : j < k - L := by omega
        have hG2 := hG.step s1 (fun i hi => s2 i (by omega)) (show L + j < k by omega) j
        have hm : (j + 1) * k ^ f ≤ (k - L) * k ^ f := Nat.mul_le_mul_right _ (by omega)
        rw [Nat.succ_mul] at hm
        have hne : (S j).1.set a ((L + j : Nat) : Int) ≠ [] := by
          intro e; have := congrArg List.length e; rw [List.length_set, s1] at this; exact hw (List.length_eq_zero_iff.1 this)
        have hl2 : ((S j).1.set a ((L + j : Nat) : Int)).length ≤ 10 := by rw [List.length_set]; omega
        have hst := hstep j
        have hlen := (growL_ok hk f _ _ _ (S j).2 hG2).1.1
        have hc := ih _ _ _ (S j).2 hG2 hne hl2 (by omega)
        rw [stpG] at hst
        refine ⟨a, rfl, by omega, ?_⟩
        refine ⟨fun h6 => ?_, fun h6 => ?_⟩
        · rw [if_pos (by omega)] at hc hst hlen
          refine ⟨((a + 1 : Nat) : Int), w64_eq (by omega) (by omega) (by omega), ?_⟩
          refine ⟨[1000000], false, [], [], _, _, XC_of3 hlen hc, ?_⟩
          exact ⟨((L + (j + 1) : Nat) : Int), w64_eq (by omega) (by omega) (by omega), j + 1, by dsimp only; omega, by dsimp only; omega, ⟨rfl, rfl⟩, ⟨rfl, rfl, rfl, rfl, rfl, rfl, rfl, rfl, rfl, trivial⟩, rowE (by rw [hst]), rfl, rowE (by rw [hst]), trivial⟩
        · rw [if_neg (by omega)] at hc hst hlen
          refine ⟨fun h7 => ?_, fun h7 => ?_⟩
          · rw [if_neg (by omega)] at hc hst hlen
            refine ⟨((a + 1 : Nat) : Int), w64_eq (by omega) (by omega) (by omega), ?_⟩
            refine ⟨((a + 1 : Nat) : Int), w64_eq (by omega) (by omega) (by omega), ?_⟩
            refine ⟨[1000000], false, [], [], _, _, XC_of3 hlen hc, ?_⟩
            exact ⟨((L + (j + 1) : Nat) : Int), w64_eq (by omega) (by omega) (by omega), j + 1, by dsimp only; omega, by dsimp only; omega, ⟨rfl, rfl⟩, ⟨rfl, rfl, rfl, rfl, rfl, rfl, rfl, rfl, rfl, trivial⟩, rowE (by rw [hst]), rfl, rowE (by rw [hst]), trivial⟩
          · rw [if_pos (by omega)] at hc hst hlen
            refine ⟨((a + 1 : Nat) : Int), w64_eq (by omega) (by omega) (by omega), ?_⟩
            refine ⟨[1000000], false, [], [], _, _, XC_of3 hlen hc, ?_⟩
            exact ⟨((L + (j + 1) : Nat) : Int), w64_eq (by omega) (by omega) (by omega), j + 1, by dsimp only; omega, by dsimp only; omega, ⟨rfl, rfl⟩, ⟨rfl, rfl, rfl, rfl, rfl, rfl, rfl, rfl, rfl, trivial⟩, rowE (by rw [hst]), rfl, rowE (by rw [hst]), trivial⟩
      · obtain rfl : j = k - L := by omega
        exact ⟨rfl, rfl⟩
    · have hLv := hLv0 (by omega)
      refine ⟨Nat, fun j => ⟨[(0, .ow 0), (1, I (a : Nat)), (2, I (p : Nat)), (3, I (k : Nat)), (4, .nil), (5, .d true .bool true), (6, .fn 276 [.ptr 1 0]), (16, I (L : Nat)), (17, I ((L + j : Nat) : Int))], [.sl e0 .int (S j).1, .box eb (.ow 2), .sl 29 (.sl .int) (S j).2]⟩, fun j => j ≤ k - L, fun j => k - L - j, 0, Nat.zero_le _,
        ⟨⟨rfl, rfl⟩, ⟨rfl, rfl, rfl, rfl, rfl, rfl, rfl, retI hLv, retI hLv, trivial⟩, rowE (by rw [h0]), rfl, rowE (by rw [h0]), trivial⟩, fun j hj => ?_⟩
      dsimp only at hj
      obtain ⟨⟨s1, s2⟩, s3⟩ := hB j hj
      refine ⟨fun h5 => ?_, fun h5 => ?_⟩
      · have hj2 : j < k - L := by omega
        have hG2 := hG.step s1 (fun i hi => s2 i (by omega)) (show L + j < k by omega) j
        have hm : (j + 1) * k ^ f ≤ (k - L) * k ^ f := Nat.mul_le_mul_right _ (by omega)
        rw [Nat.succ_mul] at hm
        have hne : (S j).1.set a ((L + j : Nat) : Int) ≠ [] := by
          intro e; have := congrArg List.length e; rw [List.length_set, s1] at this; exact hw (List.length_eq_zero_iff.1 this)
        have hl2 : ((S j).1.set a ((L + j : Nat) : Int)).length ≤ 10 := by rw [List.length_set]; omega
        have hst := hstep j
        have hlen := (growL_ok hk f _ _ _ (S j).2 hG2).1.1
        have hc := ih _ _ _ (S j).2 hG2 hne hl2 (by omega)
        rw [stpG] at hst
        refine ⟨a, rfl, by omega, ?_⟩
        refine ⟨fun h6 => ?_, fun h6 => ?_⟩
        · rw [if_pos (by omega)] at hc hst hlen
          refine ⟨((a + 1 : Nat) : Int), w64_eq (by omega) (by omega) (by omega), ?_⟩
          refine ⟨[1000000], false, [], [], _, _, XC_of3 hlen hc, ?_⟩
          exact ⟨((L + (j + 1) : Nat) : Int), w64_eq (by omega) (by omega) (by omega), j + 1, by dsimp only; omega, by dsimp only; omega, ⟨rfl, rfl⟩, ⟨rfl, rfl, rfl, rfl, rfl, rfl, rfl, rfl, rfl, trivial⟩, rowE (by rw [hst]), rfl, rowE (by rw [hst]), trivial⟩
        · rw [if_neg (by omega)] at hc hst hlen
          refine ⟨fun h7 => ?_, fun h7 => ?_⟩
          · rw [if_neg (by omega)] at hc hst hlen
            refine ⟨((a + 1 : Nat) : Int), w64_eq (by omega) (by omega) (by omega), ?_⟩
            refine ⟨((a + 1 : Nat) : Int), w64_eq (by omega) (by omega) (by omega), ?_⟩
            refine ⟨[1000000], false, [], [], _, _, XC_of3 hlen hc, ?_⟩
            exact ⟨((L + (j + 1) : Nat) : Int), w64_eq (by omega) (by omega) (by omega), j + 1, by dsimp only; omega, by dsimp only; omega, ⟨rfl, rfl⟩, ⟨rfl, rfl, rfl, rfl, rfl, rfl, rfl, rfl, rfl, trivial⟩, rowE (by rw [hst]), rfl, rowE (by rw [hst]), trivial⟩
          · rw [if_pos (by omega)] at hc hst hlen
            refine ⟨((a + 1 : Nat) : Int), w64_eq (by omega) (by omega) (by omega), ?_⟩
            refine ⟨[1000000], false, [], [], _, _, XC_of3 hlen hc, ?_⟩
            exact ⟨((L + (j + 1) : Nat) : Int), w64_eq (by omega) (by omega) (by omega), j + 1, by dsimp only; omega, by dsimp only; omega, ⟨rfl, rfl⟩, ⟨rfl, rfl, rfl, rfl, rfl, rfl, rfl, rfl, rfl, trivial⟩, rowE (by rw [hst]), rfl, rowE (by rw [hst]), trivial⟩
      · obtain rfl : j = k - L := by omega
        exact ⟨rfl, rfl⟩
/-- all necklaces, in order -/
def neckL (n k : Nat) : List (List Int) := (growL k n (List.replicate n 0) 0 1 []).2
theorem GI0 (n k : Nat) (hk : 1 ≤ k) : GI k n (List.replicate n 0) 0 1 :=
  ⟨by simp, fun i hi => by rw [List.length_replicate] at hi; rw [getD_get _ _ _ (by simpa using hi), List.getElem_replicate]; omega, Nat.le_refl _, .inl rfl⟩
theorem neckL_len (n k : Nat) (hk : 1 ≤ k) : (neckL n k).length ≤ k ^ n := by
  have := (growL_ok hk n _ _ _ [] (GI0 n k hk)).2
  simpa [neckL] using this
/-- impl.necklaces -/
theorem impl_necklaces (n k : Nat) (hk : 1 ≤ k) (hk4 : k ≤ 4) (h1 : 1 ≤ n) (hn : n ≤ 10) : AC Tryz.prog 184 [I (n : Nat), I (k : Nat)] [] [.ow 0] [.sl 29 (.sl .int) (neckL n k)] := by
  have hp : k ^ n ≤ 1048576 := pow_le hk4 hn (Nat.le_refl 10)
  have hg := impl_grow_all 3 32 k hk hk4 n (List.replicate n 0) 0 1 [] (GI0 n k hk) (by intro e; have := congrArg List.length e; simp at this; omega) (by simp; omega) (by simp; omega)
  refine AC_of tauOk 13 0 [4] Tryz.func184 rfl (by kernel_rfl) rfl rfl rfl rfl rfl ?_
  refine ⟨rfl, by decide, true, ?_⟩
  refine ⟨n, n, rfl, rfl, Nat.le_refl _, by omega, ?_⟩
  refine ⟨rfl, [1000000], false, [], [], _, _, XC_of3r (u := 5) rfl hg, ?_⟩
  refine ⟨rfl, ?_⟩
  exact ⟨some 0, ⟨⟨rfl, rfl⟩, trivial⟩, ⟨rfl, rfl⟩, rfl⟩
end Go.Proofs.YtacjiemkbhhhoaaGreatDoor
set_option linter.unusedVariables false
namespace Go.Proofs.YtacjiemkbhhhoaaGreatDoor
open Go Go.Proofs.YtacjiemkbhhhoaaGreatDoor.Ow
def lenN (n : Int) : Bool := decide (1 ≤ n) && decide (n ≤ 10)
/-- what NecklaceAt takes -/
def nckB (n k i : Int) : Bool := lenN n && (smallB n.toNat k && (decide (0 ≤ i) && decide (i < ((neckL n.toNat k.toNat).length : Int))))
/-- impl.NecklaceAt -/
theorem impl_NecklaceAt (n k i : Int) (r : List AV) (hno : nckB n k i = false → r = [.nil, .d true .bool false])
    (hyes : nckB n k i = true → r = [.d true (.sl .int) ((neckL n.toNat k.toNat).getD i.toNat []), .d true .bool true]) : AC Tryz.prog 87 [I n, I k, I i] [] r [] := by
  refine AC_of tauOk 33 0 [6, 7] Tryz.func87 rfl (by kernel_rfl) rfl rfl rfl rfl rfl ?_
  refine ⟨[], false, _, _, impl_isLength n, List.nodup_nil, rfl, rfl, trivial, fun h1 => ?_, fun h1 => ?_⟩
  · have h1' := h1
    simp only [Bool.and_eq_true, decide_eq_true_eq] at h1'
    obtain ⟨N, rfl⟩ : ∃ N : Nat, n = (N : Int) := ⟨n.toNat, by omega⟩
    refine ⟨[], false, _, _, impl_isSmall N k (by omega), List.nodup_nil, rfl, rfl, trivial, fun h2 => ?_, fun h2 => ?_⟩
    · have h2' := h2
      unfold smallB at h2'
      simp only [Bool.and_eq_true, decide_eq_true_eq] at h2'
      obtain ⟨K, rfl⟩ : ∃ K : Nat, k = (K : Int) := ⟨k.toNat, by omega⟩
      have hlen := neckL_len N K (by omega)
      rw [Int.toNat_natCast] at h2'
      refine ⟨[], true, _, _, impl_necklaces N K (by omega) (by omega) (by omega) (by omega), List.nodup_nil, rfl, rfl, trivial, ?_⟩
      have hB : nckB (N : Int) (K : Int) i = (decide (0 ≤ i) && decide (i < ((neckL N K).length : Int))) := by
        rw [nckB, lenN, h1, Int.toNat_natCast, Int.toNat_natCast, h2]; rfl
      refine ⟨fun h3 => ?_, fun h3 => ?_⟩
      · obtain rfl := hno (by rw [hB, decide_eq_false (by omega)]; rfl)
        exact ⟨none, ⟨rfl, rfl, trivial⟩, rfl, rfl⟩
      · refine ⟨fun h4 => ?_, fun h4 => ?_⟩
        · obtain rfl := hno (by rw [hB, decide_eq_false (show ¬ i < ((neckL N K).length : Int) by omega), Bool.and_false])
          exact ⟨none, ⟨rfl, rfl, trivial⟩, rfl, rfl⟩
        · obtain rfl := hyes (by rw [hB, decide_eq_true (show 0 ≤ i by omega), decide_eq_true (show i < ((neckL N K).length : Int) by omega)]; rfl)
          have hi1 : 0 ≤ i := by omega
          have hi2 : i < ((neckL N K).length : Int) := by omega
          refine ⟨i.toNat, (Int.toNat_of_nonneg hi1).symm, (by omega : i.toNat < (neckL N K).length), ?_⟩
          exact ⟨none, ⟨by rw [Int.toNat_natCast, Int.toNat_natCast]; rfl, rfl, trivial⟩, rfl, rfl⟩
    · obtain rfl := hno (by rw [nckB, Int.toNat_natCast, h2]; simp)
      exact ⟨none, ⟨rfl, rfl, trivial⟩, rfl, rfl⟩
  · obtain rfl := hno (by rw [nckB, lenN, h1]; rfl)
    exact ⟨none, ⟨rfl, rfl, trivial⟩, rfl, rfl⟩
def lynB (w : List Int) : Bool := decide (least w = w ∧ perW w = w.length)
/-- a part of a word -/
def subW (w : List Int) (a j : Nat) : List Int := List.drop a (List.take (a + j) w)
/-- the length of the longest Lyndon word that begins at a and has at most j letters -/
def lyfE (w : List Int) (a : Nat) : Nat → Nat
  | 0 => 0
  | j + 1 => if lynB (subW w a (j + 1)) = true then j + 1 else lyfE w a j
def lyfF (w : List Int) : Nat → Nat → List (List Int) → List (List Int)
  | 0, _, out => out
  | f + 1, a, out => if a < w.length then lyfF w f (a + lyfE w a (w.length - a)) (out ++ [subW w a (lyfE w a (w.length - a))]) else out
def lyfL (w : List Int) : List (List Int) := lyfF w w.length 0 []
theorem lyn_one : ∀ x : Nat, x < 4 → lynB [(x : Int)] = true := by decide +kernel
theorem subW_len (w : List Int) (a j : Nat) (h : a + j ≤ w.length) : (subW w a j).length = j := by
  simp [subW]; omega
theorem subW_get (w : List Int) (a j i : Nat) (h : a + j ≤ w.length) (hi : i < j) : (subW w a j).getD i 0 = w.getD (a + i) 0 := by
  rw [getD_get _ _ _ (by rw [subW_len w a j h]; exact hi), getD_get _ _ _ (by omega)]
  simp [subW]
theorem subW_col {w : List Int} (hw : ColP w) (a j : Nat) (h : a + j ≤ w.length) (h1 : 1 ≤ j) : ColP (subW w a j) := by
  have hl := subW_len w a j h
  have h2 := hw.2
  have h3 := hw.1
  refine ⟨fun i hi => ?_, by omega⟩
  rw [subW_get w a j i h (by omega)]
  exact h3 (a + i) (by omega)
theorem lyfE_ok {w : List Int} (hw : ColP w) (a : Nat) : ∀ j, a + j ≤ w.length → 1 ≤ j → 1 ≤ lyfE w a j ∧ lyfE w a j ≤ j
  | 0, _, h => by omega
  | j + 1, hj, _ => by
    rw [lyfE]
    split
    · omega
    · rename_i hn
      by_cases h0 : j = 0
      · subst h0
        have h3 := hw.1 a (by omega)
        have e : subW w a (0 + 1) = [((w.getD a 0).toNat : Int)] := by
          have hl := subW_len w a (0 + 1) hj
          have hg := subW_get w a (0 + 1) 0 hj (by omega)
          match hs : subW w a (0 + 1), hl with
          | [x], _ => rw [hs] at hg; simp at hg; rw [hg]; congr 1; simp at h3 ⊢; omega
        rw [e] at hn
        exact (hn (lyn_one _ (by omega))).elim
      · have := lyfE_ok hw a j (by omega) (by omega); omega
/-- impl.LyndonFactors of a coloring -/
theorem impl_LyndonFactors (sh : Bool) (w : List Int) (hw : ColP w) : AC Tryz.prog 78 [.d sh (.sl .int) w] [] [.ow 0, .d true .bool true] [.sl 29 (.sl .int) (lyfL w)] := by
  have hl := hw.2
  have hC := impl_ColoringOk sh w (by omega)
  rw [(colB_iff w).2 hw] at hC
  refine AC_of tauOk 35 0 [2, 3] Tryz.func78 rfl (by kernel_rfl) rfl rfl rfl rfl rfl ?_
  refine ⟨[], false, _, _, hC, List.nodup_nil, rfl, rfl, trivial, fun _ => ?_, nofun⟩
  refine ⟨rfl, by decide, true, ?_⟩
  refine ⟨Nat × Nat × List (List Int), fun i => ⟨[(0, .d sh (.sl .int) w), (4, .ow 0), (5, I (i.2.1 : Nat))], [.sl 29 (.sl .int) i.2.2]⟩, fun i => lyfF w i.1 i.2.1 i.2.2 = lyfL w ∧ w.length ≤ i.2.1 + i.1 ∧ i.2.1 ≤ w.length ∧ i.2.2.length ≤ i.2.1, fun i => i.1, (w.length, 0, []), ⟨rfl, by dsimp only; omega, Nat.zero_le _, Nat.le_refl _⟩,
    ⟨⟨rfl, rfl⟩, ⟨rfl, rfl, rfl, trivial⟩, rfl, trivial⟩, ?_⟩
  rintro ⟨f, a, out⟩ ⟨hF, hfl, ha, ho⟩
  dsimp only at hF hfl ha ho
  refine ⟨fun h1 => ?_, fun h1 => ?_⟩
  · dsimp only at h1
    have ha2 : a < w.length := by omega
    obtain ⟨f', rfl⟩ : ∃ f', f = f' + 1 := ⟨f - 1, by omega⟩
    rw [lyfF, if_pos ha2] at hF
    obtain ⟨he1, he2⟩ := lyfE_ok hw a (w.length - a) (by omega) (by omega)
    refine ⟨Nat, fun j => ⟨[(0, .d sh (.sl .int) w), (4, .ow 0), (5, I (a : Nat)), (6, I ((a + j : Nat) : Int))], [.sl 29 (.sl .int) out]⟩, fun j => lyfE w a j = lyfE w a (w.length - a) ∧ 1 ≤ j ∧ a + j ≤ w.length, fun j => j, w.length - a, ⟨rfl, by omega, by omega⟩,
      ⟨⟨rfl, rfl⟩, ⟨rfl, rfl, rfl, retI (by omega), trivial⟩, rfl, trivial⟩, ?_⟩
    rintro j ⟨hj, hj1, hj2⟩
    obtain ⟨j', rfl⟩ : ∃ j', j = j' + 1 := ⟨j - 1, by omega⟩
    have hsl := subW_len w a (j' + 1) hj2
    rw [lyfE] at hj
    refine ⟨a, rfl, a + (j' + 1), rfl, by omega, hj2, ?_⟩
    refine ⟨[], false, _, _, impl_IsLyndon sh (subW w a (j' + 1)) (subW_col hw a (j' + 1) hj2 (by omega)), List.nodup_nil, rfl, rfl, trivial, fun h2 => ?_, fun h2 => ?_⟩
    · rw [if_pos (show lynB (subW w a (j' + 1)) = true from h2)] at hj
      rw [← hj] at hF
      have hne : subW w a (j' + 1) ≠ [] := by intro e; rw [e] at hsl; simp at hsl
      refine ⟨a, rfl, a + (j' + 1), rfl, by omega, hj2, ?_⟩
      refine ⟨[], false, _, _, slices_Clone_int sh (subW w a (j' + 1)) (by omega) hne, List.nodup_nil, rfl, rfl, trivial, ?_⟩
      refine ⟨rfl, rfl, by decide, false, ?_⟩
      refine ⟨rfl, Nat.zero_le _, rfl, by simp only [List.length_cons, List.length_nil]; omega, rfl, ?_⟩
      exact ⟨(f', a + (j' + 1), out ++ [subW w a (j' + 1)]), ⟨hF, by dsimp only; omega, by dsimp only; omega, by simp; omega⟩, by dsimp only; omega, ⟨rfl, rfl⟩, ⟨rfl, rfl, rfl, trivial⟩, rfl, trivial⟩
    · rw [if_neg (show ¬ lynB (subW w a (j' + 1)) = true by unfold lynB; rw [h2]; decide)] at hj
      have hj0 : 1 ≤ j' := by
        by_cases h0 : j' = 0
        · subst h0; rw [lyfE] at hj; omega
        · omega
      exact ⟨((a + j' : Nat) : Int), w64_eq (by omega) (by omega) (by omega), j', ⟨hj, hj0, by omega⟩, by dsimp only; omega, ⟨rfl, rfl⟩, ⟨rfl, rfl, rfl, rfl, trivial⟩, rfl, trivial⟩
  · dsimp only at h1
    have e : lyfF w f a out = out := by
      cases f with
      | zero => rfl
      | succ f => rw [lyfF, if_neg (by omega)]
    exact ⟨some 0, ⟨⟨rfl, rfl⟩, rfl, trivial⟩, ⟨rfl, rowsE (by rw [← hF, e])⟩, rfl⟩
end Go.Proofs.YtacjiemkbhhhoaaGreatDoor
set_option linter.unusedVariables false
namespace Go.Proofs.YtacjiemkbhhhoaaGreatDoor
open Go Go.Proofs.YtacjiemkbhhhoaaGreatDoor.Ow
/-- from place i0 + 1 on, k elements looked at: the kept ones moved to the front; how many are kept -/
def delS (p : List Int → Bool) (xss : List (List Int)) (i0 : Nat) : Nat → List (List Int) × Nat
  | 0 => (xss, i0)
  | k + 1 => if p ((delS p xss i0 k).1.getD (i0 + 1 + k) []) = true then delS p xss i0 k else ((delS p xss i0 k).1.set (delS p xss i0 k).2 ((delS p xss i0 k).1.getD (i0 + 1 + k) []), (delS p xss i0 k).2 + 1)
theorem delS_len (p : List Int → Bool) (xss : List (List Int)) (i0 : Nat) : ∀ k, (delS p xss i0 k).1.length = xss.length ∧ (delS p xss i0 k).2 ≤ i0 + k
  | 0 => ⟨rfl, Nat.le_refl _⟩
  | k + 1 => by
    have := delS_len p xss i0 k
    rw [delS]
    split
    · exact ⟨this.1, by omega⟩
    · exact ⟨by rw [List.length_set]; exact this.1, by dsimp only; omega⟩
theorem delS_rest (p : List Int → Bool) (xss : List (List Int)) (i0 : Nat) : ∀ k t, i0 + 1 + k ≤ t → (delS p xss i0 k).1.getD t [] = xss.getD t []
  | 0, t, _ => rfl
  | k + 1, t, h => by
    have h1 := (delS_len p xss i0 k).2
    rw [delS]
    split
    · exact delS_rest p xss i0 k t (by omega)
    · dsimp only
      rw [L_set_ne _ _ _ _ _ (by omega)]
      exact delS_rest p xss i0 k t (by omega)
/-- what is left of the row -/
def delR (p : List Int → Bool) (xss : List (List Int)) (i0 : Nat) : List (List Int) :=
  let s := delS p xss i0 (xss.length - (i0 + 1))
  List.take s.2 s.1 ++ List.replicate (s.1.length - s.2) [] ++ List.drop s.1.length s.1
theorem delR_len (p : List Int → Bool) (xss : List (List Int)) (i0 : Nat) (h : i0 < xss.length) : (delR p xss i0).length = xss.length := by
  have := delS_len p xss i0 (xss.length - (i0 + 1))
  unfold delR
  simp; omega
end Go.Proofs.YtacjiemkbhhhoaaGreatDoor
set_option linter.unusedVariables false
namespace Go.Proofs.YtacjiemkbhhhoaaGreatDoor
open Go Go.Proofs.YtacjiemkbhhhoaaGreatDoor.Ow
theorem idxL_cases (p : List Int → Bool) (xss : List (List Int)) : (idxL p xss = -1 ∧ ∀ j, j < xss.length → p (xss.getD j []) = false) ∨ ∃ i : Nat, idxL p xss = (i : Int) ∧ i < xss.length ∧ p (xss.getD i []) = true ∧ ∀ j, j < i → p (xss.getD j []) = false := by
  unfold idxL
  cases h : xss.findIdx? p with
  | none =>
    rw [List.findIdx?_eq_none_iff] at h
    exact .inl ⟨rfl, fun j hj => by rw [getD_get _ _ _ hj]; exact h _ (List.getElem_mem hj)⟩
  | some i =>
    rw [List.findIdx?_eq_some_iff_getElem] at h
    obtain ⟨hi, hp, h3⟩ := h
    exact .inr ⟨i, rfl, hi, by rw [getD_get _ _ _ hi]; exact hp, fun j hj => by have := h3 j hj; rw [getD_get _ _ _ (by omega)]; simpa using this⟩
end Go.Proofs.YtacjiemkbhhhoaaGreatDoor
