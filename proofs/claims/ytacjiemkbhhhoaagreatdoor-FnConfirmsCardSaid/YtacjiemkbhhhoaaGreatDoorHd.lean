/-
  Part 4 of the texts that the claim rests on: Wgr, Wgr2, PlE, Wren, PlF, Wsym, Pl9, PlH, PlI, Wcan, Wcyc, Wcgr, PlM, PlV, PlW, PlN, PlG, PlX, PlR, PlQ, PlY, PlZ, Wgok, Wcex, Wmat.
  No condition beyond the given program.
-/
import Derived.Test.YtacjiemkbhhhoaaGreatDoorHc
set_option linter.unusedVariables false
set_option linter.unusedSimpArgs false
set_option linter.unusedVariables false
namespace Go.Proofs.YtacjiemkbhhhoaaGreatDoor
open Go Go.Proofs.YtacjiemkbhhhoaaGreatDoor.Ow
theorem u64w (x : Int) (h1 : 0 ≤ x) (h2 : x ≤ 9223372036854775807) : x = IntKind.u64.wrap x := by
  simp only [IntKind.wrap, IntKind.bits, IntKind.signed]
  simp
  omega
/-- slices.BinarySearchFunc of lists, by slices.Compare -/
theorem slices_BSF (sh s2 : Bool) (xss : List (List Int)) (p : List Int) (hl : xss.length ≤ 1048576) (hx : ∀ i, i < xss.length → (xss.getD i []).length ≤ 1048576) (hp : p.length ≤ 1048576) :
    AC Tryz.prog 261 [.d sh (.sl (.sl .int)) xss, .d s2 (.sl .int) p, .fn 141 []] [] [I (bsN xss p : Nat), .d true .bool (decide (bsN xss p < xss.length ∧ xss.getD (bsN xss p) [] = p))] [] := by
  refine AC_of tauOk 49 0 [6, 7] Tryz.func261 rfl (by kernel_rfl) rfl rfl rfl rfl rfl ?_
  refine ⟨Nat × Nat × Nat, fun i => ⟨[(0, .d sh (.sl (.sl .int)) xss), (1, .d s2 (.sl .int) p), (2, .fn 141 []), (8, I xss.length), (9, I (i.1 : Nat)), (10, I (i.2.1 : Nat))], []⟩,
    fun i => (i.1 ≤ i.2.1 ∧ i.2.1 ≤ xss.length) ∧ i.2.1 - i.1 ≤ i.2.2 ∧ bsI xss p i.2.2 i.1 i.2.1 = bsN xss p, fun i => i.2.2, (0, xss.length, xss.length), ⟨⟨Nat.zero_le _, Nat.le_refl _⟩, Nat.le_refl _, rfl⟩,
    ⟨⟨rfl, rfl⟩, ⟨rfl, rfl, rfl, rfl, rfl, rfl, trivial⟩, trivial⟩, ?_⟩
  rintro ⟨i, j, f⟩ ⟨⟨h1, h2⟩, h3, h4⟩
  dsimp only at h1 h2 h3 h4
  refine ⟨fun h5 => ?_, fun h5 => ?_⟩
  · dsimp only at h5
    have hij : i < j := by omega
    obtain ⟨f', rfl⟩ : ∃ f', f = f' + 1 := ⟨f - 1, by omega⟩
    rw [bsI, if_pos hij] at h4
    refine ⟨((i + j : Nat) : Int), w64_eq (by dsimp only; omega) (by omega) (by omega), ?_⟩
    refine ⟨_, u64w _ (by omega) (by omega), by decide, (((i + j) / 2 : Nat) : Int), shr_eq (i + j) 1 (by decide), ?_⟩
    refine ⟨_, w64_in _ (by omega) (by omega), ?_⟩
    have hm : (i + j) / 2 < xss.length := by omega
    refine ⟨(i + j) / 2, rfl, hm, [], false, _, _, slices_Compare_int sh s2 (xss.getD ((i + j) / 2) []) p (hx _ hm) hp, List.nodup_nil, rfl, rfl, trivial, fun h6 => ?_, fun h6 => ?_⟩
    · rw [if_pos h6] at h4
      refine ⟨(((i + j) / 2 + 1 : Nat) : Int), w64_eq (by omega) (by omega) (by omega), ?_⟩
      exact ⟨((i + j) / 2 + 1, j, f'), ⟨⟨by dsimp only; omega, h2⟩, by dsimp only; omega, h4⟩, by dsimp only; omega, ⟨rfl, rfl⟩, ⟨rfl, rfl, rfl, rfl, rfl, rfl, trivial⟩, trivial⟩
    · rw [if_neg h6] at h4
      exact ⟨(i, (i + j) / 2, f'), ⟨⟨by dsimp only; omega, by dsimp only; omega⟩, by dsimp only; omega, h4⟩, by dsimp only; omega, ⟨rfl, rfl⟩, ⟨rfl, rfl, rfl, rfl, rfl, rfl, trivial⟩, trivial⟩
  · dsimp only at h5
    have hb : bsN xss p = i := by
      rw [← h4]
      cases f with
      | zero => rfl
      | succ f => rw [bsI, if_neg (by omega)]
    refine ⟨fun h6 => ?_, fun h6 => ?_⟩
    · have hi : i < xss.length := by dsimp only at h6; omega
      refine ⟨i, rfl, hi, [], false, _, _, slices_Compare_int sh s2 (xss.getD i []) p (hx _ hi) hp, List.nodup_nil, rfl, rfl, trivial, fun h7 => ?_, fun h7 => ?_⟩
      · exact ⟨none, ⟨retI (by rw [hb]), retB (by rw [hb, decide_eq_true ⟨hi, cmpI_eq _ _ h7⟩]), trivial⟩, rfl, rfl⟩
      · exact ⟨none, ⟨retI (by rw [hb]), retB (by rw [hb, decide_eq_false (fun e => h7 (by rw [e.2, cmpI_refl]))]), trivial⟩, rfl, rfl⟩
    · exact ⟨none, ⟨retI (by rw [hb]), retB (by rw [hb, decide_eq_false (fun e => h6 (by have := e.1; dsimp only; omega))]), trivial⟩, rfl, rfl⟩
/-- impl.indexOf -/
theorem impl_indexOf (sh s2 : Bool) (xss : List (List Int)) (p : List Int) (hl : xss.length ≤ 1048576) (hx : ∀ i, i < xss.length → (xss.getD i []).length ≤ 1048576) (hp : p.length ≤ 1048576) :
    AC Tryz.prog 158 [.d sh (.sl (.sl .int)) xss, .d s2 (.sl .int) p] [] [I (findI xss p)] [] := by
  refine AC_of tauOk 16 0 [4] Tryz.func158 rfl (by kernel_rfl) rfl rfl rfl rfl rfl ?_
  refine ⟨[], false, _, _, slices_BSF sh s2 xss p hl hx hp, List.nodup_nil, rfl, rfl, trivial, fun h => ?_, fun h => ?_⟩
  · exact ⟨none, ⟨retI (by rw [findI, if_pos (of_decide_eq_true h)]), trivial⟩, rfl, rfl⟩
  · exact ⟨none, ⟨retI (by rw [findI, if_neg (of_decide_eq_false h)]), trivial⟩, rfl, rfl⟩
theorem impl_isVertices (n : Int) : AC Tryz.prog 187 [I n] [] [.d true .bool (decide (1 ≤ n ∧ n ≤ 5))] [] := by
  refine AC_of tauOk 9 0 [2] Tryz.func187 rfl (by kernel_rfl) rfl rfl rfl rfl rfl ?_
  refine ⟨fun h => ?_, fun h => ?_⟩
  · refine ⟨fun h2 => ?_, fun h2 => ?_⟩
    · exact ⟨none, ⟨retB (decide_eq_true ⟨h, h2⟩), trivial⟩, rfl, rfl⟩
    · exact ⟨none, ⟨retB (decide_eq_false fun e => h2 e.2), trivial⟩, rfl, rfl⟩
  · exact ⟨none, ⟨retB (decide_eq_false fun e => h e.1), trivial⟩, rfl, rfl⟩
theorem impl_countPairs (n : Nat) (h1 : 1 ≤ n) (h5 : n < 6) : AC Tryz.prog 188 [I (n : Nat)] [] [I (cp n : Nat)] [] := by
  have hb := cp_le n h5
  refine AC_of tauOk 8 0 [2] Tryz.func188 rfl (by kernel_rfl) rfl rfl rfl rfl rfl ?_
  refine ⟨((n - 1 : Nat) : Int), w64_eq (by omega) (by omega) (by omega), ((n * (n - 1) : Nat) : Int), w64_eq (Int.natCast_mul _ _) (by omega) (by omega), by decide, ((cp n : Nat) : Int), w64_eq (Int.ofNat_tdiv _ _) (by omega) (by omega), ?_⟩
  exact ⟨none, ⟨rfl, trivial⟩, rfl, rfl⟩
/-- impl.SubsetsOf of two points -/
theorem impl_SubsetsOf (n : Nat) (h2 : 2 ≤ n) (hn : n < 6) : AC Tryz.prog 320 [I (n : Nat), I 2] [] [.ow 0] [.sl 29 (.sl .int) (pairsL n)] := by
  have hp : 2 ^ n ≤ 32 := by
    have : ∀ n, n < 6 → 2 ^ n ≤ 32 := by decide
    exact this n hn
  refine AC_of tauOk 57 0 [4] Tryz.func320 rfl (by kernel_rfl) rfl rfl rfl rfl rfl ?_
  refine ⟨fun h => by omega, fun h => ?_⟩
  refine ⟨fun h => by omega, fun h => ?_⟩
  refine ⟨fun h => by omega, fun h => ?_⟩
  refine ⟨fun h => by omega, fun h => ?_⟩
  refine ⟨rfl, by decide, true, ?_⟩
  refine ⟨Int.natCast_nonneg _, ((2 ^ n : Nat) : Int), shl_eq n (by omega), ?_⟩
  refine ⟨Nat, fun k => ⟨[(0, I (n : Nat)), (1, I 2), (5, .ow 0), (26, I (2 ^ n : Nat)), (27, I (k : Nat))], [.sl 29 (.sl .int) (subsS n 2 k)]⟩, fun k => k ≤ 2 ^ n, fun k => 2 ^ n - k, 0, Nat.zero_le _,
    ⟨⟨rfl, rfl⟩, ⟨rfl, rfl, rfl, rfl, rfl, trivial⟩, rfl, trivial⟩, fun k hk => ?_⟩
  dsimp only at hk
  have hl := subsS_len n 2 k
  refine ⟨fun h3 => ?_, fun h3 => ?_⟩
  · have hk2 : k < 2 ^ n := by omega
    refine ⟨rfl, by decide, true, ?_⟩
    refine ⟨Nat, fun j => ⟨[(0, I (n : Nat)), (1, I 2), (5, .ow 0), (26, I (2 ^ n : Nat)), (27, I (k : Nat)), (6, I (k : Nat)), (7, .ow 1), (31, I (n : Nat)), (32, I (j : Nat))], [.sl 29 (.sl .int) (subsS n 2 k), .sl 3 .int (bitsL j k)]⟩, fun j => j ≤ n, fun j => n - j, 0, Nat.zero_le _,
      ⟨⟨rfl, rfl⟩, ⟨rfl, rfl, rfl, rfl, rfl, rfl, rfl, rfl, rfl, trivial⟩, rfl, rfl, trivial⟩, fun j hj => ?_⟩
    dsimp only at hj
    have hbl := bitsL_len j k
    refine ⟨fun h4 => ?_, fun h4 => ?_⟩
    · have hj2 : j < n := by omega
      refine ⟨Int.natCast_nonneg _, ((k / 2 ^ j : Nat) : Int), shr_eq k j (by omega), ?_⟩
      have hkd : k / 2 ^ j ≤ k := Nat.div_le_self _ _
      refine ⟨((k / 2 ^ j % 2 : Nat) : Int), and1_eq _ (by omega), fun h5 => ?_, fun h5 => ?_⟩
      · refine ⟨rfl, by decide, false, ?_⟩
        refine ⟨rfl, Nat.zero_le _, rfl, by simp only [List.length_cons, List.length_nil]; omega, rfl, ?_⟩
        exact ⟨((j + 1 : Nat) : Int), w64_eq (by omega) (by omega) (by omega), j + 1, by dsimp only; omega, by dsimp only; omega, ⟨rfl, rfl⟩, ⟨rfl, rfl, rfl, rfl, rfl, rfl, rfl, rfl, rfl, trivial⟩, rfl, rowE (bitsL_yes j k ((bt_shr k j).1 h5)).symm, trivial⟩
      · exact ⟨((j + 1 : Nat) : Int), w64_eq (by omega) (by omega) (by omega), j + 1, by dsimp only; omega, by dsimp only; omega, ⟨rfl, rfl⟩, ⟨rfl, rfl, rfl, rfl, rfl, rfl, rfl, rfl, rfl, trivial⟩, rfl, rowE (bitsL_no j k (fun e => h5 ((bt_shr k j).2 e))).symm, trivial⟩
    · obtain rfl : j = n := by omega
      refine ⟨fun h5 => ?_, fun h5 => ?_⟩
      · refine ⟨rfl, rfl, by decide, false, ?_⟩
        refine ⟨rfl, Nat.zero_le _, rfl, by simp only [List.length_cons, List.length_nil]; omega, rfl, ?_⟩
        exact ⟨((k + 1 : Nat) : Int), w64_eq (by omega) (by omega) (by omega), k + 1, by dsimp only; omega, by dsimp only; omega, ⟨rfl, rfl⟩, ⟨rfl, rfl, rfl, rfl, rfl, trivial⟩, rowE (subsS_yes _ 2 k (by omega)).symm, trivial⟩
      · exact ⟨((k + 1 : Nat) : Int), w64_eq (by omega) (by omega) (by omega), k + 1, by dsimp only; omega, by dsimp only; omega, ⟨rfl, rfl⟩, ⟨rfl, rfl, rfl, rfl, rfl, trivial⟩, rowE (subsS_no _ 2 k (fun e => h5 (by omega))).symm, trivial⟩
  · obtain rfl : k = 2 ^ n := by omega
    have hne := pairs_ne n hn h2
    refine ⟨[0], false, _, _, slices_SortFunc_ints 29 (subsS n 2 (2 ^ n)) (pairsL n) (by omega) hne.1 hne.2 (pairs_perm n hn h2) (pairs_sorted n hn), by decide, rfl, rfl, ⟨⟨(pairs_perm n hn h2).length_eq, rfl, rfl⟩, trivial⟩, ?_⟩
    exact ⟨some 0, ⟨⟨rfl, rfl⟩, trivial⟩, ⟨rfl, rfl⟩, rfl⟩
/-- impl.PairsOf -/
theorem impl_PairsOf (n : Nat) (h2 : 2 ≤ n) (hn : n < 6) : AC Tryz.prog 250 [I (n : Nat)] [] [.ow 0] [.sl 29 (.sl .int) (pairsL n)] := by
  refine AC_of tauOk 11 0 [2] Tryz.func250 rfl (by kernel_rfl) rfl rfl rfl rfl rfl ?_
  refine ⟨fun h => by omega, fun h => ?_⟩
  refine ⟨fun h => by omega, fun h => ?_⟩
  refine ⟨[], false, _, _, impl_SubsetsOf n h2 hn, List.nodup_nil, rfl, rfl, trivial, ?_⟩
  exact ⟨some 0, ⟨⟨rfl, rfl⟩, trivial⟩, ⟨rfl, rfl⟩, rfl⟩
end Go.Proofs.YtacjiemkbhhhoaaGreatDoor
set_option linter.unusedVariables false
namespace Go.Proofs.YtacjiemkbhhhoaaGreatDoor
open Go Go.Proofs.YtacjiemkbhhhoaaGreatDoor.Ow
theorem pairs_short (n : Nat) (hn : n < 6) : (pairsL n).length ≤ 10 ∧ ∀ i, i < (pairsL n).length → ((pairsL n).getD i []).length = 2 ∧ 0 ≤ ((pairsL n).getD i []).getD 0 0 ∧ ((pairsL n).getD i []).getD 0 0 < ((pairsL n).getD i []).getD 1 0 ∧ ((pairsL n).getD i []).getD 1 0 < (n : Int) := by
  have h1 : ∀ n, n < 6 → (pairsL n).length ≤ 10 := by decide
  refine ⟨h1 n hn, fun i hi => ?_⟩
  rw [getD_get _ _ _ hi]
  exact pairs_get n hn _ (List.getElem_mem hi)
end Go.Proofs.YtacjiemkbhhhoaaGreatDoor
set_option linter.unusedVariables false
namespace Go.Proofs.YtacjiemkbhhhoaaGreatDoor
open Go Go.Proofs.YtacjiemkbhhhoaaGreatDoor.Ow
/-- the place of the pair to which a pair is carried -/
def paN (p l : List Int) : Nat := pixF (pairsL p.length) (mnI (p.getD (l.getD 0 0).toNat 0) (p.getD (l.getD 1 0).toNat 0)) (mxI (p.getD (l.getD 0 0).toNat 0) (p.getD (l.getD 1 0).toNat 0)) 0 (pairsL p.length).length
def pactL (p : List Int) : List Int := (pairsL p.length).map fun l => ((paN p l : Nat) : Int)
theorem map_snoc {α β : Type} (f : α → β) (xs : List α) (k : Nat) (d : α) (h : k < xs.length) : (xs.take (k + 1)).map f = (xs.take k).map f ++ [f (xs.getD k d)] := by
  rw [L_succ xs k d h, List.map_append]; rfl
/-- what is known of a pair that is carried -/
structure Car (p l : List Int) (u v : Nat) : Prop where
  fu : p.getD (l.getD 0 0).toNat 0 = (u : Int)
  fv : p.getD (l.getD 1 0).toNat 0 = (v : Int)
  lu : u < p.length
  lv : v < p.length
  ne : u ≠ v
theorem car_of {p : List Int} (hP : PermP p) (hn : p.length < 6) {l : List Int} (hl : l ∈ pairsL p.length) : ∃ u v, Car p l u v := by
  have h := pairs_get _ hn l hl
  have h1 := hP.2 (l.getD 0 0).toNat (by omega)
  have h2 := hP.2 (l.getD 1 0).toNat (by omega)
  have h3 := h2.2 (l.getD 0 0).toNat (by omega)
  exact ⟨(p.getD (l.getD 0 0).toNat 0).toNat, (p.getD (l.getD 1 0).toNat 0).toNat, by omega, by omega, by omega, by omega, by omega⟩
theorem car_find {p l : List Int} {u v : Nat} (h : Car p l u v) (hn : p.length < 6) : findI (pairsL p.length) [mnI u v, mxI u v] = (paN p l : Nat) := by
  unfold paN
  rw [h.fu, h.fv]
  unfold mnI mxI
  have := h.ne
  by_cases e : u < v
  · rw [if_neg (by omega), if_pos (by omega)]
    exact pix_find _ hn v h.lv u e
  · rw [if_pos (by omega), if_neg (by omega)]
    exact pix_find _ hn u h.lu v (by omega)
end Go.Proofs.YtacjiemkbhhhoaaGreatDoor
set_option linter.unusedVariables false
namespace Go.Proofs.YtacjiemkbhhhoaaGreatDoor
open Go Go.Proofs.YtacjiemkbhhhoaaGreatDoor.Ow
theorem sort_eq {xs ys : List Int} (hp : ys.Perm xs) (hs : ys.Pairwise fun x y => x ≤ y) : xs.mergeSort (fun x y => decide (x ≤ y)) = ys := by
  refine List.Perm.eq_of_pairwise (le := fun a b : Int => a ≤ b) (fun a b _ _ h1 h2 => by omega) ?_ hs ((List.mergeSort_perm xs _).trans hp.symm)
  have h := List.pairwise_mergeSort (le := fun x y : Int => decide (x ≤ y)) (fun a b c h1 h2 => by simp at *; omega) (fun a b => by simp; omega) xs
  exact h.imp fun h => by simpa using h
/-- slices.Sort of integers: what it leaves is whatever ascending list has the same elements -/
theorem slices_Sort_ints (e : Nat) (xs ys : List Int) (hl : xs.length ≤ 1048576) (hp : ys.Perm xs) (hs : ys.Pairwise fun x y => x ≤ y) : AC Tryz.prog 156 [.ow 0] [.sl e .int xs] [] [.sl e .int ys] :=
  AC_rowI hp.length_eq ⟨_, _, Tryz.func156, rfl, by kernel_rfl⟩ fun b cap w hH hb => by
    have h := Tryz.slices_Sort_int b 0 cap xs w hH hb (by omega)
    rw [sort_eq hp hs] at h
    exact h
theorem pair_el (n : Nat) (hn : n < 6) (k : Nat) (hk : k < (pairsL n).length) (j : Nat) (hj : j < ((pairsL n).getD k []).length) : 0 ≤ ((pairsL n).getD k []).getD j 0 ∧ ((pairsL n).getD k []).getD j 0 < (n : Int) := by
  have h := (pairs_short n hn).2 k hk
  have : j = 0 ∨ j = 1 := by omega
  rcases this with rfl | rfl <;> omega
theorem two_map (l : List Int) (f : Int → Int) (h : l.length = 2) : l.map f = [f (l.getD 0 0), f (l.getD 1 0)] := by
  match l, h with
  | [a, b], _ => rfl
theorem sorted_two (u v : Int) (h : u ≠ v) : [mnI u v, mxI u v].Perm [u, v] ∧ [mnI u v, mxI u v].Pairwise fun x y => x ≤ y := by
  unfold mnI mxI
  by_cases e : u < v
  · rw [if_neg (by omega), if_pos e]
    exact ⟨List.Perm.refl _, by simp; omega⟩
  · rw [if_pos (by omega), if_neg e]
    exact ⟨List.Perm.swap _ _ _, by simp; omega⟩
/-- impl.moved of the pairs -/
theorem impl_moved (sh2 : Bool) (p : List Int) (hP : PermP p) (hn : p.length < 6) : AC Tryz.prog 249 [.d true (.sl (.sl .int)) (pairsL p.length), .d sh2 (.sl .int) p] [] [.ow 0] [.sl 3 .int (pactL p)] := by
  have hs := pairs_short p.length hn
  refine AC_of tauOk 43 0 [4] Tryz.func249 rfl (by kernel_rfl) rfl rfl rfl rfl rfl ?_
  refine ⟨rfl, by decide, true, ?_⟩
  refine ⟨Nat, fun k => ⟨[(0, .d true (.sl (.sl .int)) (pairsL p.length)), (1, .d sh2 (.sl .int) p), (5, .ow 0), (12, .d true (.sl (.sl .int)) (pairsL p.length)), (13, I (pairsL p.length).length), (14, I (k : Nat))], [.sl 3 .int (((pairsL p.length).take k).map fun l => ((paN p l : Nat) : Int))]⟩, fun k => k ≤ (pairsL p.length).length, fun k => (pairsL p.length).length - k, 0, Nat.zero_le _,
    ⟨⟨rfl, rfl⟩, ⟨rfl, rfl, rfl, rfl, rfl, rfl, trivial⟩, rfl, trivial⟩, fun k hk => ?_⟩
  dsimp only at hk
  refine ⟨fun h1 => ?_, fun h1 => ?_⟩
  · have hk2 : k < (pairsL p.length).length := by omega
    have hq := hs.2 k hk2
    have hel := fun j hj => pair_el p.length hn k hk2 j hj
    have hms := map_snoc (fun l => ((paN p l : Nat) : Int)) (pairsL p.length) k [] hk2
    obtain ⟨u, v, hc⟩ := car_of hP hn (l := (pairsL p.length).getD k []) (by rw [getD_get _ _ _ hk2]; exact List.getElem_mem _)
    have hmk : (((pairsL p.length).take k).map fun l => ((paN p l : Nat) : Int)).length ≤ 10 := by rw [List.length_map, List.length_take]; omega
    refine ⟨k, rfl, hk2, ?_⟩
    have hcf := car_find hc hn
    refine ⟨rfl, by decide, true, ?_⟩
    refine ⟨Nat, fun j => ⟨[(0, .d true (.sl (.sl .int)) (pairsL p.length)), (1, .d sh2 (.sl .int) p), (5, .ow 0), (12, .d true (.sl (.sl .int)) (pairsL p.length)), (13, I (pairsL p.length).length), (14, I (k : Nat)), (8, .ow 1), (19, .d true (.sl .int) ((pairsL p.length).getD k [])), (20, I ((pairsL p.length).getD k []).length), (21, I (j : Nat))], [.sl 3 .int (((pairsL p.length).take k).map fun l => ((paN p l : Nat) : Int)), .sl 3 .int ((((pairsL p.length).getD k []).take j).map fun a => p.getD a.toNat 0)]⟩, fun j => j ≤ ((pairsL p.length).getD k []).length, fun j => ((pairsL p.length).getD k []).length - j, 0, Nat.zero_le _,
      ⟨⟨rfl, rfl⟩, ⟨rfl, rfl, rfl, rfl, rfl, rfl, rfl, rfl, rfl, rfl, trivial⟩, rfl, rfl, trivial⟩, fun j hj => ?_⟩
    dsimp only at hj
    refine ⟨fun h2 => ?_, fun h2 => ?_⟩
    · have hj2 : j < ((pairsL p.length).getD k []).length := by omega
      have he := hel j hj2
      have hml : ((((pairsL p.length).getD k []).take j).map fun a => p.getD a.toNat 0).length ≤ 2 := by rw [List.length_map, List.length_take]; omega
      have hms2 := map_snoc (fun a : Int => p.getD a.toNat 0) ((pairsL p.length).getD k []) j 0 hj2
      refine ⟨j, rfl, hj2, (((pairsL p.length).getD k []).getD j 0).toNat, (Int.toNat_of_nonneg he.1).symm, by omega, ?_⟩
      refine ⟨rfl, by decide, false, ?_⟩
      refine ⟨rfl, Nat.zero_le _, rfl, by simp only [List.length_cons, List.length_nil]; omega, rfl, ?_⟩
      exact ⟨((j + 1 : Nat) : Int), w64_eq (by omega) (by omega) (by omega), j + 1, by dsimp only; omega, by dsimp only; omega, ⟨rfl, rfl⟩, ⟨rfl, rfl, rfl, rfl, rfl, rfl, rfl, rfl, rfl, rfl, trivial⟩, rfl, rowE hms2.symm, trivial⟩
    · obtain rfl : j = ((pairsL p.length).getD k []).length := by omega
      have hx : (((pairsL p.length).getD k []).take ((pairsL p.length).getD k []).length).map (fun a => p.getD a.toNat 0) = [(u : Int), (v : Int)] := by
        rw [List.take_length, two_map ((pairsL p.length).getD k []) _ hq.1, hc.fu, hc.fv]
      have hst := sorted_two (u : Int) (v : Int) (by have := hc.ne; omega)
      dsimp only
      rw [hx]
      refine ⟨[1], false, _, _, slices_Sort_ints 3 [(u : Int), (v : Int)] [mnI u v, mxI u v] (by simp) hst.1 hst.2, by decide, rfl, rfl, ⟨⟨rfl, rfl, rfl⟩, trivial⟩, ?_⟩
      refine ⟨[], false, _, _, impl_indexOf true false (pairsL p.length) [mnI u v, mxI u v] (by omega) (fun i hi => by have := (hs.2 i hi).1; omega) (by simp), List.nodup_nil, rfl, rfl, trivial, ?_⟩
      refine ⟨rfl, by decide, false, ?_⟩
      refine ⟨rfl, Nat.zero_le _, rfl, by simp only [List.length_cons, List.length_nil]; omega, rfl, ?_⟩
      exact ⟨((k + 1 : Nat) : Int), w64_eq (by omega) (by omega) (by omega), k + 1, by omega, by omega, ⟨rfl, rfl⟩, ⟨rfl, rfl, rfl, rfl, rfl, rfl, trivial⟩, rowE (by rw [hms, hcf]), trivial⟩
  · obtain rfl : k = (pairsL p.length).length := by omega
    exact ⟨some 0, ⟨⟨rfl, rfl⟩, trivial⟩, ⟨rfl, rowsE (by rw [List.take_length]; rfl)⟩, rfl⟩
/-- impl.PairAction -/
theorem impl_PairAction (sh : Bool) (p : List Int) (hP : PermP p) (hn : p.length < 6) (h2 : 2 ≤ p.length) : AC Tryz.prog 146 [.d sh (.sl .int) p] [] [.ow 0, .d true .bool true] [.sl 3 .int (pactL p)] := by
  refine AC_of tauOk 22 0 [2, 3] Tryz.func146 rfl (by kernel_rfl) rfl rfl rfl rfl rfl ?_
  refine ⟨[], false, _, _, impl_PermOk sh p (by omega), List.nodup_nil, rfl, rfl, trivial, fun h => ?_, fun h => by rw [(permB_iff p).2 hP] at h; cases h⟩
  refine ⟨fun h => by omega, fun h => ?_⟩
  refine ⟨fun h => by omega, fun h => ?_⟩
  refine ⟨[], true, _, _, impl_PairsOf p.length h2 hn, List.nodup_nil, rfl, rfl, trivial, ?_⟩
  refine ⟨[], false, _, _, impl_moved sh p hP hn, List.nodup_nil, rfl, rfl, trivial, ?_⟩
  exact ⟨some 0, ⟨⟨rfl, rfl⟩, rfl, trivial⟩, ⟨rfl, rfl⟩, rfl⟩
end Go.Proofs.YtacjiemkbhhhoaaGreatDoor
set_option linter.unusedVariables false
namespace Go.Proofs.YtacjiemkbhhhoaaGreatDoor
open Go Go.Proofs.YtacjiemkbhhhoaaGreatDoor.Ow
def idL (n : Nat) : List Int := (List.range n).map fun (x : Nat) => (x : Int)
def turnL (n : Nat) : List Int := (List.range n).map fun (x : Nat) => (((x + 1) % n : Nat) : Int)
def swapL (n : Nat) : List Int := if 1 < n then ((idL n).set 0 1).set 1 0 else idL n
/-- a list of n points of n -/
def okP (n : Nat) (x : List Int) : Bool := decide (x.length = n) && x.all fun a => decide (0 ≤ a) && decide (a < (n : Int))
theorem okP_iff {n : Nat} {x : List Int} (h : okP n x = true) : x.length = n ∧ ∀ i, i < x.length → 0 ≤ x.getD i 0 ∧ x.getD i 0 < (n : Int) := by
  unfold okP at h
  simp only [Bool.and_eq_true, decide_eq_true_eq, List.all_eq_true] at h
  refine ⟨h.1, fun i hi => ?_⟩
  rw [getD_get _ _ _ hi]
  exact h.2 _ (List.getElem_mem hi)
/-- one element met: its products are added at the end -/
def innI (n a : Nat) : List (List Int) → List (List Int) → Option (List (List Int))
  | [], out => some out
  | g :: gs, out => if (out.length ≤ 120 ∧ a < out.length) ∧ okP n (out.getD a []) = true ∧ (out.all fun x => decide (x.length = n)) = true then
      (if (out.any fun x => decide (x = exL (out.getD a []) g)) = true then innI n a gs out
       else if out.length = 120 then none else innI n a gs (out ++ [exL (out.getD a []) g])) else none
def bfsI (n : Nat) (gens : List (List Int)) : Nat → Nat → List (List Int) → Option (List (List Int))
  | 0, _, _ => none
  | f + 1, a, out => if a < out.length then (match innI n a gens out with | none => none | some o => bfsI n gens f (a + 1) o) else some out
/-- the place where a list is put -/
def putN (xss : List (List Int)) (p : List Int) : Nat → Nat → Nat
  | 0, k => k
  | f + 1, k => if k < xss.length ∧ cmpI (xss.getD k []) p < 0 then putN xss p f (k + 1) else k
def putS (xss : List (List Int)) (p : List Int) : List (List Int) := xss.take (putN xss p 200 0) ++ [p] ++ xss.drop (putN xss p 200 0)
def innS (n a : Nat) : List (List Int) → List (List Int) → List (List Int) → Option (List (List Int) × List (List Int))
  | [], out, q => some (out, q)
  | g :: gs, out, q => if (out.length ≤ 120 ∧ q.length ≤ 120 ∧ a < q.length) ∧ okP n (q.getD a []) = true ∧ (out.all fun x => decide (x.length = n)) = true then
      (if 0 ≤ findI out (exL (q.getD a []) g) then innS n a gs out q
       else if out.length = 120 then none else innS n a gs (putS out (exL (q.getD a []) g)) (q ++ [exL (q.getD a []) g])) else none
def bfsS (n : Nat) (gens : List (List Int)) : Nat → Nat → List (List Int) → List (List Int) → Option (List (List Int))
  | 0, _, _, _ => none
  | f + 1, a, out, q => if a < q.length then (match innS n a gens out q with | none => none | some o => bfsS n gens f (a + 1) o.1 o.2) else some out
/-- all permutations of n points, ascending -/
def symL (n : Nat) : List (List Int) := (bfsS n [turnL n, swapL n] 200 0 [idL n] [idL n]).getD []
def symB (n : Nat) : Option (List (List Int)) → Option (List (List Int)) → Bool
  | some s, some o => s.isPerm o && (decide (s.Pairwise fun x y => ¬ cmpI y x < 0) && (s.all (fun x => permB x && decide (x.length = n)) && (decide (1 ≤ s.length) && decide (s.length ≤ 120))))
  | _, _ => false
set_option maxRecDepth 100000
theorem sym_all : ∀ n, n < 6 → 1 ≤ n → symB n (bfsS n [turnL n, swapL n] 200 0 [idL n] [idL n]) (bfsI n [turnL n, swapL n] 200 0 [idL n]) = true := by decide +kernel
theorem sym_gens : ∀ n, n < 6 → 1 ≤ n → (permB (turnL n) = true ∧ (turnL n).length = n) ∧ permB (swapL n) = true ∧ (swapL n).length = n := by decide
structure SymOk (n : Nat) : Prop where
  s : bfsS n [turnL n, swapL n] 200 0 [idL n] [idL n] = some (symL n)
  i : ∃ o, bfsI n [turnL n, swapL n] 200 0 [idL n] = some o ∧ (symL n).Perm o
  so : (symL n).Pairwise fun x y => ¬ cmpI y x < 0
  el : ∀ x ∈ symL n, PermP x ∧ x.length = n
  l1 : 1 ≤ (symL n).length
  l2 : (symL n).length ≤ 120
theorem sym_ok (n : Nat) (hn : n < 6) (h1 : 1 ≤ n) : SymOk n := by
  have h := sym_all n hn h1
  cases hs : bfsS n [turnL n, swapL n] 200 0 [idL n] [idL n] with
  | none => rw [hs] at h; cases h
  | some s =>
    cases hi : bfsI n [turnL n, swapL n] 200 0 [idL n] with
    | none => rw [hs, hi] at h; cases h
    | some o =>
      rw [hs, hi] at h
      have e : symL n = s := by unfold symL; rw [hs]; rfl
      unfold symB at h
      simp only [Bool.and_eq_true, decide_eq_true_eq, List.all_eq_true] at h
      obtain ⟨a, b, c, d1, d2⟩ := h
      refine ⟨by rw [e]; exact hs, ⟨o, hi, ?_⟩, by rw [e]; exact b, fun x hx => ?_, by rw [e]; exact d1, by rw [e]; exact d2⟩
      · rw [e]; exact List.isPerm_iff.1 a
      · rw [e] at hx
        exact ⟨(permB_iff x).1 (c x hx).1, (c x hx).2⟩
end Go.Proofs.YtacjiemkbhhhoaaGreatDoor
set_option linter.unusedVariables false
namespace Go.Proofs.YtacjiemkbhhhoaaGreatDoor
open Go Go.Proofs.YtacjiemkbhhhoaaGreatDoor.Ow
theorem tds (ys xs : List Int) (k : Nat) (v : Int) (he : ys.length = xs.length) (hk : k < xs.length) (hv : ys.getD k 0 = v) : (ys.take k ++ xs.drop k).set k v = ys.take (k + 1) ++ xs.drop (k + 1) := by
  have hl : (ys.take k).length = k := by rw [List.length_take]; omega
  rw [List.set_append_right _ _ (by omega), hl, Nat.sub_self, List.drop_eq_getElem_cons hk, List.set_cons_zero, L_succ ys k 0 (by omega), hv, List.append_assoc]; rfl
theorem idL_len (n : Nat) : (idL n).length = n := by simp [idL]
theorem turnL_len (n : Nat) : (turnL n).length = n := by simp [turnL]
theorem idL_get (n k : Nat) (h : k < n) : (idL n).getD k 0 = (k : Int) := by
  rw [getD_get _ _ _ (by rw [idL_len]; exact h)]; simp [idL]
theorem turnL_get (n k : Nat) (h : k < n) : (turnL n).getD k 0 = (((k + 1) % n : Nat) : Int) := by
  rw [getD_get _ _ _ (by rw [turnL_len]; exact h)]; simp [turnL]
/-- impl.IdentityPerm -/
theorem impl_IdentityPerm (n : Nat) (h1 : 1 ≤ n) (hn : n < 11) : AC Tryz.prog 135 [I (n : Nat)] [] [.ow 0] [.sl 3 .int (idL n)] := by
  refine AC_of tauOk 24 0 [2] Tryz.func135 rfl (by kernel_rfl) rfl rfl rfl rfl rfl ?_
  refine ⟨fun h => by omega, fun _ => ?_⟩
  refine ⟨fun h => by omega, fun _ => ?_⟩
  refine ⟨n, n, rfl, rfl, Nat.le_refl _, by omega, ?_⟩
  have hil := idL_len n
  have hrl : (List.replicate n (0 : Int)).length = n := List.length_replicate
  refine ⟨Nat, fun k => ⟨[(3, .ow 0), (14, I ((List.replicate n (0 : Int)).length : Nat)), (15, I (k : Nat))], [.sl 3 .int ((idL n).take k ++ (List.replicate n 0).drop k)]⟩, fun k => k ≤ n, fun k => n - k, 0, Nat.zero_le _,
    ⟨⟨rfl, rfl⟩, ⟨rfl, rfl, rfl, trivial⟩, rfl, trivial⟩, fun k hk => ?_⟩
  dsimp only at hk
  refine ⟨fun h2 => ?_, fun h2 => ?_⟩
  · refine ⟨k, rfl, ?_, ?_⟩
    · simp only [List.length_append, List.length_take, List.length_drop, List.length_replicate]; omega
    exact ⟨((k + 1 : Nat) : Int), w64_eq (by omega) (by omega) (by omega), k + 1, by dsimp only; omega, by dsimp only; omega, ⟨rfl, rfl⟩, ⟨rfl, rfl, rfl, trivial⟩, rowE (tds (idL n) (List.replicate n 0) k _ (by simp [hil]) (by simp; omega) (idL_get n k (by omega))), trivial⟩
  · obtain rfl : k = n := by omega
    exact ⟨some 0, ⟨⟨rfl, rfl⟩, trivial⟩, ⟨rfl, rowsE (by rw [List.take_of_length_le (by omega), List.drop_eq_nil_of_le (by simp), List.append_nil])⟩, rfl⟩
/-- impl.turn -/
theorem impl_turn (n : Nat) (h1 : 1 ≤ n) (hn : n < 11) : AC Tryz.prog 56 [I (n : Nat)] [] [.ow 0] [.sl 3 .int (turnL n)] := by
  refine AC_of tauOk 21 0 [2] Tryz.func56 rfl (by kernel_rfl) rfl rfl rfl rfl rfl ?_
  refine ⟨[], false, _, _, impl_IdentityPerm n h1 (by omega), List.nodup_nil, rfl, rfl, trivial, ?_⟩
  have hil := idL_len n
  have htl := turnL_len n
  refine ⟨Nat, fun k => ⟨[(0, I (n : Nat)), (3, .ow 0), (8, I ((idL n).length : Nat)), (9, I (k : Nat))], [.sl 3 .int ((turnL n).take k ++ (idL n).drop k)]⟩, fun k => k ≤ n, fun k => n - k, 0, Nat.zero_le _,
    ⟨⟨rfl, rfl⟩, ⟨rfl, rfl, rfl, rfl, trivial⟩, rfl, trivial⟩, fun k hk => ?_⟩
  dsimp only at hk
  refine ⟨fun h2 => ?_, fun h2 => ?_⟩
  · refine ⟨((k + 1 : Nat) : Int), w64_eq (by omega) (by omega) (by omega), by omega, (((k + 1) % n : Nat) : Int), Int.ofNat_tmod _ _, ?_⟩
    refine ⟨k, rfl, ?_, ?_⟩
    · simp only [List.length_append, List.length_take, List.length_drop]; omega
    exact ⟨((k + 1 : Nat) : Int), w64_eq (by omega) (by omega) (by omega), k + 1, by dsimp only; omega, by dsimp only; omega, ⟨rfl, rfl⟩, ⟨rfl, rfl, rfl, rfl, trivial⟩, rowE (tds (turnL n) (idL n) k _ (by omega) (by omega) (turnL_get n k (by omega))), trivial⟩
  · obtain rfl : k = n := by omega
    exact ⟨some 0, ⟨⟨rfl, rfl⟩, trivial⟩, ⟨rfl, rowsE (by rw [List.take_of_length_le (by omega), List.drop_eq_nil_of_le (by omega), List.append_nil])⟩, rfl⟩
theorem exL_get (xs h : List Int) (k : Nat) (hk : k < xs.length) : (exL xs h).getD k 0 = h.getD (xs.getD k 0).toNat 0 := by
  rw [getD_get _ _ _ (by rw [exL_len]; exact hk), getD_get _ _ _ hk]; simp [exL]
/-- impl.compose -/
theorem impl_compose (s1 s2 : Bool) (xs h : List Int) (hl : xs.length ≤ 1048576) (hx : ∀ i, i < xs.length → 0 ≤ xs.getD i 0 ∧ xs.getD i 0 < (h.length : Int)) :
    AC Tryz.prog 136 [.d s1 (.sl .int) xs, .d s2 (.sl .int) h] [] [.ow 0] [.sl 3 .int (exL xs h)] := by
  refine AC_of tauOk 27 0 [4] Tryz.func136 rfl (by kernel_rfl) rfl rfl rfl rfl rfl ?_
  refine ⟨xs.length, xs.length, rfl, rfl, Nat.le_refl _, by omega, ?_⟩
  have hel := exL_len xs h
  refine ⟨Nat, fun k => ⟨[(1, .d s2 (.sl .int) h), (5, .ow 0), (11, .d s1 (.sl .int) xs), (12, I xs.length), (13, I (k : Nat))], [.sl 3 .int ((exL xs h).take k ++ (List.replicate xs.length 0).drop k)]⟩, fun k => k ≤ xs.length, fun k => xs.length - k, 0, Nat.zero_le _,
    ⟨⟨rfl, rfl⟩, ⟨rfl, rfl, rfl, rfl, rfl, trivial⟩, rfl, trivial⟩, fun k hk => ?_⟩
  dsimp only at hk
  refine ⟨fun h2 => ?_, fun h2 => ?_⟩
  · have hk2 : k < xs.length := by omega
    have hb := hx k hk2
    refine ⟨k, rfl, hk2, (xs.getD k 0).toNat, (Int.toNat_of_nonneg hb.1).symm, by omega, k, rfl, ?_, ?_⟩
    · simp only [List.length_append, List.length_take, List.length_drop, List.length_replicate]; omega
    exact ⟨((k + 1 : Nat) : Int), w64_eq (by omega) (by omega) (by omega), k + 1, by dsimp only; omega, by dsimp only; omega, ⟨rfl, rfl⟩, ⟨rfl, rfl, rfl, rfl, rfl, trivial⟩, rowE (tds (exL xs h) (List.replicate xs.length 0) k _ (by simp [hel]) (by simp; omega) (exL_get xs h k hk2)), trivial⟩
  · obtain rfl : k = xs.length := by omega
    exact ⟨some 0, ⟨⟨rfl, rfl⟩, trivial⟩, ⟨rfl, rowsE (by rw [List.take_of_length_le (by omega), List.drop_eq_nil_of_le (by simp), List.append_nil])⟩, rfl⟩
theorem drop_c {α : Type} (l : List α) (j : Nat) (d : α) (h : j < l.length) : l.drop j = l.getD j d :: l.drop (j + 1) := by
  rw [getD_get _ _ _ h, List.drop_eq_getElem_cons h]
theorem innI_cons {n a : Nat} {g : List Int} {gs out : List (List Int)} {o} (h : innI n a (g :: gs) out = some o) :
    ((out.length ≤ 120 ∧ a < out.length) ∧ okP n (out.getD a []) = true ∧ ∀ i, i < out.length → (out.getD i []).length = n) ∧
    (((out.any fun x => decide (x = exL (out.getD a []) g)) = true ∧ innI n a gs out = some o) ∨ ((out.any fun x => decide (x = exL (out.getD a []) g)) = false ∧ out.length ≠ 120 ∧ innI n a gs (out ++ [exL (out.getD a []) g]) = some o)) := by
  rw [innI] at h
  split at h
  · rename_i h1
    refine ⟨⟨h1.1, h1.2.1, fun i hi => by
      have := h1.2.2
      rw [List.all_eq_true] at this
      have := this _ (List.getElem_mem hi)
      rw [getD_get _ _ _ hi]
      exact of_decide_eq_true this⟩, ?_⟩
    split at h
    · rename_i h2; exact .inl ⟨h2, h⟩
    · rename_i h2
      split at h
      · cases h
      · rename_i h3; exact .inr ⟨by rw [Bool.eq_false_iff]; exact h2, h3, h⟩
  · cases h
theorem bfsI_some {n : Nat} {gens : List (List Int)} {f a : Nat} {out R} (h : bfsI n gens f a out = some R) :
    ∃ f', f = f' + 1 ∧ ((a < out.length ∧ ∃ o, innI n a gens out = some o ∧ bfsI n gens f' (a + 1) o = some R) ∨ (¬ a < out.length ∧ out = R)) := by
  match f, h with
  | f + 1, h =>
    refine ⟨f, rfl, ?_⟩
    rw [bfsI] at h
    split at h
    · rename_i h1
      cases hi : innI n a gens out with
      | none => rw [hi] at h; cases h
      | some o => rw [hi] at h; exact .inl ⟨h1, o, rfl, h⟩
    · rename_i h1; exact .inr ⟨h1, Option.some.inj h⟩
/-- what generators must be -/
def GenP (n : Nat) (gens : List (List Int)) : Prop := gens.length ≤ 1000 ∧ ∀ i, i < gens.length → permB (gens.getD i []) = true ∧ (gens.getD i []).length = n
theorem gens_ok (n : Nat) (h1 : 1 ≤ n) (hn : n < 6) : GenP n [turnL n, swapL n] := by
  have h := sym_gens n hn h1
  refine ⟨by show 2 ≤ 1000; decide, fun i hi => ?_⟩
  have hi : i < 2 := hi
  match i, hi with
  | 0, _ => exact h.1
  | 1, _ => exact h.2
/-- the first index at which p holds, or -1 -/
def idxL (p : List Int → Bool) (xss : List (List Int)) : Int := match xss.findIdx? p with | some i => (i : Int) | none => -1
theorem idxL_at {p : List Int → Bool} {xss : List (List Int)} {k : Nat} (hk : k < xss.length) (h : p (xss.getD k []) = true) (h0 : ∀ j, j < k → p (xss.getD j []) = false) : (k : Int) = idxL p xss := by
  have : xss.findIdx? p = some k := by
    rw [List.findIdx?_eq_some_iff_getElem]
    exact ⟨hk, by rw [getD_get _ _ _ hk] at h; exact h, fun j hj => by have := h0 j hj; rw [getD_get _ _ _ (by omega)] at this; simp [this]⟩
  rw [idxL, this]
theorem idxL_no {p : List Int → Bool} {xss : List (List Int)} (h0 : ∀ j, j < xss.length → p (xss.getD j []) = false) : -1 = idxL p xss := by
  have : xss.findIdx? p = none := by
    rw [List.findIdx?_eq_none_iff]
    intro x hx
    obtain ⟨j, hj, rfl⟩ := List.getElem_of_mem hx
    have := h0 j hj; rwa [getD_get _ _ _ hj] at this
  rw [idxL, this]
/-- slices.IndexFunc of lists, by a closure over one variable -/
theorem slices_IndexFunc_ints (F : Nat) (e : TypeId) (t : Ty) (v : t.T) (p : List Int → Bool) (sh : Bool) (xss : List (List Int)) (hl : xss.length ≤ 1048576)
    (hF : ∀ i, i < xss.length → AC Tryz.prog F [.d sh (.sl .int) (xss.getD i []), .ptr 0 0] [.box e (.d true t v)] [.d true .bool (p (xss.getD i []))] [.box e (.d true t v)]) :
    AC Tryz.prog 241 [.d sh (.sl (.sl .int)) xss, .fn F [.ptr 0 0]] [.box e (.d true t v)] [I (idxL p xss)] [.box e (.d true t v)] := by
  refine AC_of tauOk 19 1 [4] Tryz.func241 rfl (by kernel_rfl) rfl rfl rfl rfl rfl ?_
  refine ⟨Nat, fun k => ⟨[(0, .d sh (.sl (.sl .int)) xss), (1, .fn F [.ptr 0 0]), (7, I xss.length), (8, I (k : Nat))], [.box e (.d true t v)]⟩, fun k => k ≤ xss.length ∧ ∀ j, j < k → p (xss.getD j []) = false, fun k => xss.length - k, 0, ⟨by omega, fun j hj => by omega⟩,
    ⟨⟨rfl, rfl⟩, ⟨rfl, rfl, rfl, rfl, trivial⟩, rfl, trivial⟩, fun k ⟨hk, hy⟩ => ?_⟩
  refine ⟨fun h1 => ?_, fun h1 => ?_⟩
  · have hk2 : k < xss.length := by omega
    refine ⟨k, rfl, hk2, [0], false, _, _, hF k hk2, by decide, rfl, rfl, ⟨⟨rfl, trivial⟩, trivial⟩, fun h2 => ?_, fun h2 => ?_⟩
    · exact ⟨none, ⟨retI (idxL_at hk2 h2 hy).symm, trivial⟩, rfl, rfl⟩
    · refine ⟨_, w64_in _ (by omega) (by omega), k + 1, ⟨by omega, fun i hi => ?_⟩, by dsimp only; omega, ⟨rfl, rfl⟩, ⟨rfl, rfl, rfl, rfl, trivial⟩, rfl, trivial⟩
      by_cases e : i = k
      · subst e; exact h2
      · exact hy i (by omega)
  · exact ⟨none, ⟨retI (idxL_no fun j hj => hy j (by omega)).symm, trivial⟩, rfl, rfl⟩
theorem idxL_any (p : List Int → Bool) (xss : List (List Int)) : (0 ≤ idxL p xss) ↔ xss.any p = true := by
  unfold idxL
  cases h : xss.findIdx? p with
  | none =>
    rw [List.findIdx?_eq_none_iff] at h
    simp only [List.any_eq_true]
    exact ⟨fun h => by omega, fun ⟨x, hx, hp⟩ => by rw [h x hx] at hp; cases hp⟩
  | some i =>
    rw [List.findIdx?_eq_some_iff_getElem] at h
    obtain ⟨hi, hp, _⟩ := h
    simp only [List.any_eq_true]
    exact ⟨fun _ => ⟨xss[i], List.getElem_mem hi, hp⟩, fun _ => by omega⟩
theorem slices_ContainsFunc_ints (F : Nat) (e : TypeId) (t : Ty) (v : t.T) (p : List Int → Bool) (sh : Bool) (xss : List (List Int)) (hl : xss.length ≤ 1048576)
    (hF : ∀ i, i < xss.length → AC Tryz.prog F [.d sh (.sl .int) (xss.getD i []), .ptr 0 0] [.box e (.d true t v)] [.d true .bool (p (xss.getD i []))] [.box e (.d true t v)]) :
    AC Tryz.prog 137 [.d sh (.sl (.sl .int)) xss, .fn F [.ptr 0 0]] [.box e (.d true t v)] [.d true .bool (xss.any p)] [.box e (.d true t v)] := by
  refine AC_of tauOk 9 1 [4] Tryz.func137 rfl (by kernel_rfl) rfl rfl rfl rfl rfl ?_
  refine ⟨[0], false, _, _, slices_IndexFunc_ints F e t v p sh xss hl hF, by decide, rfl, rfl, ⟨⟨rfl, trivial⟩, trivial⟩, fun h1 => ?_, fun h1 => ?_⟩
  · exact ⟨none, ⟨retB ((idxL_any p xss).1 h1), trivial⟩, rfl, rfl⟩
  · exact ⟨none, ⟨retB (by cases h : xss.any p; rfl; exact (h1 ((idxL_any p xss).2 h)).elim), trivial⟩, rfl, rfl⟩
/-- the closure of impl.GroupOf -/
theorem impl_GroupOf_1 (sh : Bool) (x q : List Int) (hx : x.length ≤ 1048576) (hq : q.length ≤ 1048576) : AC Tryz.prog 138 [.d sh (.sl .int) x, .ptr 0 0] [.box 29 (.d true (.sl .int) q)] [.d true .bool (decide (x = q))] [.box 29 (.d true (.sl .int) q)] := by
  refine AC_of tauOk 7 1 [3] Tryz.func138 rfl (by kernel_rfl) rfl rfl rfl rfl rfl ?_
  refine ⟨rfl, [], false, _, _, slices_Equal_int sh true x q hx hq, List.nodup_nil, rfl, rfl, trivial, fun h => ?_, fun h => ?_⟩
  · exact ⟨none, ⟨retB h, trivial⟩, rfl, rfl⟩
  · exact ⟨none, ⟨retB h, trivial⟩, rfl, rfl⟩
/-- impl.GroupOf -/
theorem impl_GroupOf (sh : Bool) (n : Nat) (gens R S : List (List Int)) (h1 : 1 ≤ n) (hn : n < 11) (hg : GenP n gens) (hR : bfsI n gens 200 0 [idL n] = some R)
    (hp : S.Perm R) (hs : S.Pairwise fun x y => ¬ cmpI y x < 0) (hS : S.length ≤ 120 ∧ S ≠ [] ∧ ∀ x ∈ S, x ≠ [] ∧ x.length ≤ 1048576) :
    AC Tryz.prog 55 [I (n : Nat), .d sh (.sl (.sl .int)) gens] [] [.ow 0, .d true .bool true] [.sl 29 (.sl .int) S] := by
  have hgl := hg.1
  refine AC_of tauOk 70 0 [4, 5] Tryz.func55 rfl (by kernel_rfl) rfl rfl rfl rfl rfl ?_
  refine ⟨fun h => by omega, fun _ => ?_⟩
  refine ⟨fun h => by omega, fun _ => ?_⟩
  refine ⟨Nat, fun k => ⟨[(0, I (n : Nat)), (1, .d sh (.sl (.sl .int)) gens), (19, .d sh (.sl (.sl .int)) gens), (20, I gens.length), (21, I (k : Nat))], []⟩, fun k => k ≤ gens.length, fun k => gens.length - k, 0, Nat.zero_le _,
    ⟨⟨rfl, rfl⟩, ⟨rfl, rfl, rfl, rfl, rfl, trivial⟩, trivial⟩, fun k hk => ?_⟩
  dsimp only at hk
  refine ⟨fun h2 => ?_, fun h2 => ?_⟩
  · have hk2 : k < gens.length := by omega
    have hp := hg.2 k hk2
    refine ⟨k, rfl, hk2, [], false, _, _, impl_PermOk sh (gens.getD k []) (by omega), List.nodup_nil, rfl, rfl, trivial, fun h3 => ?_, fun h3 => by rw [hp.1] at h3; cases h3⟩
    refine ⟨fun h4 => (h4 (by omega)).elim, fun _ => ?_⟩
    exact ⟨((k + 1 : Nat) : Int), w64_eq (by omega) (by omega) (by omega), k + 1, by dsimp only; omega, by dsimp only; omega, ⟨rfl, rfl⟩, ⟨rfl, rfl, rfl, rfl, rfl, trivial⟩, trivial⟩
  · clear h2
    refine ⟨[], true, _, _, impl_IdentityPerm n h1 (by omega), List.nodup_nil, rfl, rfl, trivial, ?_⟩
    refine ⟨rfl, by decide, true, ?_⟩
    refine ⟨Nat × List (List Int), fun i => ⟨[(0, I (n : Nat)), (1, .d sh (.sl (.sl .int)) gens), (8, .ow 0), (9, I (i.1 : Nat))], [.sl 29 (.sl .int) i.2]⟩,
      fun i => i.1 ≤ 200 ∧ bfsI n gens (200 - i.1) i.1 i.2 = some R, fun i => 200 - i.1, (0, [idL n]), ⟨Nat.zero_le _, hR⟩,
      ⟨⟨rfl, rfl⟩, ⟨rfl, rfl, rfl, rfl, trivial⟩, rfl, trivial⟩, ?_⟩
    rintro ⟨a, q⟩ ⟨ha, hb⟩
    dsimp only at ha hb
    obtain ⟨f, hf, hcase⟩ := bfsI_some hb
    refine ⟨fun h3 => ?_, fun h3 => ?_⟩
    · dsimp only at h3
      rcases hcase with ⟨haq, o, ho, hR2⟩ | ⟨haq, _⟩
      · refine ⟨Nat × List (List Int), fun i => ⟨[(0, I (n : Nat)), (1, .d sh (.sl (.sl .int)) gens), (8, .ow 0), (9, I (a : Nat)), (44, .d sh (.sl (.sl .int)) gens), (45, I gens.length), (46, I (i.1 : Nat))], [.sl 29 (.sl .int) i.2]⟩,
          fun i => i.1 ≤ gens.length ∧ innI n a (gens.drop i.1) i.2 = some o, fun i => gens.length - i.1, (0, q), ⟨Nat.zero_le _, ho⟩,
          ⟨⟨rfl, rfl⟩, ⟨rfl, rfl, rfl, rfl, rfl, rfl, rfl, trivial⟩, rfl, trivial⟩, ?_⟩
        rintro ⟨j, q'⟩ ⟨hj, hin⟩
        dsimp only at hj hin
        refine ⟨fun h4 => ?_, fun h4 => ?_⟩
        · dsimp only at h4
          have hj2 : j < gens.length := by omega
          have hp := hg.2 j hj2
          rw [drop_c gens j [] hj2] at hin
          obtain ⟨⟨⟨c2, c3⟩, c4, c5⟩, c6⟩ := innI_cons hin
          have c7 := okP_iff c4
          have hel := exL_len (q'.getD a []) (gens.getD j [])
          refine ⟨j, rfl, hj2, a, rfl, c3, ?_⟩
          refine ⟨[], true, _, _, impl_compose true sh (q'.getD a []) (gens.getD j []) (by omega) (fun i hi => by rw [hp.2]; exact c7.2 i hi), List.nodup_nil, rfl, rfl, trivial, ?_⟩
          have hql : ∀ i, i < q'.length → (q'.getD i []).length ≤ 1048576 := fun i hi => by have := c5 i hi; omega
          refine ⟨rfl, rfl, [1], false, _, _, slices_ContainsFunc_ints 138 29 (.sl .int) (exL (q'.getD a []) (gens.getD j [])) (fun x => decide (x = exL (q'.getD a []) (gens.getD j []))) false q' (by omega) (fun i hi => impl_GroupOf_1 false _ _ (hql i hi) (by omega)), by decide, rfl, rfl, ⟨⟨rfl, trivial⟩, trivial⟩, fun h5 => ?_, fun h5 => ?_⟩
          · rcases c6 with ⟨_, c6⟩ | ⟨c6, _⟩
            · exact ⟨((j + 1 : Nat) : Int), w64_eq (by omega) (by omega) (by omega), (j + 1, q'), ⟨by dsimp only; omega, c6⟩, by dsimp only; omega, ⟨rfl, rfl⟩, ⟨rfl, rfl, rfl, rfl, rfl, rfl, rfl, trivial⟩, rfl, trivial⟩
            · rw [c6] at h5; cases h5
          · rcases c6 with ⟨c6, _⟩ | ⟨_, c8, c6⟩
            · rw [c6] at h5; cases h5
            · refine ⟨fun h6 => by dsimp only at h6; omega, fun _ => ?_⟩
              refine ⟨rfl, rfl, by decide, false, ?_⟩
              refine ⟨rfl, Nat.zero_le _, rfl, by simp only [List.length_cons, List.length_nil]; omega, rfl, ?_⟩
              exact ⟨((j + 1 : Nat) : Int), w64_eq (by omega) (by omega) (by omega), (j + 1, q' ++ [exL (q'.getD a []) (gens.getD j [])]), ⟨by dsimp only; omega, c6⟩, by dsimp only; omega, ⟨rfl, rfl⟩, ⟨rfl, rfl, rfl, rfl, rfl, rfl, rfl, trivial⟩, rfl, trivial⟩
        · dsimp only at h4
          obtain rfl : j = gens.length := by omega
          rw [List.drop_length] at hin
          obtain rfl : o = q' := (Option.some.inj hin).symm
          exact ⟨((a + 1 : Nat) : Int), w64_eq (by omega) (by omega) (by omega), (a + 1, o), ⟨by dsimp only; omega, by dsimp only; rw [show 200 - (a + 1) = f from by omega]; exact hR2⟩, by dsimp only; omega, ⟨rfl, rfl⟩, ⟨rfl, rfl, rfl, rfl, trivial⟩, rfl, trivial⟩
      · omega
    · dsimp only at h3
      rcases hcase with ⟨haq, _⟩ | ⟨_, rfl⟩
      · omega
      · have hRl := hp.length_eq
        refine ⟨[0], false, _, _, slices_SortFunc_ints 29 q S (by omega) (by intro e; rw [e] at hRl; exact hS.2.1 (List.length_eq_zero_iff.1 hRl)) (fun x hx => hS.2.2 x (hp.symm.subset hx)) hp hs, by decide, rfl, rfl, ⟨⟨hRl, rfl, rfl⟩, trivial⟩, ?_⟩
        exact ⟨some 0, ⟨⟨rfl, rfl⟩, rfl, trivial⟩, ⟨rfl, rfl⟩, rfl⟩
end Go.Proofs.YtacjiemkbhhhoaaGreatDoor
set_option linter.unusedVariables false
namespace Go.Proofs.YtacjiemkbhhhoaaGreatDoor
open Go Go.Proofs.YtacjiemkbhhhoaaGreatDoor.Ow
/-- how many are not met -/
def cnF (met : List Bool) : Nat := met.count false
theorem cnF_set : ∀ (met : List Bool) (x : Nat), x < met.length → met.getD x false = false → cnF (met.set x true) + 1 = cnF met
  | [], x, h, _ => by simp at h
  | b :: l, 0, _, h => by
    obtain rfl : b = false := h
    simp [cnF]
  | b :: l, x + 1, h, h2 => by
    have := cnF_set l x (by simpa using h) h2
    simp only [cnF, List.set_cons_succ, List.count_cons] at this ⊢
    omega
/-- from x on, until a point is met again -/
def walkC (xs : List Int) : Nat → List Bool → List Int → Nat → List Bool × List Int
  | 0, met, c, _ => (met, c)
  | f + 1, met, c, x => if met.getD x false = true then (met, c) else walkC xs f (met.set x true) (c ++ [(x : Int)]) (xs.getD x 0).toNat
theorem walkC_met (xs : List Int) (f : Nat) (met : List Bool) (c : List Int) (x : Nat) (h : met.getD x false = true) : walkC xs f met c x = (met, c) := by
  cases f with
  | zero => rfl
  | succ f => rw [walkC, if_pos h]
theorem walkC_not (xs : List Int) (f : Nat) (met : List Bool) (c : List Int) (x : Nat) (h : met.getD x false = false) : walkC xs (f + 1) met c x = walkC xs f (met.set x true) (c ++ [(x : Int)]) (xs.getD x 0).toNat := by
  rw [walkC, if_neg (by rw [h]; decide)]
theorem walkC_ok (xs : List Int) (hx : ∀ i, i < xs.length → 0 ≤ xs.getD i 0 ∧ xs.getD i 0 < (xs.length : Int)) : ∀ (f : Nat) (met : List Bool) (c : List Int) (x : Nat), x < xs.length → (∀ y ∈ c, 0 ≤ y ∧ y < (xs.length : Int)) →
    (walkC xs f met c x).1.length = met.length ∧ (∀ y ∈ (walkC xs f met c x).2, 0 ≤ y ∧ y < (xs.length : Int)) ∧ c.length ≤ (walkC xs f met c x).2.length ∧ (walkC xs f met c x).2.length ≤ c.length + f
  | 0, met, c, x, h, hc => ⟨rfl, hc, Nat.le_refl _, Nat.le_refl _⟩
  | f + 1, met, c, x, h, hc => by
    cases hm : met.getD x false with
    | true => rw [walkC_met _ _ _ _ _ hm]; exact ⟨rfl, hc, Nat.le_refl _, by show c.length ≤ _; omega⟩
    | false =>
      rw [walkC_not _ _ _ _ _ hm]
      have hb := hx x h
      obtain ⟨h1, h2, h3, h4⟩ := walkC_ok xs hx f (met.set x true) (c ++ [(x : Int)]) (xs.getD x 0).toNat (by omega) (fun y hy => by
        rcases List.mem_append.1 hy with hy | hy
        · exact hc y hy
        · have : y = (x : Int) := by simpa using hy
          omega)
      simp only [List.length_append, List.length_cons, List.length_nil, List.length_set] at h1 h3 h4
      exact ⟨h1, h2, by omega, by omega⟩
/-- the points met and the cycles, behind the first k points -/
def cycS (xs : List Int) : Nat → List Bool × List (List Int)
  | 0 => (List.replicate xs.length false, [])
  | k + 1 => if (cycS xs k).1.getD k false = true then cycS xs k else ((walkC xs xs.length (cycS xs k).1 [] k).1, (cycS xs k).2 ++ [(walkC xs xs.length (cycS xs k).1 [] k).2])
theorem cyc_yes (xs : List Int) (k : Nat) (h : (cycS xs k).1.getD k false = true) : cycS xs (k + 1) = cycS xs k := by rw [cycS, if_pos h]
theorem cyc_no (xs : List Int) (k : Nat) (h : (cycS xs k).1.getD k false = false) : cycS xs (k + 1) = ((walkC xs xs.length (cycS xs k).1 [] k).1, (cycS xs k).2 ++ [(walkC xs xs.length (cycS xs k).1 [] k).2]) := by
  rw [cycS, if_neg (by rw [h]; decide)]
theorem cyc_ok (xs : List Int) (hx : ∀ i, i < xs.length → 0 ≤ xs.getD i 0 ∧ xs.getD i 0 < (xs.length : Int)) : ∀ k, k ≤ xs.length → (cycS xs k).1.length = xs.length ∧ (cycS xs k).2.length ≤ k ∧
    ∀ c ∈ (cycS xs k).2, 1 ≤ c.length ∧ c.length ≤ xs.length ∧ ∀ x ∈ c, 0 ≤ x ∧ x < (xs.length : Int)
  | 0, _ => ⟨List.length_replicate .., Nat.le_refl _, fun c hc => by simp [cycS] at hc⟩
  | k + 1, hk => by
    obtain ⟨h1, h2, h3⟩ := cyc_ok xs hx k (by omega)
    cases hm : (cycS xs k).1.getD k false with
    | true => rw [cyc_yes _ _ hm]; exact ⟨h1, by omega, h3⟩
    | false =>
      rw [cyc_no _ _ hm]
      obtain ⟨w1, w2, w3, w4⟩ := walkC_ok xs hx xs.length (cycS xs k).1 [] k (by omega) (fun y hy => by simp at hy)
      refine ⟨w1.trans h1, by simp only [List.length_append, List.length_cons, List.length_nil]; omega, fun c hc => ?_⟩
      rcases List.mem_append.1 hc with hc | hc
      · exact h3 c hc
      · have : c = (walkC xs xs.length (cycS xs k).1 [] k).2 := by simpa using hc
        subst this
        refine ⟨?_, by simpa using w4, w2⟩
        obtain ⟨f, hf⟩ : ∃ f, xs.length = f + 1 := ⟨xs.length - 1, by omega⟩
        have hb := hx k (by omega)
        have := (walkC_ok xs hx f ((cycS xs k).1.set k true) ([] ++ [(k : Int)]) (xs.getD k 0).toNat (by omega) (fun y hy => by
          have : y = (k : Int) := by simpa using hy
          omega)).2.2.1
        rw [← walkC_not xs f _ _ _ hm, ← hf] at this
        exact this
/-- the cycles of a permutation -/
def cycL (xs : List Int) : List (List Int) := (cycS xs xs.length).2
/-- the first k cycles as text -/
def fcyS (l : List (List Int)) : Nat → List UInt8
  | 0 => []
  | k + 1 => if 1 < (l.getD k []).length then fcyS l k ++ (40 :: (Lib.join ((l.getD k []).map fmtI) [32] ++ [41])) else fcyS l k
def fmtC (xs : List Int) : List UInt8 := if permB xs = true then (if fcyS (cycL xs) (cycL xs).length = [] then [40, 41] else fcyS (cycL xs) (cycL xs).length) else []
end Go.Proofs.YtacjiemkbhhhoaaGreatDoor
set_option linter.unusedVariables false
namespace Go.Proofs.YtacjiemkbhhhoaaGreatDoor
open Go Go.Proofs.YtacjiemkbhhhoaaGreatDoor.Ow
/-- what all renamings do to the pairs -/
def actsL (n : Nat) : List (List Int) := (symL n).map pactL
def sumTo (f : Nat → Nat) : Nat → Nat
  | 0 => 0
  | j + 1 => sumTo f j + f j
theorem sumTo_le (f : Nat → Nat) (B : Nat) : ∀ j, (∀ i, i < j → f i ≤ B) → sumTo f j ≤ j * B
  | 0, _ => Nat.zero_le _
  | j + 1, h => by
    have h1 := sumTo_le f B j fun i hi => h i (by omega)
    have h2 := h j (by omega)
    rw [sumTo, Nat.add_mul]; omega
/-- in how many ways cycles get colors -/
def waysN : List (List Int) → List Int → Nat
  | [], _ => 1
  | c :: cs, left => sumTo (fun i => if (c.length : Int) ≤ left.getD i 0 then waysN cs (left.set i (left.getD i 0 - c.length)) else 0) left.length
theorem waysN_le (L : Nat) : ∀ (cs : List (List Int)) (left : List Int), left.length = L → waysN cs left ≤ L ^ cs.length
  | [], _, _ => Nat.le_refl _
  | c :: cs, left, h => by
    rw [waysN, List.length_cons, Nat.pow_succ, Nat.mul_comm, ← h]
    refine sumTo_le _ _ _ fun i hi => ?_
    split
    · rw [h]; exact waysN_le L cs _ (by rw [List.length_set]; exact h)
    · exact Nat.zero_le _
/-- graphs of n vertices with e edges: as they are counted -/
def cgsN (n e : Nat) : Nat := sumTo (fun k => waysN (cycL ((actsL n).getD k [])) [((cp n - e : Nat) : Int), (e : Int)]) (actsL n).length
def cgwN (n e : Nat) : Nat := cgsN n e / (actsL n).length
def cgpN (n : Nat) : Nat := sumTo (fun k => 2 ^ (cycL ((actsL n).getD k [])).length) (actsL n).length
def cgCheck (n : Nat) : Bool := (actsL n).all (fun q => permB q && decide (q.length = cp n)) && decide (sumTo (cgwN n) (cp n + 1) = cgpN n / (actsL n).length)
set_option maxRecDepth 100000
theorem cg_all : ∀ n, n < 6 → 2 ≤ n → cgCheck n = true := by decide +kernel
end Go.Proofs.YtacjiemkbhhhoaaGreatDoor
set_option linter.unusedVariables false
namespace Go.Proofs.YtacjiemkbhhhoaaGreatDoor
open Go Go.Proofs.YtacjiemkbhhhoaaGreatDoor.Ow
def cgwI (n e : Int) : Int := if 1 ≤ n ∧ n ≤ 5 then (if 0 ≤ e ∧ e ≤ ((cp n.toNat : Nat) : Int) then (if n = 1 then 1 else ((cgwN n.toNat e.toNat : Nat) : Int)) else 0) else -1
def cgI (n : Int) : Int := if 1 ≤ n ∧ n ≤ 5 then (if n = 1 then 1 else ((sumTo (cgwN n.toNat) (cp n.toNat + 1) : Nat) : Int)) else -1
end Go.Proofs.YtacjiemkbhhhoaaGreatDoor
set_option linter.unusedVariables false
namespace Go.Proofs.YtacjiemkbhhhoaaGreatDoor
open Go Go.Proofs.YtacjiemkbhhhoaaGreatDoor.Ow
theorem symL_get {n : Nat} (hS : SymOk n) (k : Nat) (hk : k < (symL n).length) : PermP ((symL n).getD k []) ∧ ((symL n).getD k []).length = n := by
  rw [getD_get _ _ _ hk]
  exact hS.el _ (List.getElem_mem hk)
/-- impl.SymmetricGroup -/
theorem impl_SymmetricGroup (n : Nat) (h1 : 1 ≤ n) (hn : n < 6) : AC Tryz.prog 61 [I (n : Nat)] [] [.ow 0, .d true .bool true] [.sl 29 (.sl .int) (symL n)] := by
  have hS := sym_ok n hn h1
  have hil := idL_len n
  obtain ⟨o, ho, hp⟩ := hS.i
  have hG := impl_GroupOf true n [turnL n, swapL n] o (symL n) h1 (by omega) (gens_ok n h1 hn) ho hp hS.so ⟨hS.l2, by intro e; have := hS.l1; rw [e] at this; simp at this, fun x hx => ⟨by intro e; have := (hS.el x hx).2; rw [e] at this; simp at this; omega, by have := (hS.el x hx).2; omega⟩⟩
  refine AC_of tauOk 27 0 [2, 3] Tryz.func61 rfl (by kernel_rfl) rfl rfl rfl rfl rfl ?_
  refine ⟨fun h => by omega, fun _ => ?_⟩
  refine ⟨fun h => by omega, fun _ => ?_⟩
  refine ⟨[], false, _, _, impl_IdentityPerm n h1 (by omega), List.nodup_nil, rfl, rfl, trivial, ?_⟩
  refine ⟨fun h => ?_, fun h => ?_⟩
  · refine ⟨0, rfl, by omega, ?_⟩
    refine ⟨1, rfl, by rw [List.length_set]; omega, ?_⟩
    rw [swapL, if_pos (by omega)] at hG
    refine ⟨[], true, _, _, impl_turn n h1 (by omega), List.nodup_nil, rfl, rfl, trivial, ?_⟩
    refine ⟨rfl, rfl, by decide, false, ?_⟩
    refine ⟨[], false, _, _, hG, List.nodup_nil, rfl, rfl, trivial, fun _ => ?_, nofun⟩
    exact ⟨some 1, ⟨⟨rfl, rfl⟩, rfl, trivial⟩, ⟨rfl, rfl⟩, rfl⟩
  · rw [swapL, if_neg (by omega)] at hG
    refine ⟨[], true, _, _, impl_turn n h1 (by omega), List.nodup_nil, rfl, rfl, trivial, ?_⟩
    refine ⟨rfl, rfl, by decide, false, ?_⟩
    refine ⟨[], false, _, _, hG, List.nodup_nil, rfl, rfl, trivial, fun _ => ?_, nofun⟩
    exact ⟨some 1, ⟨⟨rfl, rfl⟩, rfl, trivial⟩, ⟨rfl, rfl⟩, rfl⟩
/-- impl.renamings -/
theorem impl_renamings (n : Nat) (h1 : 1 ≤ n) (hn : n < 6) : AC Tryz.prog 189 [I (n : Nat)] [] [.ow 0] [.sl 29 (.sl .int) (symL n)] := by
  refine AC_of tauOk 11 0 [2] Tryz.func189 rfl (by kernel_rfl) rfl rfl rfl rfl rfl ?_
  refine ⟨[], false, _, _, impl_SymmetricGroup n h1 hn, List.nodup_nil, rfl, rfl, trivial, fun _ => ?_, nofun⟩
  exact ⟨some 0, ⟨⟨rfl, rfl⟩, trivial⟩, ⟨rfl, rfl⟩, rfl⟩
theorem actsL_get (n k : Nat) (hk : k < (symL n).length) : (actsL n).getD k [] = pactL ((symL n).getD k []) := by
  rw [getD_get _ _ _ (by rw [actsL, List.length_map]; exact hk), getD_get _ _ _ hk]; simp [actsL]
theorem actsL_len (n : Nat) : (actsL n).length = (symL n).length := by simp [actsL]
end Go.Proofs.YtacjiemkbhhhoaaGreatDoor
set_option linter.unusedVariables false
namespace Go.Proofs.YtacjiemkbhhhoaaGreatDoor
open Go Go.Proofs.YtacjiemkbhhhoaaGreatDoor.Ow
theorem permR {xs : List Int} (h : PermP xs) : ∀ i, i < xs.length → 0 ≤ xs.getD i 0 ∧ xs.getD i 0 < (xs.length : Int) := fun i hi => (h.2 i hi).1
/-- impl.CyclesOf of a permutation -/
theorem impl_CyclesOf (sh : Bool) (xs : List Int) (hP : PermP xs) : AC Tryz.prog 161 [.d sh (.sl .int) xs] [] [.ow 0] [.sl 29 (.sl .int) (cycL xs)] := by
  have hn := hP.1
  have hx := permR hP
  refine AC_of tauOk 48 0 [2] Tryz.func161 rfl (by kernel_rfl) rfl rfl rfl rfl rfl ?_
  refine ⟨[], false, _, _, impl_PermOk sh xs (by omega), List.nodup_nil, rfl, rfl, trivial, fun h1 => ?_, fun h1 => by rw [(permB_iff xs).2 hP] at h1; cases h1⟩
  refine ⟨rfl, by decide, true, ?_⟩
  refine ⟨xs.length, xs.length, rfl, rfl, Nat.le_refl _, by omega, ?_⟩
  refine ⟨Nat, fun k => ⟨[(0, .d sh (.sl .int) xs), (3, .ow 0), (4, .ow 1), (16, I xs.length), (17, I (k : Nat))], [.sl 29 (.sl .int) (cycS xs k).2, .sl 4 .bool (cycS xs k).1]⟩, fun k => k ≤ xs.length, fun k => xs.length - k, 0, Nat.zero_le _,
    ⟨⟨rfl, rfl⟩, ⟨rfl, rfl, rfl, rfl, rfl, trivial⟩, rfl, rfl, trivial⟩, fun k hk => ?_⟩
  dsimp only at hk
  obtain ⟨g1, g2, g3⟩ := cyc_ok xs hx k hk
  refine ⟨fun h2 => ?_, fun h2 => ?_⟩
  · have hk2 : k < xs.length := by omega
    refine ⟨k, rfl, by omega, fun h3 => ?_, fun h3 => ?_⟩
    · have e := cyc_yes xs k h3
      exact ⟨((k + 1 : Nat) : Int), w64_eq (by omega) (by omega) (by omega), k + 1, by dsimp only; omega, by dsimp only; omega, ⟨rfl, rfl⟩, ⟨rfl, rfl, rfl, rfl, rfl, trivial⟩, rowE (by rw [e]), rowE (by rw [e]), trivial⟩
    · have e := cyc_no xs k h3
      refine ⟨rfl, by decide, true, ?_⟩
      refine ⟨List Bool × List Int × Nat × Nat, fun i => ⟨[(0, .d sh (.sl .int) xs), (3, .ow 0), (4, .ow 1), (16, I xs.length), (17, I (k : Nat)), (6, .ow 2), (7, I (i.2.2.1 : Nat))], [.sl 29 (.sl .int) (cycS xs k).2, .sl 4 .bool i.1, .sl 3 .int i.2.1]⟩,
        fun i => (i.1.length = xs.length ∧ i.2.2.1 < xs.length) ∧ (cnF i.1 ≤ i.2.2.2 ∧ i.2.1.length + i.2.2.2 ≤ xs.length) ∧ walkC xs i.2.2.2 i.1 i.2.1 i.2.2.1 = walkC xs xs.length (cycS xs k).1 [] k, fun i => i.2.2.2, ((cycS xs k).1, [], k, xs.length), ⟨⟨g1, hk2⟩, ⟨by rw [← g1]; exact List.count_le_length, by simp⟩, rfl⟩,
        ⟨⟨rfl, rfl⟩, ⟨rfl, rfl, rfl, rfl, rfl, rfl, rfl, trivial⟩, rfl, rfl, rfl, trivial⟩, ?_⟩
      rintro ⟨met, c, x, f⟩ ⟨⟨m1, m2⟩, ⟨m3, m4⟩, m5⟩
      dsimp only at m1 m2 m3 m4 m5
      refine ⟨x, rfl, by dsimp only; omega, fun h4 => ?_, fun h4 => ?_⟩
      · rw [walkC_met _ _ _ _ _ h4] at m5
        refine ⟨rfl, rfl, by decide, false, ?_⟩
        refine ⟨rfl, Nat.zero_le _, rfl, by simp only [List.length_cons, List.length_nil]; omega, rfl, ?_⟩
        exact ⟨((k + 1 : Nat) : Int), w64_eq (by omega) (by omega) (by omega), k + 1, by dsimp only; omega, by dsimp only; omega, ⟨rfl, rfl⟩, ⟨rfl, rfl, rfl, rfl, rfl, trivial⟩, rowE (by rw [e, ← m5]), rowE (by rw [e, ← m5]), trivial⟩
      · have hcn := cnF_set met x (by omega) h4
        obtain ⟨f', rfl⟩ : ∃ f', f = f' + 1 := ⟨f - 1, by omega⟩
        rw [walkC_not _ _ _ _ _ h4] at m5
        have hb := hx x m2
        refine ⟨x, rfl, by dsimp only; omega, ?_⟩
        refine ⟨rfl, by decide, false, ?_⟩
        refine ⟨rfl, Nat.zero_le _, rfl, by simp only [List.length_cons, List.length_nil]; omega, rfl, ?_⟩
        refine ⟨x, rfl, m2, ?_⟩
        exact ⟨(met.set x true, c ++ [(x : Int)], (xs.getD x 0).toNat, f'), ⟨⟨(List.length_set ..).trans m1, by dsimp only; omega⟩, ⟨by dsimp only; omega, by dsimp only; rw [List.length_append]; simp only [List.length_cons, List.length_nil]; omega⟩, m5⟩, by dsimp only; omega, ⟨rfl, rfl⟩, ⟨rfl, rfl, rfl, rfl, rfl, rfl, retI (by dsimp only; omega), trivial⟩, rfl, rfl, rfl, trivial⟩
  · obtain rfl : k = xs.length := by omega
    exact ⟨some 0, ⟨⟨rfl, rfl⟩, trivial⟩, ⟨rfl, rfl⟩, rfl⟩
/-- a cycle as text is short -/
theorem cyc_text (c : List Int) (n : Nat) (hn : n ≤ 10) (h : c.length ≤ n ∧ ∀ x ∈ c, 0 ≤ x ∧ x < (n : Int)) : In64 c ∧ c.length ≤ 1048576 ∧ (Lib.join (c.map fmtI) [32]).length ≤ 300 := by
  have hi : ∀ i, i < c.length → 0 ≤ c.getD i 0 ∧ c.getD i 0 < (n : Int) := fun i hi => by
    rw [getD_get _ _ _ hi]; exact h.2 _ (List.getElem_mem hi)
  refine ⟨fun i hi' => by have := hi i hi'; omega, by omega, ?_⟩
  have hj := jn_len (c.map fmtI) [32] 20 (fun i hi' => by
    have hi2 : i < c.length := by simpa using hi'
    rw [getD_get _ _ _ hi', List.getElem_map]
    have := h.2 _ (List.getElem_mem hi2)
    exact fmtI_len _ (by omega) (by omega)) (c.map fmtI).length (Nat.le_refl _)
  rw [jn_join, List.length_map] at hj
  have : c.length * ([32].length + 20) ≤ 10 * 21 := Nat.mul_le_mul (by omega) (by simp)
  omega
theorem fcyS_len (l : List (List Int)) (B : Nat) (hB : 302 ≤ B) (h : ∀ c ∈ l, (Lib.join (c.map fmtI) [32]).length ≤ 300) : ∀ k, k ≤ l.length → (fcyS l k).length ≤ k * B
  | 0, _ => by simp [fcyS]
  | k + 1, hk => by
    have ih := fcyS_len l B hB h k (by omega)
    have hc := h (l.getD k []) (by rw [getD_get _ _ _ (show k < l.length by omega)]; exact List.getElem_mem _)
    rw [Nat.succ_mul]
    rw [fcyS]
    split
    · simp only [List.length_append, List.length_cons, List.length_nil]; omega
    · omega
/-- what is known of the cycles -/
theorem cycL_ok {xs : List Int} (hP : PermP xs) : (cycL xs).length ≤ 10 ∧ ∀ k, k < (cycL xs).length → 1 ≤ ((cycL xs).getD k []).length ∧ In64 ((cycL xs).getD k []) ∧ ((cycL xs).getD k []).length ≤ 1048576 ∧ (Lib.join (((cycL xs).getD k []).map fmtI) [32]).length ≤ 300 := by
  obtain ⟨h1, h2, h3⟩ := cyc_ok xs (permR hP) xs.length (Nat.le_refl _)
  have hn := hP.1.2
  refine ⟨by show (cycS xs xs.length).2.length ≤ 10; omega, fun k hk => ?_⟩
  have hm : (cycL xs).getD k [] ∈ (cycS xs xs.length).2 := by rw [getD_get _ _ _ hk]; exact List.getElem_mem _
  obtain ⟨g1, g2, g3⟩ := h3 _ hm
  obtain ⟨t1, t2, t3⟩ := cyc_text _ xs.length hn ⟨g2, g3⟩
  exact ⟨g1, t1, t2, t3⟩
theorem fcyL_len {xs : List Int} (hP : PermP xs) : ∀ k, k ≤ (cycL xs).length → (fcyS (cycL xs) k).length ≤ 4000 := fun k hk => by
  have h := cycL_ok hP
  have := fcyS_len (cycL xs) 302 (Nat.le_refl _) (fun c hc => by
    obtain ⟨i, hi, rfl⟩ := List.getElem_of_mem hc
    have := (h.2 i hi).2.2.2
    rwa [getD_get _ _ _ hi] at this) k hk
  omega
/-- impl.FormatCycles -/
theorem impl_FormatCycles (sh : Bool) (xs : List Int) (hl : xs.length ≤ 1048576) : AC Tryz.prog 68 [.d sh (.sl .int) xs] [] [.d true .str (fmtC xs)] [] := by
  refine AC_of tauOk 29 0 [2] Tryz.func68 rfl (by kernel_rfl) rfl rfl rfl rfl rfl ?_
  refine ⟨[], false, _, _, impl_PermOk sh xs hl, List.nodup_nil, rfl, rfl, trivial, fun h1 => ?_, fun h1 => ?_⟩
  · have hP := (permB_iff xs).1 h1
    have hc := cycL_ok hP
    have hf := fcyL_len hP
    refine ⟨[], true, _, _, impl_CyclesOf sh xs hP, List.nodup_nil, rfl, rfl, trivial, ?_⟩
    refine ⟨Nat, fun k => ⟨[(3, .d true .str (fcyS (cycL xs) k)), (10, .d true (.sl (.sl .int)) (cycL xs)), (11, I (cycL xs).length), (12, I (k : Nat))], []⟩, fun k => k ≤ (cycL xs).length, fun k => (cycL xs).length - k, 0, Nat.zero_le _,
      ⟨⟨rfl, rfl⟩, ⟨rfl, rfl, rfl, rfl, trivial⟩, trivial⟩, fun k hk => ?_⟩
    dsimp only at hk
    refine ⟨fun h2 => ?_, fun h2 => ?_⟩
    · have hk2 : k < (cycL xs).length := by omega
      obtain ⟨c1, c2, c3, c4⟩ := hc.2 k hk2
      have hfk := hf k hk
      refine ⟨k, rfl, hk2, fun h3 => ?_, fun h3 => ?_⟩
      · have e : fcyS (cycL xs) (k + 1) = fcyS (cycL xs) k ++ (40 :: (Lib.join (((cycL xs).getD k []).map fmtI) [32] ++ [41])) := by rw [fcyS, if_pos (by omega)]
        refine ⟨[], false, _, _, impl_commas true ((cycL xs).getD k []) [32] c2 c3 (by decide), List.nodup_nil, rfl, rfl, trivial, ?_⟩
        refine ⟨by simp only [List.length_cons, List.length_nil]; omega, by simp only [List.length_append, List.length_cons, List.length_nil]; omega, by simp only [List.length_append, List.length_cons, List.length_nil]; omega, ?_⟩
        exact ⟨((k + 1 : Nat) : Int), w64_eq (by omega) (by omega) (by omega), k + 1, by dsimp only; omega, by dsimp only; omega, ⟨rfl, rfl⟩, ⟨retS (by rw [e]; rfl), rfl, rfl, rfl, trivial⟩, trivial⟩
      · have e : fcyS (cycL xs) (k + 1) = fcyS (cycL xs) k := by rw [fcyS, if_neg (by omega)]
        exact ⟨((k + 1 : Nat) : Int), w64_eq (by omega) (by omega) (by omega), k + 1, by dsimp only; omega, by dsimp only; omega, ⟨rfl, rfl⟩, ⟨retS e.symm, rfl, rfl, rfl, trivial⟩, trivial⟩
    · obtain rfl : k = (cycL xs).length := by omega
      refine ⟨fun h3 => ?_, fun h3 => ?_⟩
      · exact ⟨none, ⟨retS (by rw [fmtC, if_pos h1, if_pos h3]), trivial⟩, rfl, rfl⟩
      · exact ⟨none, ⟨retS (by rw [fmtC, if_pos h1, if_neg h3]), trivial⟩, rfl, rfl⟩
  · exact ⟨none, ⟨retS (by rw [fmtC, if_neg (by rw [h1]; decide)]), trivial⟩, rfl, rfl⟩
end Go.Proofs.YtacjiemkbhhhoaaGreatDoor
set_option linter.unusedVariables false
namespace Go.Proofs.YtacjiemkbhhhoaaGreatDoor
open Go Go.Proofs.YtacjiemkbhhhoaaGreatDoor.Ow
theorem set_back (l : List Int) (i : Nat) (v : Int) (hi : i < l.length) : (l.set i v).set i (l.getD i 0) = l := by
  rw [List.set_set, getD_get _ _ _ hi]
  exact List.set_getElem_self hi
/-- impl.ways -/
theorem impl_ways (e : Nat) : ∀ (cs : List (List Int)) (s : Bool) (left : List Int), left.length = 2 → cs.length ≤ 10 → (∀ i, i < cs.length → (cs.getD i []).length ≤ 10) → (∀ i, i < 2 → 0 ≤ left.getD i 0 ∧ left.getD i 0 ≤ 10) →
    AC Tryz.prog 281 [.d s (.sl (.sl .int)) cs, .ow 0] [.sl e .int left] [I (waysN cs left : Nat)] [.sl e .int left]
  | [], s, left, hl, _, _, _ => by
    refine AC_of tauOk 52 1 [4] Tryz.func281 rfl (by kernel_rfl) rfl rfl rfl rfl rfl ?_
    refine ⟨fun _ => ?_, fun h => (h rfl).elim⟩
    exact ⟨none, ⟨rfl, trivial⟩, rfl, rfl⟩
  | c :: cs, s, left, hl, hcl, hcc, hle => by
    have hd : List.drop 1 (List.take (c :: cs).length (c :: cs)) = cs := by rw [List.take_length]; rfl
    have hc0 : c.length ≤ 10 := hcc 0 (by simp)
    have hcs : cs.length ≤ 9 := by simp at hcl; omega
    have hB := waysN_le 2 cs
    have hB2 : 2 ^ cs.length ≤ 512 := Nat.le_trans (Nat.pow_le_pow_right (by decide) hcs) (by decide)
    have hsum : ∀ j, j ≤ 2 → sumTo (fun i => if (c.length : Int) ≤ left.getD i 0 then waysN cs (left.set i (left.getD i 0 - c.length)) else 0) j ≤ j * 512 := fun j hj => sumTo_le _ _ _ fun i hi => by
      split
      · exact Nat.le_trans (hB _ (by rw [List.length_set]; exact hl)) hB2
      · exact Nat.zero_le _
    have hlen : (c :: cs).length = cs.length + 1 := rfl
    refine AC_of tauOk 52 1 [4] Tryz.func281 rfl (by kernel_rfl) rfl rfl rfl rfl rfl ?_
    refine ⟨fun h => by omega, fun _ => ?_⟩
    refine ⟨Nat, fun j => ⟨[(0, .d s (.sl (.sl .int)) (c :: cs)), (1, .ow 0), (5, I (sumTo (fun i => if (c.length : Int) ≤ left.getD i 0 then waysN cs (left.set i (left.getD i 0 - c.length)) else 0) j : Nat)), (11, I left.length), (12, I (j : Nat))], [.sl e .int left]⟩, fun j => j ≤ 2, fun j => 2 - j, 0, Nat.zero_le _,
      ⟨⟨rfl, rfl⟩, ⟨rfl, rfl, rfl, rfl, rfl, trivial⟩, rfl, trivial⟩, fun j hj => ?_⟩
    dsimp only at hj
    have hsj := hsum j hj
    refine ⟨fun h2 => ?_, fun h2 => ?_⟩
    · have hj2 : j < left.length := by omega
      have hb := hle j (by omega)
      have hsj1 := hsum (j + 1) (by omega)
      refine ⟨none, by kernel_rfl, j, rfl, hj2, 0, rfl, by omega, fun h3 => ?_, fun h3 => ?_⟩
      · have h3 : (c.length : Int) ≤ left.getD j 0 := h3
        have e1 : sumTo (fun i => if (c.length : Int) ≤ left.getD i 0 then waysN cs (left.set i (left.getD i 0 - c.length)) else 0) (j + 1) = sumTo (fun i => if (c.length : Int) ≤ left.getD i 0 then waysN cs (left.set i (left.getD i 0 - c.length)) else 0) j + waysN cs (left.set j (left.getD j 0 - c.length)) := by
          rw [sumTo, if_pos h3]
        have hW : AC Tryz.prog 281 [.d s (.sl (.sl .int)) (List.drop 1 (List.take (c :: cs).length (c :: cs))), .ow 0] [.sl e .int (left.set j (left.getD j 0 - c.length))] [I (waysN cs (left.set j (left.getD j 0 - c.length)) : Nat)] [.sl e .int (left.set j (left.getD j 0 - c.length))] := by
          rw [hd]
          refine impl_ways e cs s _ (by rw [List.length_set]; exact hl) (by omega) (fun i hi => hcc (i + 1) (by omega)) fun i hi => ?_
          by_cases e2 : j = i
          · subst e2; rw [L_set_self _ _ _ _ hj2]; omega
          · rw [L_set_ne _ _ _ _ _ e2]; exact hle i hi
        have hbw := hB (left.set j (left.getD j 0 - c.length)) (by rw [List.length_set]; exact hl)
        refine ⟨some 10, by kernel_rfl, j, rfl, hj2, 0, rfl, by omega, left.getD j 0 - c.length, w64_eq rfl (by omega) (by omega), j, rfl, hj2, ?_⟩
        refine ⟨1, rfl, by omega, Nat.le_refl _, ?_⟩
        refine ⟨[0], false, _, _, hW, by decide, rfl, rfl, ⟨⟨rfl, rfl, rfl⟩, trivial⟩, ?_⟩
        refine ⟨((sumTo (fun i => if (c.length : Int) ≤ left.getD i 0 then waysN cs (left.set i (left.getD i 0 - c.length)) else 0) (j + 1) : Nat) : Int), w64_eq (by rw [e1]; omega) (by omega) (by omega), ?_⟩
        have hj3 : j < (left.set j (left.getD j 0 - c.length)).length := by rw [List.length_set]; exact hj2
        refine ⟨some 10, by kernel_rfl, j, rfl, hj3, 0, rfl, by omega, left.getD j 0, w64_eq (by rw [L_set_self _ _ _ _ hj2]; show _ = _ - _ + ((c.length : Nat) : Int); omega) (by omega) (by omega), j, rfl, hj3, ?_⟩
        exact ⟨((j + 1 : Nat) : Int), w64_eq (by omega) (by omega) (by omega), j + 1, by dsimp only; omega, by dsimp only; omega, ⟨rfl, rfl⟩, ⟨rfl, rfl, rfl, rfl, rfl, trivial⟩, rowE (set_back left j _ hj2), trivial⟩
      · have h3 : ¬ (c.length : Int) ≤ left.getD j 0 := h3
        have e1 : sumTo (fun i => if (c.length : Int) ≤ left.getD i 0 then waysN cs (left.set i (left.getD i 0 - c.length)) else 0) (j + 1) = sumTo (fun i => if (c.length : Int) ≤ left.getD i 0 then waysN cs (left.set i (left.getD i 0 - c.length)) else 0) j := by
          rw [sumTo, if_neg h3, Nat.add_zero]
        exact ⟨((j + 1 : Nat) : Int), w64_eq (by omega) (by omega) (by omega), j + 1, by dsimp only; omega, by dsimp only; omega, ⟨rfl, rfl⟩, ⟨rfl, rfl, retI (by rw [e1]), rfl, rfl, trivial⟩, rfl, trivial⟩
    · obtain rfl : j = 2 := by omega
      exact ⟨none, ⟨retI (by rw [waysN, hl]), trivial⟩, rfl, rfl⟩
/-- contents of two colors -/
structure ConP (l : List Int) (m : Nat) : Prop where
  l2 : l.length = 2
  el : ∀ i, i < 2 → 0 ≤ l.getD i 0 ∧ l.getD i 0 ≤ 10
  su : l.getD 0 0 + l.getD 1 0 = (m : Int)
theorem con_of (m e : Nat) (hm : m ≤ 10) (he : e ≤ m) : ConP [((m - e : Nat) : Int), (e : Int)] m := by
  refine ⟨rfl, fun i hi => ?_, ?_⟩
  · have : i = 0 ∨ i = 1 := by omega
    rcases this with rfl | rfl
    · show 0 ≤ ((m - e : Nat) : Int) ∧ ((m - e : Nat) : Int) ≤ 10; omega
    · show 0 ≤ (e : Int) ∧ (e : Int) ≤ 10; omega
  · show ((m - e : Nat) : Int) + (e : Int) = (m : Int); omega
def conF (l : List Int) : Nat → Int
  | 0 => 0
  | k + 1 => conF l k + l.getD k 0
/-- impl.contentsOk -/
theorem impl_contentsOk (s : Bool) (l : List Int) (m : Nat) (h : ConP l m) : AC Tryz.prog 280 [.d s (.sl .int) l, I (m : Nat)] [] [.d true .bool true] [] := by
  have hl := h.l2
  refine AC_of tauOk 30 0 [4] Tryz.func280 rfl (by kernel_rfl) rfl rfl rfl rfl rfl ?_
  refine ⟨fun h => by omega, fun _ => ?_⟩
  refine ⟨Nat, fun k => ⟨[(1, I (m : Nat)), (5, I (conF l k)), (11, .d s (.sl .int) l), (12, I l.length), (13, I (k : Nat))], []⟩, fun k => k ≤ 2 ∧ (0 ≤ conF l k ∧ conF l k ≤ 20), fun k => 2 - k, 0, ⟨Nat.zero_le _, Int.le_refl 0, (by decide : (0 : Int) ≤ 20)⟩,
    ⟨⟨rfl, rfl⟩, ⟨rfl, rfl, rfl, rfl, rfl, trivial⟩, trivial⟩, fun k ⟨hk, hc⟩ => ?_⟩
  refine ⟨fun h2 => ?_, fun h2 => ?_⟩
  · have hk2 : k < l.length := by omega
    have hb := h.el k (by omega)
    refine ⟨k, rfl, hk2, fun h3 => by omega, fun _ => ?_⟩
    refine ⟨fun h3 => by omega, fun _ => ?_⟩
    refine ⟨conF l (k + 1), w64_eq rfl (by rw [conF]; omega) (by rw [conF]; omega), ?_⟩
    refine ⟨((k + 1 : Nat) : Int), w64_eq (by omega) (by omega) (by omega), k + 1, ⟨by omega, ?_⟩, by dsimp only; omega, ⟨rfl, rfl⟩, ⟨rfl, rfl, rfl, rfl, rfl, trivial⟩, trivial⟩
    have : k = 0 ∨ k = 1 := by omega
    have h0 := h.el 0 (by omega)
    have h1 := h.el 1 (by omega)
    rcases this with rfl | rfl
    · simp only [conF]; omega
    · simp only [conF]; omega
  · obtain rfl : k = 2 := by omega
    have e : conF l 2 = (m : Int) := by have := h.su; simp only [conF]; omega
    exact ⟨fun _ => ⟨none, ⟨rfl, trivial⟩, rfl, rfl⟩, fun h3 => (h3 e).elim⟩
theorem cyc_small {q : List Int} (hq : PermP q) : (cycL q).length ≤ 10 ∧ ∀ i, i < (cycL q).length → ((cycL q).getD i []).length ≤ 10 := by
  have hl := hq.1
  have h := cyc_ok q (permR hq) q.length (Nat.le_refl _)
  refine ⟨Nat.le_trans h.2.1 hl.2, fun i hi => ?_⟩
  rw [getD_get _ _ _ hi]
  have := (h.2.2 _ (List.getElem_mem hi)).2.1
  omega
/-- impl.CountFixed of two colors -/
theorem impl_CountFixed (s1 s2 : Bool) (q l : List Int) (hq : PermP q) (hl : ConP l q.length) : AC Tryz.prog 190 [.d s1 (.sl .int) q, .d s2 (.sl .int) l] [] [I (waysN (cycL q) l : Nat)] [] := by
  have hs := cyc_small hq
  have hl2 := hl.l2
  have hq1 := hq.1
  refine AC_of tauOk 20 0 [4] Tryz.func190 rfl (by kernel_rfl) rfl rfl rfl rfl rfl ?_
  refine ⟨[], false, _, _, impl_PermOk s1 q (by omega), List.nodup_nil, rfl, rfl, trivial, fun _ => ?_, fun h => by rw [(permB_iff q).2 hq] at h; cases h⟩
  refine ⟨[], false, _, _, impl_contentsOk s2 l q.length hl, List.nodup_nil, rfl, rfl, trivial, fun _ => ?_, nofun⟩
  refine ⟨[], true, _, _, impl_CyclesOf s1 q hq, List.nodup_nil, rfl, rfl, trivial, ?_⟩
  refine ⟨[], false, _, _, slices_Clone_int s2 l (by omega) (by intro e; rw [e] at hl2; cases hl2), List.nodup_nil, rfl, rfl, trivial, ?_⟩
  refine ⟨[0], false, _, _, impl_ways 3 (cycL q) true l hl2 hs.1 hs.2 hl.el, by decide, rfl, rfl, ⟨⟨rfl, rfl, rfl⟩, trivial⟩, ?_⟩
  exact ⟨none, ⟨rfl, trivial⟩, rfl, rfl⟩
structure CgOk (n : Nat) : Prop where
  p : ∀ k, k < (actsL n).length → PermP ((actsL n).getD k []) ∧ ((actsL n).getD k []).length = cp n
  e : sumTo (cgwN n) (cp n + 1) = cgpN n / (actsL n).length
theorem cg_ok (n : Nat) (hn : n < 6) (h2 : 2 ≤ n) : CgOk n := by
  have h := cg_all n hn h2
  unfold cgCheck at h
  simp only [Bool.and_eq_true, decide_eq_true_eq, List.all_eq_true] at h
  refine ⟨fun k hk => ?_, h.2⟩
  rw [getD_get _ _ _ hk]
  have := h.1 _ (List.getElem_mem hk)
  exact ⟨(permB_iff _).1 this.1, this.2⟩
theorem ways_le {q l : List Int} (hq : PermP q) (hl : l.length = 2) : waysN (cycL q) l ≤ 1024 :=
  Nat.le_trans (waysN_le 2 (cycL q) l hl) (Nat.le_trans (Nat.pow_le_pow_right (by decide) (cyc_small hq).1) (by decide))
theorem cgs_le (n e : Nat) (hG : CgOk n) : ∀ k, k ≤ (actsL n).length → sumTo (fun k => waysN (cycL ((actsL n).getD k [])) [((cp n - e : Nat) : Int), (e : Int)]) k ≤ k * 1024 := fun k hk =>
  sumTo_le _ _ _ fun i hi => ways_le (hG.p i (by omega)).1 rfl
theorem cgw_le (n e : Nat) (hG : CgOk n) (h : (actsL n).length ≤ 120) : cgwN n e ≤ 122880 := by
  have h1 : cgwN n e ≤ cgsN n e := Nat.div_le_self _ _
  have h2 := cgs_le n e hG (actsL n).length (Nat.le_refl _)
  unfold cgsN at h1
  omega
/-- impl.CountGraphsWith -/
theorem impl_CountGraphsWith (n e : Int) : AC Tryz.prog 90 [I n, I e] [] [I (cgwI n e)] [] := by
  refine AC_of tauOk 53 0 [4] Tryz.func90 rfl (by kernel_rfl) rfl rfl rfl rfl rfl ?_
  refine ⟨[], false, _, _, impl_isVertices _, List.nodup_nil, rfl, rfl, trivial, fun h => ?_, fun h => ?_⟩
  · have h := of_decide_eq_true h
    obtain ⟨N, rfl⟩ : ∃ N : Nat, n = (N : Int) := ⟨n.toNat, by omega⟩
    have hcp := cp_le N (by omega)
    have e0 : cgwI (N : Int) e = (if 0 ≤ e ∧ e ≤ ((cp N : Nat) : Int) then (if (N : Int) = 1 then 1 else ((cgwN N e.toNat : Nat) : Int)) else 0) := by rw [cgwI, if_pos h, Int.toNat_natCast]
    rw [e0]
    refine ⟨[], false, _, _, impl_countPairs N (by omega) (by omega), List.nodup_nil, rfl, rfl, trivial, ?_⟩
    refine ⟨fun h2 => ?_, fun h2 => ?_⟩
    · exact ⟨none, ⟨retI (by rw [if_neg (fun e => by omega)]), trivial⟩, rfl, rfl⟩
    refine ⟨fun h3 => ?_, fun h3 => ?_⟩
    · exact ⟨none, ⟨retI (by rw [if_neg (fun e => by omega)]), trivial⟩, rfl, rfl⟩
    rw [if_pos (show 0 ≤ e ∧ e ≤ ((cp N : Nat) : Int) by omega)]
    refine ⟨fun h4 => ?_, fun h4 => ?_⟩
    · exact ⟨none, ⟨retI (by rw [if_pos h4]), trivial⟩, rfl, rfl⟩
    rw [if_neg h4]
    obtain ⟨E, rfl⟩ : ∃ E : Nat, e = (E : Int) := ⟨e.toNat, by omega⟩
    rw [Int.toNat_natCast]
    have hS := sym_ok N (by omega) (by omega)
    have hG := cg_ok N (by omega) (by omega)
    have hal := actsL_len N
    have hl1 := hS.l1
    have hl2 := hS.l2
    have hC := con_of (cp N) E hcp.1 (by omega)
    have hB := cgs_le N E hG
    refine ⟨[], true, _, _, impl_renamings N (by omega) (by omega), List.nodup_nil, rfl, rfl, trivial, ?_⟩
    refine ⟨Nat, fun k => ⟨[(1, I (E : Nat)), (5, I (cp N : Nat)), (6, I (sumTo (fun k => waysN (cycL ((actsL N).getD k [])) [((cp N - E : Nat) : Int), (E : Int)]) k : Nat)), (7, .d true (.sl (.sl .int)) (symL N)), (28, .d true (.sl (.sl .int)) (symL N)), (29, I (symL N).length), (30, I (k : Nat))], []⟩, fun k => k ≤ (symL N).length, fun k => (symL N).length - k, 0, Nat.zero_le _,
      ⟨⟨rfl, rfl⟩, ⟨rfl, rfl, rfl, rfl, rfl, rfl, rfl, trivial⟩, trivial⟩, fun k hk => ?_⟩
    dsimp only at hk
    have hBk := hB k (by omega)
    refine ⟨fun h5 => ?_, fun h5 => ?_⟩
    · have hk2 : k < (symL N).length := by omega
      obtain ⟨hP, hlp⟩ := symL_get hS k hk2
      have hq := hG.p k (by omega)
      have hact := actsL_get N k hk2
      have hBk1 := hB (k + 1) (by omega)
      have hw := ways_le hq.1 (l := [((cp N - E : Nat) : Int), (E : Int)]) rfl
      refine ⟨k, rfl, hk2, ?_⟩
      refine ⟨[], true, _, _, impl_PairAction true ((symL N).getD k []) hP (by omega) (by omega), List.nodup_nil, rfl, rfl, trivial, fun _ => ?_, nofun⟩
      refine ⟨((cp N - E : Nat) : Int), w64_eq (by omega) (by omega) (by omega), ?_⟩
      refine ⟨rfl, by decide, false, ?_⟩
      rw [← hact]
      refine ⟨[], false, _, _, impl_CountFixed true true ((actsL N).getD k []) [((cp N - E : Nat) : Int), (E : Int)] hq.1 (by rw [hq.2]; exact hC), List.nodup_nil, rfl, rfl, trivial, ?_⟩
      refine ⟨((sumTo (fun k => waysN (cycL ((actsL N).getD k [])) [((cp N - E : Nat) : Int), (E : Int)]) (k + 1) : Nat) : Int), w64_eq (by rw [sumTo]; omega) (by omega) (by omega), ?_⟩
      exact ⟨((k + 1 : Nat) : Int), w64_eq (by omega) (by omega) (by omega), k + 1, by dsimp only; omega, by dsimp only; omega, ⟨rfl, rfl⟩, ⟨rfl, rfl, rfl, rfl, rfl, rfl, rfl, trivial⟩, trivial⟩
    · obtain rfl : k = (symL N).length := by omega
      have hcw := cgw_le N E hG (by omega)
      refine ⟨by omega, ((cgwN N E : Nat) : Int), w64_eq (by unfold cgwN cgsN; rw [hal]; exact Int.ofNat_tdiv _ _) (Int.le_trans (by decide) (Int.natCast_nonneg _)) (by omega), ?_⟩
      exact ⟨none, ⟨rfl, trivial⟩, rfl, rfl⟩
  · have h := of_decide_eq_false h
    exact ⟨none, ⟨retI (by rw [cgwI, if_neg h]), trivial⟩, rfl, rfl⟩
/-- impl.CountGraphs -/
theorem impl_CountGraphs (n : Int) : AC Tryz.prog 89 [I n] [] [I (cgI n)] [] := by
  refine AC_of tauOk 21 0 [2] Tryz.func89 rfl (by kernel_rfl) rfl rfl rfl rfl rfl ?_
  refine ⟨[], false, _, _, impl_isVertices _, List.nodup_nil, rfl, rfl, trivial, fun h => ?_, fun h => ?_⟩
  · have h := of_decide_eq_true h
    obtain ⟨N, rfl⟩ : ∃ N : Nat, n = (N : Int) := ⟨n.toNat, by omega⟩
    have hcp := cp_le N (by omega)
    have e0 : cgI (N : Int) = (if (N : Int) = 1 then 1 else ((sumTo (cgwN N) (cp N + 1) : Nat) : Int)) := by rw [cgI, if_pos h, Int.toNat_natCast]
    by_cases h1 : N = 1
    · subst h1
      have e9 : cgI ((1 : Nat) : Int) = 1 := rfl
      rw [e9]
      refine ⟨[], false, _, _, impl_countPairs 1 (by omega) (by omega), List.nodup_nil, rfl, rfl, trivial, ((cp 1 + 1 : Nat) : Int), w64_eq (by omega) (by omega) (by omega), ?_⟩
      refine ⟨Nat, fun k => ⟨[(0, I 1), (3, I (k : Nat)), (10, I (cp 1 + 1 : Nat)), (11, I (k : Nat))], []⟩, fun k => k ≤ 1, fun k => 1 - k, 0, Nat.zero_le _,
        ⟨⟨rfl, rfl⟩, ⟨rfl, rfl, rfl, rfl, trivial⟩, trivial⟩, fun k hk => ?_⟩
      dsimp only at hk
      have h10 : cp 1 + 1 = 1 := rfl
      refine ⟨fun h5 => ?_, fun h5 => ?_⟩
      · obtain rfl : k = 0 := by omega
        refine ⟨[], false, _, _, impl_CountGraphsWith 1 0, List.nodup_nil, rfl, rfl, trivial, ?_⟩
        have e1 : cgwI 1 0 = 1 := rfl
        rw [e1]
        refine ⟨1, rfl, ?_⟩
        exact ⟨1, rfl, 1, by decide, by decide, ⟨rfl, rfl⟩, ⟨rfl, rfl, rfl, rfl, trivial⟩, trivial⟩
      · obtain rfl : k = 1 := by omega
        exact ⟨none, ⟨rfl, trivial⟩, rfl, rfl⟩
    · have hS := sym_ok N (by omega) (by omega)
      have hG := cg_ok N (by omega) (by omega)
      have hal := actsL_len N
      have hl2 := hS.l2
      have hsm := fun j => sumTo_le (cgwN N) 122880 j fun i _ => cgw_le N i hG (by omega)
      rw [e0, if_neg (by omega)]
      refine ⟨[], false, _, _, impl_countPairs N (by omega) (by omega), List.nodup_nil, rfl, rfl, trivial, ((cp N + 1 : Nat) : Int), w64_eq (by omega) (by omega) (by omega), ?_⟩
      refine ⟨Nat, fun k => ⟨[(0, I (N : Nat)), (3, I (sumTo (cgwN N) k : Nat)), (10, I (cp N + 1 : Nat)), (11, I (k : Nat))], []⟩, fun k => k ≤ cp N + 1, fun k => cp N + 1 - k, 0, Nat.zero_le _,
        ⟨⟨rfl, rfl⟩, ⟨rfl, rfl, rfl, rfl, trivial⟩, trivial⟩, fun k hk => ?_⟩
      dsimp only at hk
      have hsk := hsm k
      have hsk1 := hsm (k + 1)
      refine ⟨fun h5 => ?_, fun h5 => ?_⟩
      · have e1 : cgwI (N : Int) (k : Int) = ((cgwN N k : Nat) : Int) := by
          rw [cgwI, if_pos h, if_pos (by rw [Int.toNat_natCast]; omega), if_neg (by omega), Int.toNat_natCast, Int.toNat_natCast]
        refine ⟨[], false, _, _, impl_CountGraphsWith (N : Int) (k : Int), List.nodup_nil, rfl, rfl, trivial, ?_⟩
        rw [e1]
        refine ⟨((sumTo (cgwN N) (k + 1) : Nat) : Int), w64_eq (by rw [sumTo]; omega) (by omega) (by omega), ?_⟩
        exact ⟨((k + 1 : Nat) : Int), w64_eq (by omega) (by omega) (by omega), k + 1, by dsimp only; omega, by dsimp only; omega, ⟨rfl, rfl⟩, ⟨rfl, rfl, rfl, rfl, trivial⟩, trivial⟩
      · obtain rfl : k = cp N + 1 := by omega
        exact ⟨none, ⟨rfl, trivial⟩, rfl, rfl⟩
  · have h := of_decide_eq_false h
    exact ⟨none, ⟨retI (by rw [cgI, if_neg h]), trivial⟩, rfl, rfl⟩
end Go.Proofs.YtacjiemkbhhhoaaGreatDoor
set_option linter.unusedVariables false
namespace Go.Proofs.YtacjiemkbhhhoaaGreatDoor
open Go Go.Proofs.YtacjiemkbhhhoaaGreatDoor.Ow
theorem pigeon : ∀ (m : Nat) (l : List Nat), l.Nodup → (∀ x ∈ l, x < m) → l.length ≤ m
  | 0, l, _, h => by
    cases l with
    | nil => simp
    | cons a l => exact absurd (h a (by simp)) (by omega)
  | m + 1, l, hn, h => by
    by_cases hm : m ∈ l
    · have h1 := pigeon m (l.erase m) (hn.erase m) (fun x hx => by
        have h2 := h x (List.mem_of_mem_erase hx)
        have h3 : x ≠ m := (hn.mem_erase_iff.1 hx).1
        omega)
      rw [List.length_erase_of_mem hm] at h1
      omega
    · have := pigeon m l hn fun x hx => by
        have h2 := h x hx
        have h3 : x ≠ m := fun e => hm (e ▸ hx)
        omega
      omega
theorem perm_inj {p : List Int} (h : PermP p) {i j : Nat} (hi : i < p.length) (hj : j < p.length) (e : (p.getD i 0).toNat = (p.getD j 0).toNat) : i = j := by
  have h1 := (h.2 i hi)
  have h2 := (h.2 j hj)
  have e2 : p.getD i 0 = p.getD j 0 := by omega
  rcases Nat.lt_trichotomy i j with h3 | h3 | h3
  · exact (h2.2 i h3 e2).elim
  · exact h3
  · exact (h1.2 j h3 e2.symm).elim
theorem perm_nodup {p : List Int} (h : PermP p) : (p.map Int.toNat).Nodup := by
  rw [List.Nodup, List.pairwise_iff_getElem]
  intro i j hi hj hij e
  simp only [List.length_map] at hi hj
  simp only [List.getElem_map] at e
  have := perm_inj h hi hj (by rw [getD_get _ _ _ hi, getD_get _ _ _ hj]; exact e)
  omega
theorem perm_surj {p : List Int} (h : PermP p) {j : Nat} (hj : j < p.length) : ∃ i, i < p.length ∧ (p.getD i 0).toNat = j := by
  apply Classical.byContradiction
  intro hn
  have hm : j ∉ p.map Int.toNat := fun hm => by
    obtain ⟨i, hi, e⟩ := List.getElem_of_mem hm
    simp only [List.length_map] at hi
    simp only [List.getElem_map] at e
    exact hn ⟨i, hi, by rw [getD_get _ _ _ hi]; exact e⟩
  have := pigeon p.length (j :: p.map Int.toNat) (List.nodup_cons.2 ⟨hm, perm_nodup h⟩) (fun x hx => by
    rcases List.mem_cons.1 hx with rfl | hx
    · exact hj
    · obtain ⟨i, hi, e⟩ := List.getElem_of_mem hx
      simp only [List.length_map] at hi
      simp only [List.getElem_map] at e
      have := (h.2 i hi).1
      rw [getD_get _ _ _ hi] at this
      omega)
  simp only [List.length_cons, List.length_map] at this
  omega
/-- what a permutation makes of a coloring, step by step -/
def actS (p xs : List Int) : Nat → List Int
  | 0 => List.replicate xs.length 0
  | k + 1 => (actS p xs k).set (p.getD k 0).toNat (xs.getD k 0)
def actL (p xs : List Int) : List Int := actS p xs xs.length
theorem actS_len (p xs : List Int) : ∀ k, (actS p xs k).length = xs.length
  | 0 => by simp [actS]
  | k + 1 => by rw [actS, List.length_set, actS_len p xs k]
theorem actL_len (p xs : List Int) : (actL p xs).length = xs.length := actS_len p xs _
theorem actS_get {p xs : List Int} (h : PermP p) (hl : p.length = xs.length) : ∀ k, k ≤ xs.length → ∀ i, i < k → (actS p xs k).getD (p.getD i 0).toNat 0 = xs.getD i 0
  | 0, _, i, hi => by omega
  | k + 1, hk, i, hi => by
    have h1 := (h.2 k (by omega)).1
    by_cases e : i = k
    · subst e
      rw [actS, L_set_self _ _ _ _ (by rw [actS_len]; omega)]
    · rw [actS, L_set_ne _ _ _ _ _ (fun e2 => e (perm_inj h (by omega) (by omega) e2).symm), actS_get h hl k (by omega) i (by omega)]
theorem actL_get {p xs : List Int} (h : PermP p) (hl : p.length = xs.length) (i : Nat) (hi : i < xs.length) : (actL p xs).getD (p.getD i 0).toNat 0 = xs.getD i 0 :=
  actS_get h hl _ (Nat.le_refl _) i hi
theorem act_ext {p ys zs : List Int} (h : PermP p) (hy : ys.length = p.length) (hz : zs.length = p.length) (he : ∀ i, i < p.length → ys.getD (p.getD i 0).toNat 0 = zs.getD (p.getD i 0).toNat 0) : ys = zs := by
  refine ext_getD 0 (by omega) fun j hj => ?_
  obtain ⟨i, hi, e⟩ := perm_surj h (j := j) (by omega)
  have := he i hi
  rwa [e] at this
theorem exL_at (xs h : List Int) (k : Nat) (hk : k < xs.length) : (exL xs h).getD k 0 = h.getD (xs.getD k 0).toNat 0 := by
  rw [getD_get _ _ _ (by rw [exL_len]; exact hk), getD_get _ _ _ hk]; simp [exL]
theorem act_all {p xs : List Int} (h : PermP p) (hl : p.length = xs.length) (Q : Int → Prop) (hQ : ∀ i, i < xs.length → Q (xs.getD i 0)) : ∀ i, i < (actL p xs).length → Q ((actL p xs).getD i 0) := fun j hj => by
  rw [actL_len] at hj
  obtain ⟨i, hi, e⟩ := perm_surj h (j := j) (by omega)
  rw [← e, actL_get h hl i (by omega)]
  exact hQ i (by omega)
theorem act_col {p xs : List Int} (h : PermP p) (hl : p.length = xs.length) (hx : ColP xs) : ColP (actL p xs) :=
  ⟨act_all h hl (fun z => 0 ≤ z ∧ z < 4) hx.1, by rw [actL_len]; exact hx.2.1, by rw [actL_len]; exact hx.2.2⟩
theorem leI_trans {x y z : List Int} (h1 : cmpI x y ≤ 0) (h2 : cmpI y z ≤ 0) : cmpI x z ≤ 0 := by
  by_cases e1 : cmpI x y = 0
  · rw [cmpI_eq _ _ e1]; exact h2
  · by_cases e2 : cmpI y z = 0
    · rw [← cmpI_eq _ _ e2]; exact h1
    · have := cmpI_trans x y z (by omega) (by omega); omega
def bstF (f : List Int → List Int) (b : List Int) (g : List (List Int)) : Nat → List Int
  | 0 => b
  | k + 1 => if cmpI (f (g.getD k [])) (bstF f b g k) < 0 then f (g.getD k []) else bstF f b g k
theorem bst_mem (f : List Int → List Int) (b : List Int) (g : List (List Int)) : ∀ k, bstF f b g k = b ∨ ∃ i, i < k ∧ bstF f b g k = f (g.getD i [])
  | 0 => .inl rfl
  | k + 1 => by
    rw [bstF]
    split
    · exact .inr ⟨k, by omega, rfl⟩
    · rcases bst_mem f b g k with h | ⟨i, hi, h⟩
      · exact .inl h
      · exact .inr ⟨i, by omega, h⟩
/-- the least image -/
def canL (g : List (List Int)) (xs : List Int) : List Int := bstF (fun p => actL p xs) xs g g.length
/-- the least one up to exchanged colors: of the first colors of the images -/
def cexL (g : List (List Int)) (xs : List Int) : List Int := bstF (fun p => firstL (actL p xs)) (firstL xs) g g.length
theorem idL_at (n k : Nat) (h : k < n) : (idL n).getD k 0 = (k : Int) := by
  rw [getD_get _ _ _ (by simp [idL]; exact h)]; simp [idL]
end Go.Proofs.YtacjiemkbhhhoaaGreatDoor
set_option linter.unusedVariables false
namespace Go.Proofs.YtacjiemkbhhhoaaGreatDoor
theorem nd_le {α : Type} [DecidableEq α] : ∀ (l1 l2 : List α), l1.Nodup → (∀ x ∈ l1, x ∈ l2) → l1.length ≤ l2.length
  | [], l2, _, _ => Nat.zero_le _
  | x :: l1, l2, h, hs => by
    have h1 := List.nodup_cons.1 h
    have hx := hs x (List.mem_cons_self ..)
    have := nd_le l1 (l2.erase x) h1.2 fun y hy => by
      refine (List.mem_erase_of_ne ?_).2 (hs y (List.mem_cons_of_mem _ hy))
      intro e; exact h1.1 (e ▸ hy)
    rw [List.length_erase_of_mem hx] at this
    have : 0 < l2.length := List.length_pos_of_mem hx
    rw [List.length_cons]; omega
theorem nd_map {α β : Type} (f : α → β) : ∀ (l : List α), l.Nodup → (∀ x ∈ l, ∀ y ∈ l, f x = f y → x = y) → (l.map f).Nodup
  | [], _, _ => List.nodup_nil
  | x :: l, h, hi => by
    have h1 := List.nodup_cons.1 h
    rw [List.map_cons, List.nodup_cons]
    refine ⟨fun hm => ?_, nd_map f l h1.2 fun a ha b hb => hi a (List.mem_cons_of_mem _ ha) b (List.mem_cons_of_mem _ hb)⟩
    obtain ⟨y, hy, e⟩ := List.mem_map.1 hm
    have := hi y (List.mem_cons_of_mem _ hy) x (List.mem_cons_self ..) e
    exact h1.1 (this ▸ hy)
section
variable {α β : Type} [DecidableEq β] {A : List α} {X : List β} {act : α → β → β} {mul : α → α → α} {e : α}
end
end Go.Proofs.YtacjiemkbhhhoaaGreatDoor
set_option linter.unusedVariables false
namespace Go.Proofs.YtacjiemkbhhhoaaGreatDoor
open Go Go.Proofs.YtacjiemkbhhhoaaGreatDoor.Ow
theorem at_mem {c : List Int} {t : Nat} (h : t < c.length) : c.getD t 0 ∈ c := by rw [getD_get _ _ _ h]; exact List.getElem_mem _
end Go.Proofs.YtacjiemkbhhhoaaGreatDoor
set_option linter.unusedVariables false
namespace Go.Proofs.YtacjiemkbhhhoaaGreatDoor
open Go Go.Proofs.YtacjiemkbhhhoaaGreatDoor.Ow
/-- word number i of n letters of k colors -/
def wrdN (k : Nat) : Nat → Nat → List Int
  | 0, _ => []
  | n + 1, i => wrdN k n (i / k) ++ [((i % k : Nat) : Int)]
def wordsL (k : Nat) : Nat → List (List Int)
  | 0 => [[]]
  | n + 1 => (wordsL k n).flatMap fun w => (List.range k).map fun (x : Nat) => w ++ [(x : Int)]
theorem wrdN_len (k : Nat) : ∀ n i, (wrdN k n i).length = n
  | 0, _ => rfl
  | n + 1, i => by simp [wrdN, wrdN_len k n]
theorem range_mul (k : Nat) : ∀ m, List.range (m * k) = (List.range m).flatMap fun q => (List.range k).map fun r => q * k + r
  | 0 => by simp
  | m + 1 => by rw [Nat.succ_mul, List.range_add, range_mul k m, List.range_succ, List.flatMap_append]; simp
theorem wordsL_eq (k : Nat) : ∀ n, wordsL k n = (List.range (k ^ n)).map (wrdN k n)
  | 0 => rfl
  | n + 1 => by
    rw [wordsL, wordsL_eq k n, Nat.pow_succ, range_mul, List.map_flatMap, List.flatMap_map]
    congr 1
    funext q
    rw [List.map_map]
    refine List.map_congr_left fun r hr => ?_
    have hr := List.mem_range.1 hr
    show wrdN k n q ++ [(r : Int)] = wrdN k n ((q * k + r) / k) ++ [(((q * k + r) % k : Nat) : Int)]
    rw [show (q * k + r) / k = q by rw [Nat.mul_comm, Nat.mul_add_div (by omega), Nat.div_eq_of_lt hr]; rfl, show (q * k + r) % k = r by rw [Nat.mul_comm, Nat.mul_add_mod, Nat.mod_eq_of_lt hr]]
theorem wordsL_len (k n : Nat) : (wordsL k n).length = k ^ n := by rw [wordsL_eq]; simp
theorem wordsL_get (k n i : Nat) (h : i < k ^ n) : (wordsL k n).getD i [] = wrdN k n i := by
  rw [wordsL_eq, getD_get _ _ _ (by simpa using h)]; simp
/-- the words kept -/
def kptL (P : List Int → Bool) (k n i : Nat) : List (List Int) := ((List.range i).map (wrdN k n)).filter P
end Go.Proofs.YtacjiemkbhhhoaaGreatDoor
set_option linter.unusedVariables false
namespace Go.Proofs.YtacjiemkbhhhoaaGreatDoor
open Go Go.Proofs.YtacjiemkbhhhoaaGreatDoor.Ow
/-- how many of the first j points are carried to themselves -/
def fixN (x : List Int) : Nat → Nat
  | 0 => 0
  | j + 1 => if x.getD j 0 = (j : Int) then fixN x j + 1 else fixN x j
theorem fixN_le (x : List Int) : ∀ j, fixN x j ≤ j
  | 0 => Nat.le_refl _
  | j + 1 => by
    have := fixN_le x j
    rw [fixN]; split <;> omega
def powL (h : List Int) : Nat → List Int
  | 0 => idL h.length
  | c + 1 => exL (powL h c) h
theorem powL_ok (h : List Int) (hh : ∀ i, i < h.length → 0 ≤ h.getD i 0 ∧ h.getD i 0 < (h.length : Int)) : ∀ c, (powL h c).length = h.length ∧ ∀ i, i < (powL h c).length → 0 ≤ (powL h c).getD i 0 ∧ (powL h c).getD i 0 < (h.length : Int)
  | 0 => by
    refine ⟨by simp [powL, idL], fun i hi => ?_⟩
    have hi2 : i < h.length := by simpa [powL, idL] using hi
    rw [getD_get _ _ _ hi]
    simp only [powL, idL, List.getElem_map, List.getElem_range]
    omega
  | c + 1 => by
    have ih := powL_ok h hh c
    have hl : (powL h (c + 1)).length = h.length := by rw [powL, exL_len]; exact ih.1
    refine ⟨hl, fun i hi => ?_⟩
    have hb := ih.2 i (by omega)
    have e : (powL h (c + 1)).getD i 0 = h.getD ((powL h c).getD i 0).toNat 0 := by
      have hi2 : i < (powL h c).length := by omega
      rw [getD_get (powL h (c + 1)) i 0 hi, getD_get (powL h c) i 0 hi2]
      simp only [powL, exL, List.getElem_map]
    rw [e]
    exact hh _ (by omega)
def kepN (h : List Int) (c : Nat) : Nat := fixN (powL h c) h.length
def prdN (h : List Int) (cs : List (List Int)) : Nat → Nat
  | 0 => 1
  | j + 1 => prdN h cs j * kepN h (cs.getD j []).length
theorem prdN_le (h : List Int) (cs : List (List Int)) (hl : h.length ≤ 4) : ∀ j, prdN h cs j ≤ 4 ^ j
  | 0 => Nat.le_refl _
  | j + 1 => by
    rw [prdN, Nat.pow_succ]
    exact Nat.mul_le_mul (prdN_le h cs hl j) (Nat.le_trans (fixN_le _ _) hl)
def sumH (p : List Int) (S : List (List Int)) : Nat → Nat
  | 0 => 0
  | b + 1 => sumH p S b + prdN (S.getD b []) (cycL p) (cycL p).length
def sumG (g S : List (List Int)) : Nat → Nat
  | 0 => 0
  | a + 1 => sumG g S a + sumH (g.getD a []) S S.length
theorem prdN_le2 (h : List Int) (cs : List (List Int)) (hl : h.length ≤ 4) (hc : cs.length ≤ 10) (j : Nat) (hj : j ≤ cs.length) : prdN h cs j ≤ 1048576 :=
  Nat.le_trans (prdN_le h cs hl j) (Nat.le_trans (Nat.pow_le_pow_right (by decide) (show j ≤ 10 by omega)) (by decide))
theorem sumH_le (p : List Int) (S : List (List Int)) (hS : ∀ b, b < S.length → (S.getD b []).length ≤ 4) (hc : (cycL p).length ≤ 10) : ∀ b, b ≤ S.length → sumH p S b ≤ b * 1048576
  | 0, _ => by simp [sumH]
  | b + 1, hb => by
    have h1 := sumH_le p S hS hc b (by omega)
    have h2 := prdN_le2 (S.getD b []) (cycL p) (hS b (by omega)) hc (cycL p).length (Nat.le_refl _)
    rw [sumH]; omega
theorem sumG_le (g S : List (List Int)) (hS : ∀ b, b < S.length → (S.getD b []).length ≤ 4) (hl : S.length ≤ 120) (hc : ∀ a, a < g.length → (cycL (g.getD a [])).length ≤ 10) : ∀ a, a ≤ g.length → sumG g S a ≤ a * (120 * 1048576)
  | 0, _ => by simp [sumG]
  | a + 1, ha => by
    have h1 := sumG_le g S hS hl hc a (by omega)
    have h2 := sumH_le (g.getD a []) S hS (hc a (by omega)) S.length (Nat.le_refl _)
    rw [sumG]; omega
end Go.Proofs.YtacjiemkbhhhoaaGreatDoor
set_option linter.unusedVariables false
namespace Go.Proofs.YtacjiemkbhhhoaaGreatDoor
open Go Go.Proofs.YtacjiemkbhhhoaaGreatDoor.Ow
theorem mem_words (k : Nat) : ∀ (n : Nat) (w : List Int), w ∈ wordsL k n ↔ w.length = n ∧ ∀ x ∈ w, 0 ≤ x ∧ x < (k : Int)
  | 0, w => by
    rw [wordsL, List.mem_singleton]
    constructor
    · rintro rfl; exact ⟨rfl, fun x hx => by simp at hx⟩
    · rintro ⟨h, _⟩; exact List.eq_nil_of_length_eq_zero h
  | n + 1, w => by
    rw [wordsL, List.mem_flatMap]
    constructor
    · rintro ⟨v, hv, hw⟩
      obtain ⟨x, hx, rfl⟩ := List.mem_map.1 hw
      obtain ⟨h1, h2⟩ := (mem_words k n v).1 hv
      refine ⟨by rw [List.length_append, h1]; rfl, fun y hy => ?_⟩
      rcases List.mem_append.1 hy with hy | hy
      · exact h2 y hy
      · have := List.mem_range.1 hx
        rw [List.mem_singleton.1 hy]; omega
    · rintro ⟨h1, h2⟩
      have hb := h2 (w.getD n 0) (at_mem (by omega))
      have e := L_succ w n 0 (by omega)
      rw [List.take_of_length_le (by omega)] at e
      refine ⟨w.take n, (mem_words k n _).2 ⟨by rw [List.length_take]; omega, fun x hx => h2 x (List.mem_of_mem_take hx)⟩, List.mem_map.2 ⟨(w.getD n 0).toNat, List.mem_range.2 (by omega), ?_⟩⟩
      rw [show (((w.getD n 0).toNat : Nat) : Int) = w.getD n 0 by omega, ← e]
theorem words_b {k n : Nat} {w : List Int} (h : w ∈ wordsL k n) : w.length = n ∧ ∀ i, i < w.length → 0 ≤ w.getD i 0 ∧ w.getD i 0 < (k : Int) := by
  obtain ⟨h1, h2⟩ := (mem_words k n w).1 h
  exact ⟨h1, fun i hi => h2 _ (at_mem hi)⟩
end Go.Proofs.YtacjiemkbhhhoaaGreatDoor
set_option linter.unusedVariables false
namespace Go.Proofs.YtacjiemkbhhhoaaGreatDoor
open Go Go.Proofs.YtacjiemkbhhhoaaGreatDoor.Ow
/-- strictly ascending -/
def AscL (xss : List (List Int)) : Prop := xss.Pairwise fun x y => cmpI x y < 0
theorem asc_get {xss : List (List Int)} (h : AscL xss) {i j : Nat} (hij : i < j) (hj : j < xss.length) : cmpI (xss.getD i []) (xss.getD j []) < 0 := by
  rw [getD_get _ _ _ (by omega), getD_get _ _ _ hj]
  exact List.pairwise_iff_getElem.1 h i j (by omega) hj hij
theorem bsI_ok (xss : List (List Int)) (p : List Int) (h : AscL xss) : ∀ f i j, i ≤ j → j ≤ xss.length → j - i ≤ f → (∀ k, k < i → cmpI (xss.getD k []) p < 0) → (∀ k, j ≤ k → k < xss.length → ¬ cmpI (xss.getD k []) p < 0) →
    (∀ k, k < bsI xss p f i j → cmpI (xss.getD k []) p < 0) ∧ (∀ k, bsI xss p f i j ≤ k → k < xss.length → ¬ cmpI (xss.getD k []) p < 0)
  | 0, i, j, h1, h2, h3, h4, h5 => by
    obtain rfl : i = j := by omega
    exact ⟨h4, h5⟩
  | f + 1, i, j, h1, h2, h3, h4, h5 => by
    rw [bsI]
    split
    next hlt =>
      split
      next hc =>
        refine bsI_ok xss p h f _ _ (by omega) h2 (by omega) (fun k hk => ?_) h5
        rcases Nat.lt_or_eq_of_le (show k ≤ (i + j) / 2 by omega) with h6 | h6
        · exact cmpI_trans _ _ _ (asc_get h h6 (by omega)) hc
        · rw [h6]; exact hc
      next hc =>
        refine bsI_ok xss p h f _ _ (by omega) (by omega) (by omega) h4 fun k hk hl hc2 => ?_
        rcases Nat.lt_or_eq_of_le hk with h6 | h6
        · exact hc (cmpI_trans _ _ _ (asc_get h h6 hl) hc2)
        · rw [← h6] at hc2; exact hc hc2
    next hlt =>
      obtain rfl : i = j := by omega
      exact ⟨h4, h5⟩
/-- in an ascending list a list is found exactly if it is there -/
theorem findI_mem {xss : List (List Int)} (h : AscL xss) (p : List Int) : 0 ≤ findI xss p ↔ p ∈ xss := by
  obtain ⟨h1, h2⟩ := bsI_ok xss p h xss.length 0 xss.length (Nat.zero_le _) (Nat.le_refl _) (by omega) (fun k hk => by omega) (fun k hk hl => by omega)
  change (∀ k, k < bsN xss p → _) at h1
  change (∀ k, bsN xss p ≤ k → _) at h2
  unfold findI
  constructor
  · intro h3
    split at h3
    next h4 => rw [← h4.2, getD_get _ _ _ h4.1]; exact List.getElem_mem _
    next => omega
  · intro hm
    obtain ⟨k, hk, rfl⟩ := List.getElem_of_mem hm
    have hb : bsN xss xss[k] = k := by
      rcases Nat.lt_trichotomy (bsN xss xss[k]) k with h3 | h3 | h3
      · have h4 := h2 (bsN xss xss[k]) (Nat.le_refl _) (by omega)
        have h5 := asc_get h h3 hk
        rw [getD_get _ _ _ hk] at h5
        exact (h4 h5).elim
      · exact h3
      · have h4 := h1 k h3
        rw [getD_get _ _ _ hk, cmpI_refl] at h4
        omega
    rw [if_pos ⟨by rw [hb]; exact hk, by rw [hb, getD_get _ _ _ hk]⟩]
    omega
theorem putN_ok (xss : List (List Int)) (p : List Int) : ∀ f k, k ≤ xss.length → xss.length < k + f → (∀ i, i < k → cmpI (xss.getD i []) p < 0) →
    putN xss p f k ≤ xss.length ∧ (∀ i, i < putN xss p f k → cmpI (xss.getD i []) p < 0) ∧ (putN xss p f k < xss.length → ¬ cmpI (xss.getD (putN xss p f k) []) p < 0)
  | 0, k, h1, h2, h3 => by omega
  | f + 1, k, h1, h2, h3 => by
    rw [putN]
    split
    next h4 =>
      refine putN_ok xss p f (k + 1) (by omega) (by omega) fun i hi => ?_
      rcases Nat.lt_or_eq_of_le (show i ≤ k by omega) with h5 | h5
      · exact h3 i h5
      · rw [h5]; exact h4.2
    next h4 => exact ⟨h1, h3, fun h5 h6 => h4 ⟨h5, h6⟩⟩
theorem putS_asc {xss : List (List Int)} (h : AscL xss) (hl : xss.length < 200) {p : List Int} (hp : p ∉ xss) : AscL (putS xss p) := by
  obtain ⟨h1, h2, h3⟩ := putN_ok xss p 200 0 (Nat.zero_le _) (by omega) (fun i hi => by omega)
  have hlt : ∀ x ∈ xss.take (putN xss p 200 0), cmpI x p < 0 := fun x hx => by
    obtain ⟨i, hi, rfl⟩ := List.getElem_of_mem hx
    have hi2 : i < putN xss p 200 0 := by rw [List.length_take] at hi; omega
    have := h2 i hi2
    rw [getD_get _ _ _ (by omega)] at this
    rwa [List.getElem_take]
  have hge : ∀ x ∈ xss.drop (putN xss p 200 0), cmpI p x < 0 := fun x hx => by
    obtain ⟨i, hi, rfl⟩ := List.getElem_of_mem hx
    have hi2 : putN xss p 200 0 + i < xss.length := by rw [List.length_drop] at hi; omega
    rw [List.getElem_drop]
    have h4 := h3 (by omega)
    rw [getD_get _ _ _ (by omega)] at h4
    have h5 : xss[putN xss p 200 0]'(by omega) ≠ p := fun e => hp (by rw [← e]; exact List.getElem_mem _)
    have h6 := cmpI_neg (xss[putN xss p 200 0]'(by omega)) p
    have h7 : cmpI p (xss[putN xss p 200 0]'(by omega)) < 0 := by
      have : cmpI (xss[putN xss p 200 0]'(by omega)) p ≠ 0 := fun e => h5 (cmpI_eq _ _ e)
      omega
    rcases Nat.eq_zero_or_pos i with rfl | hi0
    · exact h7
    · exact cmpI_trans _ _ _ h7 (List.pairwise_iff_getElem.1 h _ _ (by omega) hi2 (by omega))
  unfold AscL putS
  rw [List.append_assoc, List.pairwise_append, List.singleton_append, List.pairwise_cons]
  refine ⟨h.sublist (List.take_sublist _ _), ⟨fun x hx => hge x hx, h.sublist (List.drop_sublist _ _)⟩, fun a ha b hb => ?_⟩
  rcases List.mem_cons.1 hb with rfl | hb
  · exact hlt a ha
  · exact cmpI_trans _ _ _ (hlt a ha) (hge b hb)
theorem putS_perm (xss : List (List Int)) (p : List Int) : (putS xss p).Perm (p :: xss) := by
  unfold putS
  rw [List.append_assoc, List.singleton_append]
  refine List.perm_middle.trans ?_
  rw [List.take_append_drop]
/-- permutations of n points -/
def PnP (n : Nat) (x : List Int) : Prop := PermP x ∧ x.length = n
theorem perm_ex {n : Nat} {x y : List Int} (hx : PnP n x) (hy : PnP n y) : PnP n (exL x y) := by
  obtain ⟨hx1, hx2⟩ := hx
  obtain ⟨hy1, hy2⟩ := hy
  have hl := exL_len x y
  refine ⟨⟨by rw [hl]; exact hx1.1, fun i hi => ?_⟩, by rw [hl]; exact hx2⟩
  rw [hl] at hi
  have h1 := (hx1.2 i hi)
  rw [exL_at _ _ _ hi]
  have h2 := (hy1.2 (x.getD i 0).toNat (by omega)).1
  refine ⟨by omega, fun j hj e => ?_⟩
  rw [exL_at _ _ _ (by omega)] at e
  have h3 := (hx1.2 j (by omega)).1
  have h4 := perm_inj hy1 (i := (x.getD j 0).toNat) (j := (x.getD i 0).toNat) (by omega) (by omega) (by rw [e])
  exact h1.2 j hj (by omega)
theorem ex_assoc {n : Nat} {x y z : List Int} (hx : PnP n x) (hy : PnP n y) : exL x (exL y z) = exL (exL x y) z := by
  refine ext_getD 0 (by rw [exL_len, exL_len, exL_len]) fun i hi => ?_
  rw [exL_len] at hi
  have h1 := (hx.1.2 i hi).1
  rw [exL_at _ _ _ hi, exL_at y z _ (by have := hx.2; have := hy.2; omega), exL_at (exL x y) z _ (by rw [exL_len]; exact hi), exL_at x y _ hi]
theorem id_perm {n : Nat} (h1 : 1 ≤ n) (h2 : n ≤ 10) : PnP n (idL n) := by
  have hl : (idL n).length = n := by simp [idL]
  refine ⟨⟨by omega, fun i hi => ?_⟩, hl⟩
  rw [idL_at n i (by omega)]
  refine ⟨by omega, fun j hj => ?_⟩
  rw [idL_at n j (by omega)]
  omega
theorem ex_id {n : Nat} {x : List Int} (hx : PnP n x) : exL x (idL n) = x := by
  refine ext_getD 0 (exL_len _ _) fun i hi => ?_
  rw [exL_len] at hi
  have h1 := (hx.1.2 i hi).1
  rw [exL_at _ _ _ hi, idL_at _ _ (by have := hx.2; omega)]
  omega
/-- products of generators -/
inductive Wd (n : Nat) (gens : List (List Int)) : List Int → Prop
  | one : Wd n gens (idL n)
  | mul {x s : List Int} : Wd n gens x → s ∈ gens → Wd n gens (exL x s)
/-- what generators are -/
def GenQ (n : Nat) (gens : List (List Int)) : Prop := ∀ s ∈ gens, PnP n s
theorem wd_perm {n : Nat} {gens : List (List Int)} (h1 : 1 ≤ n) (h2 : n ≤ 10) (hg : GenQ n gens) {x : List Int} (h : Wd n gens x) : PnP n x := by
  induction h with
  | one => exact id_perm h1 h2
  | mul _ hs ih => exact perm_ex ih (hg _ hs)
/-- what holds of the elements met -/
structure BfP (n : Nat) (gens out q : List (List Int)) : Prop where
  l : out.length ≤ 120
  p : out.Perm q
  a : AscL out
  w : ∀ x ∈ q, Wd n gens x
  id : idL n ∈ q
theorem bf_len {n : Nat} {gens out q : List (List Int)} (h : BfP n gens out q) : q.length = out.length := h.p.length_eq.symm
theorem okP_of {n : Nat} {x : List Int} (h : PnP n x) : okP n x = true := by
  unfold okP
  simp only [Bool.and_eq_true, decide_eq_true_eq, List.all_eq_true]
  refine ⟨h.2, fun a ha => ?_⟩
  obtain ⟨i, hi, rfl⟩ := List.getElem_of_mem ha
  have := (h.1.2 i hi).1
  rw [getD_get _ _ _ hi] at this
  have := h.2
  omega
/-- one generator met -/
theorem innS_step {n a : Nat} {gens out q gs : List (List Int)} {s : List Int} (h1 : 1 ≤ n) (h2 : n ≤ 10) (hg : GenQ n gens) (h : BfP n gens out q) (ha : a < q.length) :
    innS n a (s :: gs) out q = if exL (q.getD a []) s ∈ q then innS n a gs out q else if out.length = 120 then none else innS n a gs (putS out (exL (q.getD a []) s)) (q ++ [exL (q.getD a []) s]) := by
  have hl := bf_len h
  have hq : Wd n gens (q.getD a []) := by rw [getD_get _ _ _ ha]; exact h.w _ (List.getElem_mem ha)
  rw [innS, if_pos]
  · by_cases hm : exL (q.getD a []) s ∈ q
    · rw [if_pos hm, if_pos ((findI_mem h.a _).2 (h.p.mem_iff.2 hm))]
    · rw [if_neg hm, if_neg (fun h3 => hm (h.p.mem_iff.1 ((findI_mem h.a _).1 h3)))]
  · refine ⟨⟨h.l, by have := h.l; omega, ha⟩, okP_of (wd_perm h1 h2 hg hq), ?_⟩
    rw [List.all_eq_true]
    intro x hx
    exact decide_eq_true (wd_perm h1 h2 hg (h.w x (h.p.mem_iff.1 hx))).2
theorem bf_add {n a : Nat} {gens out q : List (List Int)} {s : List Int} (h : BfP n gens out q) (ha : a < q.length) (hs : s ∈ gens) (hm : exL (q.getD a []) s ∉ q) (h120 : out.length ≠ 120) :
    BfP n gens (putS out (exL (q.getD a []) s)) (q ++ [exL (q.getD a []) s]) := by
  have hq : Wd n gens (q.getD a []) := by rw [getD_get _ _ _ ha]; exact h.w _ (List.getElem_mem ha)
  have hl := h.l
  refine ⟨?_, ?_, ?_, fun x hx => ?_, List.mem_append_left _ h.id⟩
  · rw [(putS_perm _ _).length_eq, List.length_cons]; omega
  · refine (putS_perm _ _).trans (List.Perm.trans ?_ (List.perm_append_comm (l₁ := [exL (q.getD a []) s]) (l₂ := q)))
    exact (h.p.cons _)
  · exact putS_asc h.a (by omega) (fun h3 => hm (h.p.mem_iff.1 h3))
  · rcases List.mem_append.1 hx with hx | hx
    · exact h.w x hx
    · rw [List.mem_singleton.1 hx]; exact .mul hq hs
theorem innS_ok {n a : Nat} {gens : List (List Int)} (h1 : 1 ≤ n) (h2 : n ≤ 10) (hg : GenQ n gens) : ∀ (gs out q : List (List Int)) (o), (∀ s ∈ gs, s ∈ gens) → BfP n gens out q → a < q.length → innS n a gs out q = some o →
    BfP n gens o.1 o.2 ∧ (∃ r, o.2 = q ++ r) ∧ ∀ s ∈ gs, exL (q.getD a []) s ∈ o.2
  | [], out, q, o, _, h, ha, ho => by
    rw [innS] at ho
    cases ho
    exact ⟨h, ⟨[], by simp⟩, fun s hs => by simp at hs⟩
  | s :: gs, out, q, o, hgs, h, ha, ho => by
    rw [innS_step h1 h2 hg h ha] at ho
    have hs := hgs s (List.mem_cons_self ..)
    split at ho
    next hm =>
      obtain ⟨g1, ⟨r, g2⟩, g3⟩ := innS_ok h1 h2 hg gs out q o (fun x hx => hgs x (List.mem_cons_of_mem _ hx)) h ha ho
      refine ⟨g1, ⟨r, g2⟩, fun x hx => ?_⟩
      rcases List.mem_cons.1 hx with rfl | hx
      · rw [g2]; exact List.mem_append_left _ hm
      · exact g3 x hx
    next hm =>
      split at ho
      · cases ho
      next h120 =>
        have hb := bf_add h ha hs hm h120
        have e : (q ++ [exL (q.getD a []) s]).getD a [] = q.getD a [] := by
          rw [List.getD_eq_getElem?_getD, List.getElem?_append_left ha, List.getD_eq_getElem?_getD]
        obtain ⟨g1, ⟨r, g2⟩, g3⟩ := innS_ok h1 h2 hg gs _ _ o (fun x hx => hgs x (List.mem_cons_of_mem _ hx)) hb (by rw [List.length_append]; omega) ho
        rw [e] at g3
        refine ⟨g1, ⟨_, by rw [g2, List.append_assoc]⟩, fun x hx => ?_⟩
        rcases List.mem_cons.1 hx with rfl | hx
        · rw [g2]; exact List.mem_append_left _ (List.mem_append_right _ (List.mem_singleton.2 rfl))
        · exact g3 x hx
theorem bfsS_ok {n : Nat} {gens : List (List Int)} (h1 : 1 ≤ n) (h2 : n ≤ 10) (hg : GenQ n gens) : ∀ (f a : Nat) (out q R : List (List Int)), BfP n gens out q → (∀ i, i < a → i < q.length → ∀ s ∈ gens, exL (q.getD i []) s ∈ q) → bfsS n gens f a out q = some R →
    ∃ q', BfP n gens R q' ∧ ∀ i, i < q'.length → ∀ s ∈ gens, exL (q'.getD i []) s ∈ q'
  | 0, a, out, q, R, h, hc, hR => by cases hR
  | f + 1, a, out, q, R, h, hc, hR => by
    rw [bfsS] at hR
    split at hR
    next ha =>
      cases ho : innS n a gens out q with
      | none => rw [ho] at hR; cases hR
      | some o =>
        rw [ho] at hR
        obtain ⟨g1, ⟨r, g2⟩, g3⟩ := innS_ok h1 h2 hg gens out q o (fun _ hx => hx) h ha ho
        refine bfsS_ok h1 h2 hg f (a + 1) o.1 o.2 R g1 (fun i hi hl s hs => ?_) hR
        have e : ∀ i, i < q.length → o.2.getD i [] = q.getD i [] := fun i hi => by
          rw [g2, List.getD_eq_getElem?_getD, List.getElem?_append_left hi, List.getD_eq_getElem?_getD]
        rcases Nat.lt_or_eq_of_le (show i ≤ a by omega) with h3 | h3
        · rw [e i (by omega), g2]; exact List.mem_append_left _ (hc i h3 (by omega) s hs)
        · rw [h3, e a ha]; exact g3 s hs
    next ha =>
      cases hR
      exact ⟨q, h, fun i hi s hs => hc i (by omega) hi s hs⟩
theorem bf_start {n : Nat} (gens : List (List Int)) : BfP n gens [idL n] [idL n] :=
  ⟨(by decide : 1 ≤ 120), List.Perm.refl _, List.pairwise_singleton _ _, fun x hx => by rw [List.mem_singleton.1 hx]; exact .one, List.mem_singleton.2 rfl⟩
/-- what is found is closed -/
theorem bfs_closed {n : Nat} {gens R : List (List Int)} (h1 : 1 ≤ n) (h2 : n ≤ 10) (hg : GenQ n gens) (hR : bfsS n gens 200 0 [idL n] [idL n] = some R) :
    AscL R ∧ R.length ≤ 120 ∧ idL n ∈ R ∧ (∀ x ∈ R, PnP n x) ∧ ∀ x ∈ R, ∀ y ∈ R, exL x y ∈ R := by
  obtain ⟨q, h, hc⟩ := bfsS_ok h1 h2 hg 200 0 _ _ R (bf_start gens) (fun i hi => by omega) hR
  have hm : ∀ x, x ∈ R ↔ x ∈ q := fun x => h.p.mem_iff
  refine ⟨h.a, h.l, (hm _).2 h.id, fun x hx => wd_perm h1 h2 hg (h.w x ((hm x).1 hx)), fun x hx y hy => ?_⟩
  have hstep : ∀ x ∈ q, ∀ s ∈ gens, exL x s ∈ q := fun x hx s hs => by
    obtain ⟨i, hi, rfl⟩ := List.getElem_of_mem hx
    have := hc i hi s hs
    rwa [getD_get _ _ _ hi] at this
  have hxq := (hm x).1 hx
  have hpx := wd_perm h1 h2 hg (h.w x hxq)
  have key : ∀ y, Wd n gens y → exL x y ∈ q := fun y hw => by
    induction hw with
    | one => rw [ex_id hpx]; exact hxq
    | mul hw hs ih => rw [ex_assoc hpx (wd_perm h1 h2 hg hw)]; exact hstep _ ih _ hs
  exact (hm _).2 (key y (h.w y ((hm y).1 hy)))
theorem asc_nodup {xss : List (List Int)} (h : AscL xss) : xss.Nodup := by
  rw [List.nodup_iff_pairwise_ne]
  refine h.imp fun {a b} h e => ?_
  rw [e, cmpI_refl] at h
  omega
end Go.Proofs.YtacjiemkbhhhoaaGreatDoor
set_option linter.unusedVariables false
namespace Go.Proofs.YtacjiemkbhhhoaaGreatDoor
open Go Go.Proofs.YtacjiemkbhhhoaaGreatDoor.Ow
/-- one more cycle -/
def incT (out c : List Int) : List Int := out.set (c.length - 1) (out.getD (c.length - 1) 0 + 1)
/-- the cycle type, behind the first k cycles -/
def typS (p : List Int) : Nat → List Int
  | 0 => List.replicate p.length 0
  | k + 1 => incT (typS p k) ((cycL p).getD k [])
def typL (p : List Int) : List Int := typS p (cycL p).length
theorem typS_len (p : List Int) : ∀ k, (typS p k).length = p.length
  | 0 => by simp [typS]
  | k + 1 => by rw [typS, incT, List.length_set, typS_len p k]
theorem typL_len (p : List Int) : (typL p).length = p.length := typS_len p _
theorem typS_b (p : List Int) : ∀ k i, 0 ≤ (typS p k).getD i 0 ∧ (typS p k).getD i 0 ≤ (k : Int)
  | 0, i => by
    rw [typS, List.getD_eq_getElem?_getD, List.getElem?_replicate]
    split <;> simp
  | k + 1, i => by
    have h := typS_b p k
    have h1 := h i
    have h2 := h (((cycL p).getD k []).length - 1)
    rw [typS, incT, List.getD_eq_getElem?_getD, List.getElem?_set]
    split
    · split
      · simp only [Option.getD_some]; omega
      · simp only [Option.getD_none]; omega
    · rw [← List.getD_eq_getElem?_getD]; omega
/-- the first term of this type -/
def posT (l : List Tm) (t : List Int) : Nat := l.findIdx fun x => decide (x.1 = t)
def incA (l : List Tm) (i : Nat) : List Tm := l.set i ((l.getD i ([], 0)).1, (l.getD i ([], 0)).2 + 1)
/-- one more element of type t: behind all -/
def addU (l : List Tm) (t : List Int) : List Tm := if posT l t < l.length then incA l (posT l t) else l ++ [(t, 1)]
def uS (g : List (List Int)) : Nat → List Tm
  | 0 => []
  | k + 1 => addU (uS g k) (typL (g.getD k []))
/-- the first term that is not less -/
def lowT (l : List Tm) (t : List Int) : Nat := l.findIdx fun x => !decide (cmpI x.1 t < 0)
/-- one more element of type t: in its place -/
def addS (l : List Tm) (t : List Int) : List Tm := if lowT l t < l.length ∧ (l.getD (lowT l t) ([], 0)).1 = t then incA l (lowT l t) else l.take (lowT l t) ++ [(t, 1)] ++ l.drop (lowT l t)
def sS (g : List (List Int)) : Nat → List Tm
  | 0 => []
  | k + 1 => addS (sS g k) (typL (g.getD k []))
/-- the terms of a group -/
def cixL (g : List (List Int)) : List Tm := sS g g.length
def bump (t : List Int) (l : List Tm) : List Tm := l.map fun x => if x.1 = t then (x.1, x.2 + 1) else x
/-- the types go up -/
def UpT (l : List Tm) : Prop := l.Pairwise fun x y => cmpI x.1 y.1 < 0
def NoD (l : List Tm) : Prop := (l.map fun x => x.1).Nodup
theorem up_nod {l : List Tm} (h : UpT l) : NoD l := by
  unfold NoD
  rw [List.nodup_iff_pairwise_ne, List.pairwise_map]
  refine h.imp fun {a b} h e => ?_
  rw [e, cmpI_refl] at h
  omega
theorem incA_bump {l : List Tm} {t : List Int} {i : Nat} (hn : NoD l) (hi : i < l.length) (ht : (l.getD i ([], 0)).1 = t) : incA l i = bump t l := by
  unfold incA bump
  rw [getD_get _ _ _ hi] at ht ⊢
  apply List.ext_getElem
  · simp
  intro j h1 h2
  have hj : j < l.length := by simpa using h2
  rw [List.getElem_set, List.getElem_map]
  by_cases e : i = j
  · subst e
    rw [if_pos rfl, if_pos ht]
  · rw [if_neg e, if_neg]
    intro h
    have h3 : (l.map fun x => x.1)[i]'(by simpa using hi) = (l.map fun x => x.1)[j]'(by simpa using hj) := by simp only [List.getElem_map]; rw [ht, h]
    unfold NoD at hn
    rw [List.nodup_iff_pairwise_ne, List.pairwise_iff_getElem] at hn
    rcases Nat.lt_or_gt_of_ne e with h4 | h4
    · exact hn i j _ _ h4 h3
    · exact hn j i _ _ h4 h3.symm
theorem bump_types (t : List Int) (l : List Tm) : (bump t l).map (fun x => x.1) = l.map fun x => x.1 := by
  unfold bump
  rw [List.map_map]
  refine List.map_congr_left fun x _ => ?_
  show (if x.1 = t then (x.1, x.2 + 1) else x).1 = x.1
  split <;> rfl
theorem posT_no {l : List Tm} {t : List Int} : ¬ posT l t < l.length ↔ ∀ x ∈ l, x.1 ≠ t := by
  unfold posT
  rw [List.findIdx_lt_length]
  constructor
  · intro h x hx e
    exact h ⟨x, hx, decide_eq_true e⟩
  · rintro h ⟨x, hx, e⟩
    exact h x hx (of_decide_eq_true e)
theorem posT_at {l : List Tm} {t : List Int} (h : posT l t < l.length) : (l.getD (posT l t) ([], 0)).1 = t := by
  rw [getD_get _ _ _ h]
  have := List.findIdx_getElem (xs := l) (p := fun x : Tm => decide (x.1 = t)) (w := h)
  exact of_decide_eq_true this
theorem lowT_ge {l : List Tm} {t : List Int} (h : lowT l t < l.length) : ¬ cmpI (l.getD (lowT l t) ([], 0)).1 t < 0 := by
  rw [getD_get _ _ _ h]
  have := List.findIdx_getElem (xs := l) (p := fun x : Tm => !decide (cmpI x.1 t < 0)) (w := h)
  intro h2
  rw [decide_eq_true (show cmpI (l[List.findIdx (fun x : Tm => !decide (cmpI x.1 t < 0)) l]'h).1 t < 0 from h2)] at this
  cases this
theorem lowT_lt {l : List Tm} {t : List Int} {i : Nat} (h : i < lowT l t) : cmpI (l.getD i ([], 0)).1 t < 0 := by
  have hl : i < l.length := Nat.lt_of_lt_of_le h List.findIdx_le_length
  rw [getD_get _ _ _ hl]
  have := List.not_of_lt_findIdx (xs := l) (p := fun x : Tm => !decide (cmpI x.1 t < 0)) h
  simpa using this
theorem lowT_le (l : List Tm) (t : List Int) : lowT l t ≤ l.length := List.findIdx_le_length
/-- the type is there exactly if it is at its place -/
theorem low_pos {l : List Tm} {t : List Int} (hu : UpT l) : (lowT l t < l.length ∧ (l.getD (lowT l t) ([], 0)).1 = t) ↔ posT l t < l.length := by
  constructor
  · intro ⟨h1, h2⟩
    refine Decidable.byContradiction fun h3 => ?_
    rw [getD_get _ _ _ h1] at h2
    exact posT_no.1 h3 _ (List.getElem_mem h1) h2
  · intro h
    have h1 := posT_at h
    have hk : ¬ posT l t < lowT l t := fun h2 => by
      have := lowT_lt h2
      rw [h1, cmpI_refl] at this
      omega
    have h3 : lowT l t < l.length := by omega
    refine ⟨h3, ?_⟩
    have h4 := lowT_ge h3
    rcases Nat.lt_or_eq_of_le (Nat.not_lt.1 hk) with h5 | h5
    · have h6 := List.pairwise_iff_getElem.1 hu (lowT l t) (posT l t) h3 h h5
      rw [getD_get _ _ _ h3] at h4
      rw [getD_get _ _ _ h] at h1
      rw [h1] at h6
      exact (h4 h6).elim
    · rw [h5]; exact h1
theorem bump_up {l : List Tm} (t : List Int) (hu : UpT l) : UpT (bump t l) := by
  have h : ((bump t l).map fun x => x.1).Pairwise fun x y => cmpI x y < 0 := by
    rw [bump_types, List.pairwise_map]; exact hu
  rw [List.pairwise_map] at h
  exact h
theorem addS_up {l : List Tm} (t : List Int) (hu : UpT l) : UpT (addS l t) := by
  unfold addS
  split
  next h => rw [incA_bump (up_nod hu) h.1 h.2]; exact bump_up t hu
  next h =>
    have hlt : ∀ x ∈ l.take (lowT l t), cmpI x.1 t < 0 := fun x hx => by
      obtain ⟨i, hi, rfl⟩ := List.getElem_of_mem hx
      have hi2 : i < lowT l t := by rw [List.length_take] at hi; omega
      have := lowT_lt hi2
      rw [getD_get _ _ _ (by have := lowT_le l t; omega)] at this
      rwa [List.getElem_take]
    have hge : ∀ x ∈ l.drop (lowT l t), cmpI t x.1 < 0 := fun x hx => by
      obtain ⟨i, hi, rfl⟩ := List.getElem_of_mem hx
      have hi2 : lowT l t + i < l.length := by rw [List.length_drop] at hi; omega
      rw [List.getElem_drop]
      have h3 : lowT l t < l.length := by omega
      have h4 := lowT_ge h3
      have h5 : (l.getD (lowT l t) ([], 0)).1 ≠ t := fun e => h ⟨h3, e⟩
      have h6 := cmpI_neg (l.getD (lowT l t) ([], 0)).1 t
      have h7 : cmpI t (l.getD (lowT l t) ([], 0)).1 < 0 := by
        have : cmpI (l.getD (lowT l t) ([], 0)).1 t ≠ 0 := fun e => h5 (cmpI_eq _ _ e)
        omega
      rw [getD_get _ _ _ h3] at h7
      rcases Nat.eq_zero_or_pos i with rfl | hp
      · exact h7
      · exact cmpI_trans _ _ _ h7 (List.pairwise_iff_getElem.1 hu _ _ h3 hi2 (by omega))
    unfold UpT
    rw [List.append_assoc, List.pairwise_append, List.singleton_append, List.pairwise_cons]
    refine ⟨hu.sublist (List.take_sublist _ _), ⟨fun x hx => hge x hx, hu.sublist (List.drop_sublist _ _)⟩, fun a ha b hb => ?_⟩
    rcases List.mem_cons.1 hb with rfl | hb
    · exact hlt a ha
    · exact cmpI_trans _ _ _ (hlt a ha) (hge b hb)
theorem sS_up (g : List (List Int)) : ∀ k, UpT (sS g k)
  | 0 => List.Pairwise.nil
  | k + 1 => addS_up _ (sS_up g k)
theorem add_perm {u s : List Tm} (t : List Int) (hu : UpT s) (hp : s.Perm u) : (addS s t).Perm (addU u t) := by
  have hnu : NoD u := (hp.map fun x : Tm => x.1).nodup_iff.1 (up_nod hu)
  have hiff : posT s t < s.length ↔ posT u t < u.length := by
    rw [← Decidable.not_iff_not, posT_no, posT_no]
    exact ⟨fun h x hx => h x (hp.mem_iff.2 hx), fun h x hx => h x (hp.mem_iff.1 hx)⟩
  unfold addS addU
  by_cases h : posT u t < u.length
  · have h1 := (low_pos hu).2 (hiff.2 h)
    rw [if_pos h1, if_pos h, incA_bump (up_nod hu) h1.1 h1.2, incA_bump hnu h (posT_at h)]
    exact hp.map _
  · rw [if_neg (fun h1 => h (hiff.1 ((low_pos hu).1 h1))), if_neg h]
    have e : s.Perm (s.take (lowT s t) ++ s.drop (lowT s t)) := by rw [List.take_append_drop]
    refine List.Perm.trans ?_ ((List.perm_append_comm (l₁ := [(t, 1)]) (l₂ := u)))
    rw [List.append_assoc, List.singleton_append]
    refine List.perm_middle.trans ?_
    exact (e.symm.trans hp).cons _
theorem s_perm (g : List (List Int)) : ∀ k, (sS g k).Perm (uS g k)
  | 0 => .nil
  | k + 1 => add_perm _ (sS_up g k) (s_perm g k)
/-- what is known of the terms on the way -/
structure TmsP (n k : Nat) (l : List Tm) : Prop where
  n1 : l.length ≤ k
  t : ∀ x : Tm, x ∈ l → x.1.length = n ∧ ∀ i, 0 ≤ x.1.getD i 0 ∧ x.1.getD i 0 ≤ 10
  c : ∀ x : Tm, x ∈ l → 0 ≤ x.2 ∧ x.2 ≤ (k : Int)
theorem tms_set {n k : Nat} {l : List Tm} (h : TmsP n k l) (i : Nat) (hi : i < l.length) : TmsP n (k + 1) (incA l i) := by
  unfold incA
  rw [getD_get _ _ _ hi]
  refine ⟨by rw [List.length_set]; have := h.n1; omega, fun x hx => ?_, fun x hx => ?_⟩
  · rcases List.mem_or_eq_of_mem_set hx with hx | rfl
    · exact h.t x hx
    · exact h.t l[i] (List.getElem_mem hi)
  · rcases List.mem_or_eq_of_mem_set hx with hx | rfl
    · have := h.c x hx; omega
    · have := h.c l[i] (List.getElem_mem hi)
      dsimp only; omega
theorem tms_ins {n k : Nat} {l l' : List Tm} {t : List Int} (h : TmsP n k l) (ht : t.length = n ∧ ∀ i, 0 ≤ t.getD i 0 ∧ t.getD i 0 ≤ 10) (hp : l'.Perm (l ++ [(t, 1)])) : TmsP n (k + 1) l' := by
  refine ⟨by rw [hp.length_eq, List.length_append, List.length_singleton]; have := h.n1; omega, fun x hx => ?_, fun x hx => ?_⟩
  · rcases List.mem_append.1 (hp.mem_iff.1 hx) with hx | hx
    · exact h.t x hx
    · obtain rfl := List.mem_singleton.1 hx; exact ht
  · rcases List.mem_append.1 (hp.mem_iff.1 hx) with hx | hx
    · have := h.c x hx; omega
    · obtain rfl := List.mem_singleton.1 hx
      dsimp only; omega
theorem tms_u {n : Nat} (g : List (List Int)) (hg : ∀ i, i < g.length → (typL (g.getD i [])).length = n ∧ ∀ j, 0 ≤ (typL (g.getD i [])).getD j 0 ∧ (typL (g.getD i [])).getD j 0 ≤ 10) : ∀ k, k ≤ g.length → TmsP n k (uS g k)
  | 0, _ => ⟨Nat.le_refl _, fun x hx => by simp [uS] at hx, fun x hx => by simp [uS] at hx⟩
  | k + 1, hk => by
    have h := tms_u g hg k (by omega)
    rw [uS, addU]
    split
    next h1 => exact tms_set h _ h1
    next h1 => exact tms_ins h (hg k (by omega)) (List.Perm.refl _)
theorem tms_perm {n k : Nat} {l l' : List Tm} (h : TmsP n k l) (hp : l'.Perm l) : TmsP n k l' :=
  ⟨by rw [hp.length_eq]; exact h.n1, fun x hx => h.t x (hp.mem_iff.1 hx), fun x hx => h.c x (hp.mem_iff.1 hx)⟩
/-- the text of one kind of cycles -/
def partT (i : Nat) (n : Int) : List UInt8 := 115 :: fmtI ((i : Int) + 1) ++ (if n = 1 then [] else 94 :: fmtI n)
def parT (t : List Int) : Nat → List (List UInt8)
  | 0 => []
  | k + 1 => if t.getD k 0 = 0 then parT t k else parT t k ++ [partT k (t.getD k 0)]
def jnT (c : List UInt8) (ps : List (List UInt8)) : List UInt8 := if ps = [] then c else c ++ [42] ++ Lib.join ps [32]
/-- the text of a term -/
def fmtT (x : Tm) : List UInt8 := jnT (fmtI x.2) (parT x.1 x.1.length)
/-- a term that is short -/
structure TmOk (x : Tm) : Prop where
  n1 : x.1.length ≤ 10
  t : ∀ i, 0 ≤ x.1.getD i 0 ∧ x.1.getD i 0 ≤ 10
  c : 0 ≤ x.2 ∧ x.2 ≤ 120
theorem parT_le (t : List Int) : ∀ k, (parT t k).length ≤ k
  | 0 => Nat.le_refl _
  | k + 1 => by
    have := parT_le t k
    rw [parT]; split
    · omega
    · rw [List.length_append, List.length_singleton]; omega
end Go.Proofs.YtacjiemkbhhhoaaGreatDoor
set_option linter.unusedVariables false
namespace Go.Proofs.YtacjiemkbhhhoaaGreatDoor
open Go Go.Proofs.YtacjiemkbhhhoaaGreatDoor.Ow
/-- a list of permutations that is closed and ascending, with the identity -/
structure GrL (n : Nat) (g : List (List Int)) : Prop where
  n1 : 1 ≤ n
  n2 : n ≤ 10
  a : AscL g
  id : idL n ∈ g
  el : ∀ x ∈ g, PnP n x
  cl : ∀ x ∈ g, ∀ y ∈ g, exL x y ∈ g
theorem perm_of_inj {α : Type} [DecidableEq α] {l : List α} (h : l.Nodup) (f : α → α) (hf : ∀ x ∈ l, f x ∈ l) (hi : ∀ x ∈ l, ∀ y ∈ l, f x = f y → x = y) : (l.map f).Perm l := by
  have hn := nd_map f l h hi
  refine (List.perm_ext_iff_of_nodup hn h).2 fun y => ⟨fun hy => ?_, fun hy => ?_⟩
  · obtain ⟨x, hx, rfl⟩ := List.mem_map.1 hy; exact hf x hx
  · refine Decidable.byContradiction fun hno => ?_
    have h1 := nd_le (l.map f) (l.erase y) hn fun z hz => by
      obtain ⟨x, hx, rfl⟩ := List.mem_map.1 hz
      exact (List.mem_erase_of_ne (fun e => hno (by rw [← e]; exact List.mem_map_of_mem hx))).2 (hf x hx)
    rw [List.length_map, List.length_erase_of_mem hy] at h1
    have := List.length_pos_of_mem hy
    omega
theorem ex_left_inj {n : Nat} {p x y : List Int} (hp : PnP n p) (hx : PnP n x) (hy : PnP n y) (e : exL p x = exL p y) : x = y := by
  refine ext_getD 0 (by rw [hx.2, hy.2]) fun j hj => ?_
  rw [hx.2] at hj
  obtain ⟨i, hi, e1⟩ := perm_surj hp.1 (j := j) (by rw [hp.2]; exact hj)
  have h1 := exL_at p x i hi
  have h2 := exL_at p y i hi
  rw [e1] at h1 h2
  rw [← h1, ← h2, e]
theorem idLlen (k : Nat) : (idL k).length = k := by simp [idL]
end Go.Proofs.YtacjiemkbhhhoaaGreatDoor
set_option linter.unusedVariables false
namespace Go.Proofs.YtacjiemkbhhhoaaGreatDoor
open Go Go.Proofs.YtacjiemkbhhhoaaGreatDoor.Ow
theorem col_of {n k : Nat} {w : List Int} (h1 : 1 ≤ n) (h2 : n ≤ 10) (h4 : k ≤ 4) (hw : w ∈ wordsL k n) : ColP w := by
  obtain ⟨h3, h5⟩ := words_b hw
  exact ⟨fun i hi => by have := h5 i hi; omega, by omega, by omega⟩
section
variable {n k : Nat} {g : List (List Int)}
/-- the patterns up to exchanged colors -/
def expL (g : List (List Int)) (k n : Nat) : List (List Int) := (wordsL k n).filter fun w => decide (cexL g w = w)
end
end Go.Proofs.YtacjiemkbhhhoaaGreatDoor
set_option linter.unusedVariables false
namespace Go.Proofs.YtacjiemkbhhhoaaGreatDoor
open Go Go.Proofs.YtacjiemkbhhhoaaGreatDoor.Ow
/-- place i of a group is as it must be -/
def gok1 (g : List (List Int)) (i : Nat) : Bool := permB (g.getD i []) && (decide ((g.getD i []).length = (g.getD 0 []).length) && (decide (i = 0) || decide (cmpI (g.getD (i - 1) []) (g.getD i []) < 0)))
def gok2 (g : List (List Int)) (i j : Nat) : Bool := decide (0 ≤ findI g (exL (g.getD i []) (g.getD j [])))
def gokB (g : List (List Int)) : Bool := (decide (1 ≤ g.length) && decide (g.length ≤ 120)) && ((List.range g.length).all (gok1 g) && (List.range g.length).all fun i => (List.range g.length).all (gok2 g i))
structure GrpP (g : List (List Int)) : Prop where
  l1 : 1 ≤ g.length
  l2 : g.length ≤ 120
  o1 : ∀ i, i < g.length → gok1 g i = true
  o2 : ∀ i, i < g.length → ∀ j, j < g.length → gok2 g i j = true
theorem gokB_iff (g : List (List Int)) : gokB g = true ↔ GrpP g := by
  unfold gokB
  simp only [Bool.and_eq_true, decide_eq_true_eq, List.all_eq_true, List.mem_range]
  exact ⟨fun ⟨⟨a, b⟩, c, d⟩ => ⟨a, b, c, d⟩, fun ⟨a, b, c, d⟩ => ⟨⟨a, b⟩, c, d⟩⟩
theorem gokB_no {g : List (List Int)} (h : ¬ GrpP g) : gokB g = false := by
  cases hb : gokB g
  · rfl
  · exact (h ((gokB_iff g).1 hb)).elim
theorem gok1_p {g : List (List Int)} {i : Nat} (h : gok1 g i = true) : PermP (g.getD i []) ∧ (g.getD i []).length = (g.getD 0 []).length ∧ (i = 0 ∨ cmpI (g.getD (i - 1) []) (g.getD i []) < 0) := by
  unfold gok1 at h
  simp only [Bool.and_eq_true, Bool.or_eq_true, decide_eq_true_eq] at h
  exact ⟨(permB_iff _).1 h.1, h.2.1, h.2.2⟩
theorem gok1_of {g : List (List Int)} {i : Nat} (h1 : permB (g.getD i []) = true) (h2 : (g.getD i []).length = (g.getD 0 []).length) (h3 : i = 0 ∨ cmpI (g.getD (i - 1) []) (g.getD i []) < 0) : gok1 g i = true := by
  unfold gok1
  simp only [Bool.and_eq_true, Bool.or_eq_true, decide_eq_true_eq]
  exact ⟨h1, h2, h3⟩
theorem gok_ext {g : List (List Int)} {k : Nat} (h : ∀ j, j < k → gok1 g j = true) (h2 : gok1 g k = true) : ∀ j, j < k + 1 → gok1 g j = true := fun j hj => by
  by_cases e : j = k
  · subst e; exact h2
  · exact h j (by omega)
theorem ext1 {p : Nat → Prop} {k : Nat} (h : ∀ j, j < k → p j) (h2 : p k) : ∀ j, j < k + 1 → p j := fun j hj => by
  by_cases e : j = k
  · subst e; exact h2
  · exact h j (by omega)
/-- a product of two elements is well formed -/
theorem gok_mul {g : List (List Int)} (h : ∀ i, i < g.length → gok1 g i = true) {a b : Nat} (ha : a < g.length) (hb : b < g.length) :
    (g.getD a []).length ≤ 10 ∧ (∀ i, i < (g.getD a []).length → 0 ≤ (g.getD a []).getD i 0 ∧ (g.getD a []).getD i 0 < ((g.getD b []).length : Int)) ∧
    ∀ i, i < g.length → (g.getD i []).length = (exL (g.getD a []) (g.getD b [])).length := by
  have h1 := gok1_p (h a ha)
  have h2 := gok1_p (h b hb)
  refine ⟨h1.1.1.2, fun i hi => ?_, fun i hi => ?_⟩
  · have := (h1.1.2 i hi).1
    omega
  · have h3 := gok1_p (h i hi)
    rw [exL_len]; omega
/-- impl.GroupOk -/
theorem impl_GroupOk (sh : Bool) (g : List (List Int)) (hl : g.length ≤ 1048576) (hx : ∀ i, i < g.length → (g.getD i []).length ≤ 1048576) : AC Tryz.prog 152 [.d sh (.sl (.sl .int)) g] [] [.d true .bool (gokB g)] [] := by
  refine AC_of tauOk 71 0 [2] Tryz.func152 rfl (by kernel_rfl) rfl rfl rfl rfl rfl ?_
  refine ⟨fun h1 => ?_, fun h1 => ?_⟩
  · exact ⟨none, ⟨retB (gokB_no fun h => by have := h.l1; omega), trivial⟩, rfl, rfl⟩
  refine ⟨fun h0 => ?_, fun h0 => ?_⟩
  · exact ⟨none, ⟨retB (gokB_no fun h => by have := h.l2; omega), trivial⟩, rfl, rfl⟩
  refine ⟨Nat, fun k => ⟨[(0, .d sh (.sl (.sl .int)) g), (17, .d sh (.sl (.sl .int)) g), (18, I g.length), (19, I (k : Nat))], []⟩, fun k => k ≤ g.length ∧ ∀ j, j < k → gok1 g j = true, fun k => g.length - k, 0, ⟨Nat.zero_le _, fun j hj => by omega⟩,
    ⟨⟨rfl, rfl⟩, ⟨rfl, rfl, rfl, rfl, trivial⟩, trivial⟩, fun k ⟨hk, hy⟩ => ?_⟩
  refine ⟨fun h2 => ?_, fun h2 => ?_⟩
  · have hk2 : k < g.length := by omega
    refine ⟨k, rfl, hk2, [], false, _, _, impl_PermOk sh (g.getD k []) (hx k hk2), List.nodup_nil, rfl, rfl, trivial, fun h3 => ?_, fun h3 => ?_⟩
    · refine ⟨0, rfl, by omega, fun h4 => ?_, fun h4 => ?_⟩
      · exact ⟨none, ⟨retB (gokB_no fun h => h4 (by have := (gok1_p (h.o1 k hk2)).2.1; omega)), trivial⟩, rfl, rfl⟩
      · have h4 : (g.getD k []).length = (g.getD 0 []).length := by omega
        refine ⟨fun h5 => ?_, fun h5 => ?_⟩
        · have hk1 : k - 1 < g.length := by omega
          refine ⟨((k - 1 : Nat) : Int), w64_eq (by omega) (by omega) (by omega), k - 1, rfl, hk1, [], false, _, _, slices_Compare_int sh sh (g.getD (k - 1) []) (g.getD k []) (hx _ hk1) (hx _ hk2), List.nodup_nil, rfl, rfl, trivial, fun h6 => ?_, fun h6 => ?_⟩
          · exact ⟨none, ⟨retB (gokB_no fun h => by
              rcases (gok1_p (h.o1 k hk2)).2.2 with e | e
              · omega
              · omega), trivial⟩, rfl, rfl⟩
          · exact ⟨((k + 1 : Nat) : Int), w64_eq (by omega) (by omega) (by omega), k + 1, ⟨by omega, gok_ext hy (gok1_of h3 h4 (.inr (by omega)))⟩, by dsimp only; omega, ⟨rfl, rfl⟩, ⟨rfl, rfl, rfl, rfl, trivial⟩, trivial⟩
        · exact ⟨((k + 1 : Nat) : Int), w64_eq (by omega) (by omega) (by omega), k + 1, ⟨by omega, gok_ext hy (gok1_of h3 h4 (.inl (by omega)))⟩, by dsimp only; omega, ⟨rfl, rfl⟩, ⟨rfl, rfl, rfl, rfl, trivial⟩, trivial⟩
    · exact ⟨none, ⟨retB (gokB_no fun h => by have := (gok1_p (h.o1 k hk2)).1; rw [(permB_iff _).2 this] at h3; cases h3), trivial⟩, rfl, rfl⟩
  · obtain rfl : k = g.length := by omega
    clear h2
    refine ⟨Nat, fun a => ⟨[(0, .d sh (.sl (.sl .int)) g), (51, .d sh (.sl (.sl .int)) g), (52, I g.length), (53, I (a : Nat))], []⟩, fun a => a ≤ g.length ∧ ∀ i, i < a → ∀ j, j < g.length → gok2 g i j = true, fun a => g.length - a, 0, ⟨Nat.zero_le _, fun j hj => by omega⟩,
      ⟨⟨rfl, rfl⟩, ⟨rfl, rfl, rfl, rfl, trivial⟩, trivial⟩, fun a ⟨ha, hz⟩ => ?_⟩
    refine ⟨fun h2 => ?_, fun h2 => ?_⟩
    · have ha2 : a < g.length := by omega
      refine ⟨a, rfl, ha2, ?_⟩
      refine ⟨Nat, fun b => ⟨[(0, .d sh (.sl (.sl .int)) g), (51, .d sh (.sl (.sl .int)) g), (52, I g.length), (53, I (a : Nat)), (6, .d sh (.sl .int) (g.getD a [])), (57, .d sh (.sl (.sl .int)) g), (58, I g.length), (59, I (b : Nat))], []⟩, fun b => b ≤ g.length ∧ ∀ j, j < b → gok2 g a j = true, fun b => g.length - b, 0, ⟨Nat.zero_le _, fun j hj => by omega⟩,
        ⟨⟨rfl, rfl⟩, ⟨rfl, rfl, rfl, rfl, rfl, rfl, rfl, rfl, trivial⟩, trivial⟩, fun b ⟨hb, hw⟩ => ?_⟩
      refine ⟨fun h3 => ?_, fun h3 => ?_⟩
      · have hb2 : b < g.length := by omega
        have hm := gok_mul hy ha2 hb2
        have hel := exL_len (g.getD a []) (g.getD b [])
        refine ⟨b, rfl, hb2, ?_⟩
        refine ⟨[], true, _, _, impl_compose sh sh (g.getD a []) (g.getD b []) (by omega) hm.2.1, List.nodup_nil, rfl, rfl, trivial, ?_⟩
        refine ⟨[], false, _, _, impl_indexOf sh true g (exL (g.getD a []) (g.getD b [])) hl hx (by omega), List.nodup_nil, rfl, rfl, trivial, fun h4 => ?_, fun h4 => ?_⟩
        · exact ⟨none, ⟨retB (gokB_no fun h => by have := of_decide_eq_true (h.o2 a ha2 b hb2); omega), trivial⟩, rfl, rfl⟩
        · exact ⟨((b + 1 : Nat) : Int), w64_eq (by omega) (by omega) (by omega), b + 1, ⟨by omega, ext1 hw (decide_eq_true (by omega))⟩, by dsimp only; omega, ⟨rfl, rfl⟩, ⟨rfl, rfl, rfl, rfl, rfl, rfl, rfl, rfl, trivial⟩, trivial⟩
      · obtain rfl : b = g.length := by omega
        exact ⟨((a + 1 : Nat) : Int), w64_eq (by omega) (by omega) (by omega), a + 1, ⟨by omega, ext1 hz hw⟩, by dsimp only; omega, ⟨rfl, rfl⟩, ⟨rfl, rfl, rfl, rfl, trivial⟩, trivial⟩
    · obtain rfl : a = g.length := by omega
      exact ⟨none, ⟨retB ((gokB_iff g).2 ⟨by omega, by omega, hy, hz⟩), trivial⟩, rfl, rfl⟩
end Go.Proofs.YtacjiemkbhhhoaaGreatDoor
set_option linter.unusedVariables false
namespace Go.Proofs.YtacjiemkbhhhoaaGreatDoor
open Go Go.Proofs.YtacjiemkbhhhoaaGreatDoor.Ow
/-- impl.PowerPerm -/
theorem impl_PowerPerm (sh : Bool) (h : List Int) (c : Nat) (hP : PermP h) (hc : c ≤ 1000) : AC Tryz.prog 271 [.d sh (.sl .int) h, I (c : Nat)] [] [.d true (.sl .int) (powL h c), .d true .bool true] [] := by
  have hok := powL_ok h (permR hP)
  have hl := hP.1
  refine AC_of tauOk 29 0 [4, 5] Tryz.func271 rfl (by kernel_rfl) rfl rfl rfl rfl rfl ?_
  refine ⟨[], false, _, _, impl_PermOk sh h (by omega), List.nodup_nil, rfl, rfl, trivial, fun _ => ?_, fun e => by rw [(permB_iff h).2 hP] at e; cases e⟩
  refine ⟨fun e => by omega, fun _ => ?_⟩
  refine ⟨fun e => by omega, fun _ => ?_⟩
  refine ⟨[], true, _, _, impl_IdentityPerm h.length (by omega) (by omega), List.nodup_nil, rfl, rfl, trivial, ?_⟩
  refine ⟨Nat, fun k => ⟨[(0, .d sh (.sl .int) h), (21, I (c : Nat)), (6, .d true (.sl .int) (powL h k)), (22, I (k : Nat))], []⟩, fun k => k ≤ c, fun k => c - k, 0, Nat.zero_le _,
    ⟨⟨rfl, rfl⟩, ⟨rfl, rfl, rfl, rfl, trivial⟩, trivial⟩, fun k hk => ?_⟩
  dsimp only at hk
  refine ⟨fun h2 => ?_, fun h2 => ?_⟩
  · have hk1 := hok k
    refine ⟨[], true, _, _, impl_compose true sh (powL h k) h (by omega) hk1.2, List.nodup_nil, rfl, rfl, trivial, ?_⟩
    exact ⟨((k + 1 : Nat) : Int), w64_eq (by omega) (by omega) (by omega), k + 1, by dsimp only; omega, by dsimp only; omega, ⟨rfl, rfl⟩, ⟨rfl, rfl, rfl, rfl, trivial⟩, trivial⟩
  · obtain rfl : k = c := by omega
    exact ⟨none, ⟨rfl, rfl, trivial⟩, rfl, rfl⟩
/-- impl.movedPoints -/
theorem impl_movedPoints (sh : Bool) (x : List Int) (hl : x.length ≤ 1048576) : AC Tryz.prog 272 [.d sh (.sl .int) x] [] [I (x.length - fixN x x.length : Nat)] [] := by
  refine AC_of tauOk 20 0 [2] Tryz.func272 rfl (by kernel_rfl) rfl rfl rfl rfl rfl ?_
  refine ⟨Nat, fun k => ⟨[(3, I (k - fixN x k : Nat)), (6, .d sh (.sl .int) x), (7, I x.length), (8, I (k : Nat))], []⟩, fun k => k ≤ x.length, fun k => x.length - k, 0, Nat.zero_le _,
    ⟨⟨rfl, rfl⟩, ⟨rfl, rfl, rfl, rfl, trivial⟩, trivial⟩, fun k hk => ?_⟩
  dsimp only at hk
  have hf := fixN_le x k
  refine ⟨fun h2 => ?_, fun h2 => ?_⟩
  · have hk2 : k < x.length := by omega
    refine ⟨k, rfl, hk2, fun h3 => ?_, fun h3 => ?_⟩
    · have e : fixN x (k + 1) = fixN x k := by rw [fixN, if_neg (fun e => h3 (by omega))]
      refine ⟨((k + 1 - fixN x (k + 1) : Nat) : Int), w64_eq (by omega) (by omega) (by omega), ?_⟩
      exact ⟨((k + 1 : Nat) : Int), w64_eq (by omega) (by omega) (by omega), k + 1, by dsimp only; omega, by dsimp only; omega, ⟨rfl, rfl⟩, ⟨rfl, rfl, rfl, rfl, trivial⟩, trivial⟩
    · have e : fixN x (k + 1) = fixN x k + 1 := by rw [fixN, if_pos (by omega)]
      exact ⟨((k + 1 : Nat) : Int), w64_eq (by omega) (by omega) (by omega), k + 1, by dsimp only; omega, by dsimp only; omega, ⟨rfl, rfl⟩, ⟨retI (by omega), rfl, rfl, rfl, trivial⟩, trivial⟩
  · obtain rfl : k = x.length := by omega
    exact ⟨none, ⟨rfl, trivial⟩, rfl, rfl⟩
/-- what is counted -/
def cexI (g : List (List Int)) (k : Int) : Int := if gokB g = true ∧ 1 ≤ k ∧ k ≤ 4 then ((sumG g (symL k.toNat) g.length / (g.length * (symL k.toNat).length) : Nat) : Int) else -1
structure CexOk (g : List (List Int)) (k : Nat) : Prop where
  gr : GrpP g
  sy : SymOk k
  p : ∀ a, a < g.length → PermP (g.getD a [])
  c1 : ∀ a, a < g.length → (cycL (g.getD a [])).length ≤ 10
  c2 : ∀ a, a < g.length → ∀ j, j < (cycL (g.getD a [])).length → ((cycL (g.getD a [])).getD j []).length ≤ 10
  s : ∀ b, b < (symL k).length → PermP ((symL k).getD b []) ∧ ((symL k).getD b []).length = k
theorem cex_ok {g : List (List Int)} {k : Nat} (hg : gokB g = true) (h1 : 1 ≤ k) (h4 : k ≤ 4) : CexOk g k := by
  have hG := (gokB_iff g).1 hg
  have hS := sym_ok k (by omega) h1
  have hp : ∀ a, a < g.length → PermP (g.getD a []) := fun a ha => (gok1_p (hG.o1 a ha)).1
  have hc : ∀ a, a < g.length → (cycL (g.getD a [])).length ≤ 10 ∧ ∀ c ∈ cycL (g.getD a []), c.length ≤ 10 := fun a ha => by
    have hP := hp a ha
    have h := cyc_ok (g.getD a []) (permR hP) (g.getD a []).length (Nat.le_refl _)
    have hl := hP.1
    exact ⟨Nat.le_trans h.2.1 hl.2, fun c hc => by have := (h.2.2 c hc).2.1; omega⟩
  exact ⟨hG, hS, hp, fun a ha => (hc a ha).1, fun a ha j hj => by rw [getD_get _ _ _ hj]; exact (hc a ha).2 _ (List.getElem_mem hj), fun b hb => symL_get hS b hb⟩
/-- impl.CountExchange -/
theorem impl_isColors (n : Int) : AC Tryz.prog 173 [I n] [] [.d true .bool (decide (1 ≤ n) && decide (n ≤ 4))] [] := by
  refine AC_of tauOk 9 0 [2] Tryz.func173 rfl (by kernel_rfl) rfl rfl rfl rfl rfl ?_
  refine ⟨fun h => ?_, fun h => ?_⟩
  · refine ⟨fun h2 => ?_, fun h2 => ?_⟩
    · exact ⟨none, ⟨retB (by rw [decide_eq_true (show 1 ≤ n by omega), decide_eq_true h2]; rfl), trivial⟩, rfl, rfl⟩
    · exact ⟨none, ⟨retB (by rw [decide_eq_false h2, Bool.and_false]), trivial⟩, rfl, rfl⟩
  · exact ⟨none, ⟨retB (by rw [decide_eq_false (show ¬ 1 ≤ n by omega)]; rfl), trivial⟩, rfl, rfl⟩
theorem impl_CountExchange (sh : Bool) (g : List (List Int)) (k : Int) (hl : g.length ≤ 1048576) (hx : ∀ i, i < g.length → (g.getD i []).length ≤ 1048576) : AC Tryz.prog 175 [.d sh (.sl (.sl .int)) g, I k] [] [I (cexI g k)] [] := by
  refine AC_of tauOk 71 0 [4] Tryz.func175 rfl (by kernel_rfl) rfl rfl rfl rfl rfl ?_
  refine ⟨[], false, _, _, impl_GroupOk sh g hl hx, List.nodup_nil, rfl, rfl, trivial, fun hg => ?_, fun hg => ?_⟩
  · refine ⟨[], false, _, _, impl_isColors _, List.nodup_nil, rfl, rfl, trivial, fun hk => ?_, fun hk => ?_⟩
    · simp only [Bool.and_eq_true, decide_eq_true_eq] at hk
      obtain ⟨K, rfl⟩ : ∃ K : Nat, k = (K : Int) := ⟨k.toNat, by omega⟩
      have C := cex_ok hg (k := K) (by omega) (by omega)
      have hs2 := C.sy.l2
      have hs1 := C.sy.l1
      have hg1 := C.gr.l1
      have hg2 := C.gr.l2
      have hB := sumG_le g (symL K) (fun b hb => by have := (C.s b hb).2; omega) hs2 C.c1
      have eI : cexI g (K : Int) = ((sumG g (symL K) g.length / (g.length * (symL K).length) : Nat) : Int) := by
        rw [cexI, if_pos ⟨hg, hk⟩, Int.toNat_natCast]
      rw [eI]
      refine ⟨[], true, _, _, impl_renamings K (by omega) (by omega), List.nodup_nil, rfl, rfl, trivial, ?_⟩
      have hsp := C.s
      generalize symL K = S at *
      refine ⟨Nat, fun a => ⟨[(0, .d sh (.sl (.sl .int)) g), (1, I (K : Nat)), (5, I (sumG g S a : Nat)), (6, .d true (.sl (.sl .int)) S), (26, .d sh (.sl (.sl .int)) g), (27, I g.length), (28, I (a : Nat))], []⟩, fun a => a ≤ g.length, fun a => g.length - a, 0, Nat.zero_le _,
        ⟨⟨rfl, rfl⟩, ⟨rfl, rfl, rfl, rfl, rfl, rfl, rfl, trivial⟩, trivial⟩, fun a ha => ?_⟩
      dsimp only at ha
      have hBa := hB a ha
      refine ⟨fun h2 => ?_, fun h2 => ?_⟩
      · have ha2 : a < g.length := by omega
        have hca := C.c1 a ha2
        have hcj := C.c2 a ha2
        have hH := sumH_le (g.getD a []) S (fun b hb => by have := (hsp b hb).2; omega) hca
        refine ⟨a, rfl, ha2, ?_⟩
        refine ⟨Nat, fun b => ⟨[(0, .d sh (.sl (.sl .int)) g), (1, I (K : Nat)), (5, I (sumG g S a + sumH (g.getD a []) S b : Nat)), (6, .d true (.sl (.sl .int)) S), (26, .d sh (.sl (.sl .int)) g), (27, I g.length), (28, I (a : Nat)), (8, .d sh (.sl .int) (g.getD a [])), (32, .d true (.sl (.sl .int)) S), (33, I S.length), (34, I (b : Nat))], []⟩, fun b => b ≤ S.length, fun b => S.length - b, 0, Nat.zero_le _,
          ⟨⟨rfl, rfl⟩, ⟨rfl, rfl, rfl, rfl, rfl, rfl, rfl, rfl, rfl, rfl, rfl, trivial⟩, trivial⟩, fun b hb => ?_⟩
        dsimp only at hb
        have hHb := hH b hb
        refine ⟨fun h3 => ?_, fun h3 => ?_⟩
        · have hb2 : b < S.length := by omega
          have hq := hsp b hb2
          have hpr := prdN_le2 (S.getD b []) (cycL (g.getD a [])) (by omega) hca
          refine ⟨b, rfl, hb2, [], true, _, _, impl_CyclesOf sh (g.getD a []) (C.p a ha2), List.nodup_nil, rfl, rfl, trivial, ?_⟩
          refine ⟨Nat, fun j => ⟨[(0, .d sh (.sl (.sl .int)) g), (1, I (K : Nat)), (5, I (sumG g S a + sumH (g.getD a []) S b : Nat)), (6, .d true (.sl (.sl .int)) S), (26, .d sh (.sl (.sl .int)) g), (27, I g.length), (28, I (a : Nat)), (8, .d sh (.sl .int) (g.getD a [])), (32, .d true (.sl (.sl .int)) S), (33, I S.length), (34, I (b : Nat)),
            (10, .d true (.sl .int) (S.getD b [])), (11, I (prdN (S.getD b []) (cycL (g.getD a [])) j : Nat)), (39, .d true (.sl (.sl .int)) (cycL (g.getD a []))), (40, I (cycL (g.getD a [])).length), (41, I (j : Nat))], []⟩, fun j => j ≤ (cycL (g.getD a [])).length, fun j => (cycL (g.getD a [])).length - j, 0, Nat.zero_le _,
            ⟨⟨rfl, rfl⟩, ⟨rfl, rfl, rfl, rfl, rfl, rfl, rfl, rfl, rfl, rfl, rfl, rfl, rfl, rfl, rfl, rfl, trivial⟩, trivial⟩, fun j hj => ?_⟩
          dsimp only at hj
          refine ⟨fun h4 => ?_, fun h4 => ?_⟩
          · have hj2 : j < (cycL (g.getD a [])).length := by omega
            have hcl := hcj j hj2
            have hpj := hpr (j + 1) hj2
            have hpo := powL_ok (S.getD b []) (permR hq.1) ((cycL (g.getD a [])).getD j []).length
            have hfx := fixN_le (powL (S.getD b []) ((cycL (g.getD a [])).getD j []).length) (powL (S.getD b []) ((cycL (g.getD a [])).getD j []).length).length
            refine ⟨j, rfl, hj2, [], false, _, _, impl_PowerPerm true (S.getD b []) ((cycL (g.getD a [])).getD j []).length hq.1 (by omega), List.nodup_nil, rfl, rfl, trivial, fun _ => ?_, nofun⟩
            refine ⟨[], false, _, _, impl_movedPoints true (powL (S.getD b []) ((cycL (g.getD a [])).getD j []).length) (by omega), List.nodup_nil, rfl, rfl, trivial, ?_⟩
            refine ⟨((kepN (S.getD b []) ((cycL (g.getD a [])).getD j []).length : Nat) : Int), w64_eq (by rw [kepN, ← hpo.1]; omega) (by omega) (by rw [kepN, ← hpo.1]; omega), ?_⟩
            refine ⟨((prdN (S.getD b []) (cycL (g.getD a [])) (j + 1) : Nat) : Int), w64_eq (by rw [prdN, Int.natCast_mul]) (by omega) (by omega), ?_⟩
            exact ⟨((j + 1 : Nat) : Int), w64_eq (by omega) (by omega) (by omega), j + 1, by dsimp only; omega, by dsimp only; omega, ⟨rfl, rfl⟩, ⟨rfl, rfl, rfl, rfl, rfl, rfl, rfl, rfl, rfl, rfl, rfl, rfl, rfl, rfl, rfl, rfl, trivial⟩, trivial⟩
          · obtain rfl : j = (cycL (g.getD a [])).length := by omega
            have hpj := hpr _ (Nat.le_refl _)
            refine ⟨((sumG g S a + sumH (g.getD a []) S (b + 1) : Nat) : Int), w64_eq (by rw [sumH]; omega) (by omega) (by rw [sumH]; omega), ?_⟩
            exact ⟨((b + 1 : Nat) : Int), w64_eq (by omega) (by omega) (by omega), b + 1, by dsimp only; omega, by dsimp only; omega, ⟨rfl, rfl⟩, ⟨rfl, rfl, rfl, rfl, rfl, rfl, rfl, rfl, rfl, rfl, rfl, trivial⟩, trivial⟩
        · obtain rfl : b = S.length := by omega
          exact ⟨((a + 1 : Nat) : Int), w64_eq (by omega) (by omega) (by omega), a + 1, by dsimp only; omega, by dsimp only; omega, ⟨rfl, rfl⟩, ⟨rfl, rfl, rfl, rfl, rfl, rfl, rfl, trivial⟩, trivial⟩
      · obtain rfl : a = g.length := by omega
        have hd1 : sumG g S g.length / (g.length * S.length) ≤ sumG g S g.length := Nat.div_le_self _ _
        have hm : g.length * S.length ≤ 120 * 120 := Nat.mul_le_mul hg2 hs2
        have hm0 : 0 < g.length * S.length := Nat.mul_pos (by omega) (by omega)
        refine ⟨((g.length * S.length : Nat) : Int), w64_eq (Int.natCast_mul _ _) (by omega) (by omega), by omega, ((sumG g S g.length / (g.length * S.length) : Nat) : Int), w64_eq (Int.ofNat_tdiv _ _) (Int.le_trans (by decide) (Int.natCast_nonneg _)) (by omega), ?_⟩
        exact ⟨none, ⟨rfl, trivial⟩, rfl, rfl⟩
    · simp only [Bool.and_eq_false_iff, decide_eq_false_iff_not] at hk
      exact ⟨none, ⟨retI (by rw [cexI, if_neg (fun e => by omega)]), trivial⟩, rfl, rfl⟩
  · exact ⟨none, ⟨retI (by rw [cexI, if_neg (fun e => by rw [hg] at e; cases e.1)]), trivial⟩, rfl, rfl⟩
end Go.Proofs.YtacjiemkbhhhoaaGreatDoor
set_option linter.unusedVariables false
namespace Go.Proofs.YtacjiemkbhhhoaaGreatDoor
open Go Go.Proofs.YtacjiemkbhhhoaaGreatDoor.Ow
/-- the lists are short -/
def Short (xss : List (List Int)) : Prop := xss.length ≤ 1048576 ∧ ∀ i, i < xss.length → (xss.getD i []).length ≤ 1048576
end Go.Proofs.YtacjiemkbhhhoaaGreatDoor
