/-
  Contracts of the functions that rename graphs.
-/
import Derived.Test.YtbnonelkdgkpdaaPls
import Derived.Test.YtbnonelkdgkpdaaWdeg
import Derived.Test.YtbnonelkdgkpdaaWexc
set_option linter.unusedVariables false
namespace Go.Proofs.Ytbnonelkdgkpdaa
open Go Go.Proofs.Ytbnonelkdgkpdaa.Ow
theorem sort_eq {xs ys : List Int} (hp : ys.Perm xs) (hs : ys.Pairwise fun x y => x ≤ y) : xs.mergeSort (fun x y => decide (x ≤ y)) = ys := by
  refine List.Perm.eq_of_pairwise (le := fun a b : Int => a ≤ b) (fun a b _ _ h1 h2 => by omega) ?_ hs ((List.mergeSort_perm xs _).trans hp.symm)
  have h := List.pairwise_mergeSort (le := fun x y : Int => decide (x ≤ y)) (fun a b c h1 h2 => by simp at *; omega) (fun a b => by simp; omega) xs
  exact h.imp fun h => by simpa using h
/-- slices.Sort of integers: what it leaves is whatever ascending list has the same elements -/
theorem slices_Sort_ints (e : Nat) (xs ys : List Int) (hl : xs.length ≤ 1048576) (hp : ys.Perm xs) (hs : ys.Pairwise fun x y => x ≤ y) : AC Try.prog 124 [.ow 0] [.sl e .int xs] [] [.sl e .int ys] :=
  AC_rowI hp.length_eq ⟨_, _, Try.func124, rfl, by kernel_rfl⟩ fun b cap w hH hb => by
    have h := Try.slices_Sort_int b 0 cap xs w hH hb (by omega)
    rw [sort_eq hp hs] at h
    exact h
theorem pair_el (n : Nat) (hn : n < 6) (k : Nat) (hk : k < (pairsL n).length) (j : Nat) (hj : j < ((pairsL n).getD k []).length) : 0 ≤ ((pairsL n).getD k []).getD j 0 ∧ ((pairsL n).getD k []).getD j 0 < (n : Int) := by
  have h := (pairs_short n hn).2 k hk
  have : j = 0 ∨ j = 1 := by omega
  rcases this with rfl | rfl <;> omega
theorem two_map (l : List Int) (f : Int → Int) (h : l.length = 2) : l.map f = [f (l.getD 0 0), f (l.getD 1 0)] := by
  match l, h with
  | [a, b], _ => rfl
theorem sorted_two (u v : Int) (h : u ≠ v) : [mnI u v, mxI u v].Perm [u, v] ∧ [mnI u v, mxI u v].Pairwise fun x y => x ≤ y := by
  unfold mnI mxI
  by_cases e : u < v
  · rw [if_neg (by omega), if_pos e]
    exact ⟨List.Perm.refl _, by simp; omega⟩
  · rw [if_pos (by omega), if_neg e]
    exact ⟨List.Perm.swap _ _ _, by simp; omega⟩
/-- impl.moved of the pairs -/
theorem impl_moved (sh2 : Bool) (p : List Int) (hP : PermP p) (hn : p.length < 6) : AC Try.prog 117 [.d true (.sl (.sl .int)) (pairsL p.length), .d sh2 (.sl .int) p] [] [.ow 0] [.sl 3 .int (pactL p)] := by
  have hs := pairs_short p.length hn
  refine AC_of tauOk 43 0 [4] Try.func117 rfl (by kernel_rfl) rfl rfl rfl rfl rfl ?_
  refine ⟨rfl, by decide, true, ?_⟩
  refine ⟨Nat, fun k => ⟨[(0, .d true (.sl (.sl .int)) (pairsL p.length)), (1, .d sh2 (.sl .int) p), (5, .ow 0), (12, .d true (.sl (.sl .int)) (pairsL p.length)), (13, I (pairsL p.length).length), (14, I (k : Nat))], [.sl 3 .int (((pairsL p.length).take k).map fun l => ((paN p l : Nat) : Int))]⟩, fun k => k ≤ (pairsL p.length).length, fun k => (pairsL p.length).length - k, 0, Nat.zero_le _,
    ⟨⟨rfl, rfl⟩, ⟨rfl, rfl, rfl, rfl, rfl, rfl, trivial⟩, rfl, trivial⟩, fun k hk => ?_⟩
  dsimp only at hk
  refine ⟨fun h1 => ?_, fun h1 => ?_⟩
  · have hk2 : k < (pairsL p.length).length := by omega
    have hq := hs.2 k hk2
    have hel := fun j hj => pair_el p.length hn k hk2 j hj
    have hms := map_snoc (fun l => ((paN p l : Nat) : Int)) (pairsL p.length) k [] hk2
    obtain ⟨u, v, hc⟩ := car_of hP hn (l := (pairsL p.length).getD k []) (by rw [getD_get _ _ _ hk2]; exact List.getElem_mem _)
    have hmk : (((pairsL p.length).take k).map fun l => ((paN p l : Nat) : Int)).length ≤ 10 := by rw [List.length_map, List.length_take]; omega
    refine ⟨k, rfl, hk2, ?_⟩
    have hcf := car_find hc hn
    refine ⟨rfl, by decide, true, ?_⟩
    refine ⟨Nat, fun j => ⟨[(0, .d true (.sl (.sl .int)) (pairsL p.length)), (1, .d sh2 (.sl .int) p), (5, .ow 0), (12, .d true (.sl (.sl .int)) (pairsL p.length)), (13, I (pairsL p.length).length), (14, I (k : Nat)), (8, .ow 1), (19, .d true (.sl .int) ((pairsL p.length).getD k [])), (20, I ((pairsL p.length).getD k []).length), (21, I (j : Nat))], [.sl 3 .int (((pairsL p.length).take k).map fun l => ((paN p l : Nat) : Int)), .sl 3 .int ((((pairsL p.length).getD k []).take j).map fun a => p.getD a.toNat 0)]⟩, fun j => j ≤ ((pairsL p.length).getD k []).length, fun j => ((pairsL p.length).getD k []).length - j, 0, Nat.zero_le _,
      ⟨⟨rfl, rfl⟩, ⟨rfl, rfl, rfl, rfl, rfl, rfl, rfl, rfl, rfl, rfl, trivial⟩, rfl, rfl, trivial⟩, fun j hj => ?_⟩
    dsimp only at hj
    refine ⟨fun h2 => ?_, fun h2 => ?_⟩
    · have hj2 : j < ((pairsL p.length).getD k []).length := by omega
      have he := hel j hj2
      have hml : ((((pairsL p.length).getD k []).take j).map fun a => p.getD a.toNat 0).length ≤ 2 := by rw [List.length_map, List.length_take]; omega
      have hms2 := map_snoc (fun a : Int => p.getD a.toNat 0) ((pairsL p.length).getD k []) j 0 hj2
      refine ⟨j, rfl, hj2, (((pairsL p.length).getD k []).getD j 0).toNat, (Int.toNat_of_nonneg he.1).symm, by omega, ?_⟩
      refine ⟨rfl, by decide, false, ?_⟩
      refine ⟨rfl, Nat.zero_le _, rfl, by simp only [List.length_cons, List.length_nil]; omega, rfl, ?_⟩
      exact ⟨((j + 1 : Nat) : Int), w64_eq (by omega) (by omega) (by omega), j + 1, by dsimp only; omega, by dsimp only; omega, ⟨rfl, rfl⟩, ⟨rfl, rfl, rfl, rfl, rfl, rfl, rfl, rfl, rfl, rfl, trivial⟩, rfl, rowE hms2.symm, trivial⟩
    · obtain rfl : j = ((pairsL p.length).getD k []).length := by omega
      have hx : (((pairsL p.length).getD k []).take ((pairsL p.length).getD k []).length).map (fun a => p.getD a.toNat 0) = [(u : Int), (v : Int)] := by
        rw [List.take_length, two_map ((pairsL p.length).getD k []) _ hq.1, hc.fu, hc.fv]
      have hst := sorted_two (u : Int) (v : Int) (by have := hc.ne; omega)
      dsimp only
      rw [hx]
      refine ⟨[1], false, _, _, slices_Sort_ints 3 [(u : Int), (v : Int)] [mnI u v, mxI u v] (by simp) hst.1 hst.2, by decide, rfl, rfl, ⟨⟨rfl, rfl, rfl⟩, trivial⟩, ?_⟩
      refine ⟨[], false, _, _, impl_indexOf true false (pairsL p.length) [mnI u v, mxI u v] (by omega) (fun i hi => by have := (hs.2 i hi).1; omega) (by simp), List.nodup_nil, rfl, rfl, trivial, ?_⟩
      refine ⟨rfl, by decide, false, ?_⟩
      refine ⟨rfl, Nat.zero_le _, rfl, by simp only [List.length_cons, List.length_nil]; omega, rfl, ?_⟩
      exact ⟨((k + 1 : Nat) : Int), w64_eq (by omega) (by omega) (by omega), k + 1, by omega, by omega, ⟨rfl, rfl⟩, ⟨rfl, rfl, rfl, rfl, rfl, rfl, trivial⟩, rowE (by rw [hms, hcf]), trivial⟩
  · obtain rfl : k = (pairsL p.length).length := by omega
    exact ⟨some 0, ⟨⟨rfl, rfl⟩, trivial⟩, ⟨rfl, rowsE (by rw [List.take_length]; rfl)⟩, rfl⟩
/-- impl.PairAction -/
theorem impl_PairAction (sh : Bool) (p : List Int) (hP : PermP p) (hn : p.length < 6) (h2 : 2 ≤ p.length) : AC Try.prog 95 [.d sh (.sl .int) p] [] [.ow 0, .d true .bool true] [.sl 3 .int (pactL p)] := by
  refine AC_of tauOk 22 0 [2, 3] Try.func95 rfl (by kernel_rfl) rfl rfl rfl rfl rfl ?_
  refine ⟨[], false, _, _, impl_PermOk sh p (by omega), List.nodup_nil, rfl, rfl, trivial, fun h => ?_, fun h => by rw [(permB_iff p).2 hP] at h; cases h⟩
  refine ⟨fun h => by omega, fun h => ?_⟩
  refine ⟨fun h => by omega, fun h => ?_⟩
  refine ⟨[], true, _, _, impl_PairsOf p.length h2 hn, List.nodup_nil, rfl, rfl, trivial, ?_⟩
  refine ⟨[], false, _, _, impl_moved sh p hP hn, List.nodup_nil, rfl, rfl, trivial, ?_⟩
  exact ⟨some 0, ⟨⟨rfl, rfl⟩, rfl, trivial⟩, ⟨rfl, rfl⟩, rfl⟩
theorem pact_el {p : List Int} (hP : PermP p) (hn : p.length < 6) (h2 : 2 ≤ p.length) (k : Nat) (hk : k < (pactL p).length) : 0 ≤ (pactL p).getD k 0 ∧ ((pactL p).getD k 0).toNat < cp p.length := by
  have hk2 : k < (pairsL p.length).length := by rw [pactL, List.length_map] at hk; exact hk
  have e : (pactL p).getD k 0 = ((paN p ((pairsL p.length).getD k []) : Nat) : Int) := by
    rw [getD_get _ _ _ hk, getD_get _ _ _ hk2]
    simp [pactL]
  obtain ⟨u, v, hc⟩ := car_of hP hn (l := (pairsL p.length).getD k []) (by rw [getD_get _ _ _ hk2]; exact List.getElem_mem _)
  have := car_lt hc hn h2
  rw [e]
  exact ⟨Int.natCast_nonneg _, by rw [Int.toNat_natCast]; exact this⟩
theorem pact_len {p : List Int} (hn : p.length < 6) : (pactL p).length ≤ 10 := by
  rw [pactL, List.length_map]
  exact (pairs_short p.length hn).1
theorem ren_lt {p : List Int} (hP : PermP p) (hn : p.length < 6) (h2 : 2 ≤ p.length) (g k : Nat) (hk : k ≤ (pactL p).length) : renL g (pactL p) k < 1024 :=
  Nat.lt_of_lt_of_le (renL_lt g (cp p.length) (pactL p) (fun i hi => (pact_el hP hn h2 i hi).2) k hk) (cp_le p.length hn).2.2
/-- impl.renamed -/
theorem impl_renamed (sh : Bool) (g : Nat) (hg : g < 1024) (p : List Int) (hP : PermP p) (hn : p.length < 6) (h2 : 2 ≤ p.length) : AC Try.prog 64 [I p.length, I (g : Nat), .d sh (.sl .int) p] [] [I (renN g p : Nat)] [] := by
  refine AC_of tauOk 36 0 [6] Try.func64 rfl (by kernel_rfl) rfl rfl rfl rfl rfl ?_
  refine ⟨fun h => by omega, fun _ => ?_⟩
  refine ⟨[], true, _, _, impl_PairAction sh p hP hn h2, List.nodup_nil, rfl, rfl, trivial, fun _ => ?_, nofun⟩
  have hle := pact_len hn
  have hel := pact_el hP hn h2
  have hlt := ren_lt hP hn h2 g
  have hcp := cp_le p.length hn
  unfold renN
  generalize pactL p = xs at *
  refine ⟨Nat, fun k => ⟨[(1, I (g : Nat)), (9, I (renL g xs k : Nat)), (19, .d true (.sl .int) xs), (20, I xs.length), (21, I (k : Nat))], []⟩, fun k => k ≤ xs.length, fun k => xs.length - k, 0, Nat.zero_le _,
    ⟨⟨rfl, rfl⟩, ⟨rfl, rfl, rfl, rfl, rfl, trivial⟩, trivial⟩, fun k hk => ?_⟩
  dsimp only at hk
  refine ⟨fun h3 => ?_, fun h3 => ?_⟩
  · have hk2 : k < xs.length := by omega
    have he := hel k hk2
    have hr := hlt k hk
    have hgd : g / 2 ^ k ≤ g := Nat.div_le_self _ _
    have hc : xs.getD k 0 = (((xs.getD k 0).toNat : Nat) : Int) := (Int.toNat_of_nonneg he.1).symm
    have hb1 : g / 2 ^ k % 2 ≤ 1 := by omega
    have hp : 2 ^ (xs.getD k 0).toNat < 1024 := Nat.lt_of_lt_of_le (Nat.pow_lt_pow_right (by omega) he.2) hcp.2.2
    have hbp : (g / 2 ^ k % 2) * 2 ^ (xs.getD k 0).toNat < 1024 := Nat.lt_of_le_of_lt (Nat.mul_le_mul_right _ hb1) (by omega)
    have e : renL g xs (k + 1) = renL g xs k ||| (g / 2 ^ k % 2) * 2 ^ (xs.getD k 0).toNat := by
      rw [renL]
      by_cases hb : bt g k = true
      · have := (bt_shr g k).2 hb
        have : g / 2 ^ k % 2 = 1 := by omega
        rw [if_pos hb, this, Nat.one_mul]
      · have : ¬ ((g / 2 ^ k % 2 : Nat) : Int) = 1 := fun h => hb ((bt_shr g k).1 h)
        have : g / 2 ^ k % 2 = 0 := by omega
        rw [if_neg hb, this, Nat.zero_mul, Nat.or_zero]
    refine ⟨k, rfl, hk2, by omega, ((g / 2 ^ k : Nat) : Int), shr_eq g k (by omega), ((g / 2 ^ k % 2 : Nat) : Int), and1_eq _ (by omega), ?_⟩
    refine ⟨he.1, (((g / 2 ^ k % 2) * 2 ^ (xs.getD k 0).toNat : Nat) : Int), ?_, ((renL g xs k ||| (g / 2 ^ k % 2) * 2 ^ (xs.getD k 0).toNat : Nat) : Int), or_eq _ _ hr hbp, ?_⟩
    · have := shlb_eq (g / 2 ^ k % 2) (xs.getD k 0).toNat hb1 (by omega)
      rw [← hc] at this
      exact this
    exact ⟨((k + 1 : Nat) : Int), w64_eq (by omega) (by omega) (by omega), k + 1, by dsimp only; omega, by dsimp only; omega, ⟨rfl, rfl⟩, ⟨rfl, by rw [e]; rfl, rfl, rfl, rfl, trivial⟩, trivial⟩
  · obtain rfl : k = xs.length := by omega
    exact ⟨none, ⟨rfl, trivial⟩, rfl, rfl⟩
theorem impl_renamed_one (sh : Bool) (g : Nat) (p : List Int) : AC Try.prog 64 [I 1, I (g : Nat), .d sh (.sl .int) p] [] [I 0] [] := by
  refine AC_of tauOk 36 0 [6] Try.func64 rfl (by kernel_rfl) rfl rfl rfl rfl rfl ?_
  refine ⟨fun h => ?_, fun h => by omega⟩
  exact ⟨none, ⟨rfl, trivial⟩, rfl, rfl⟩
theorem ren_one (g : Nat) (p : List Int) (h : p.length = 1) : renN g p = 0 := by
  unfold renN pactL
  rw [h]; rfl
def renB (n g : Int) (p : List Int) : Bool := graphB n g && (permB p && decide ((p.length : Int) = n))
/-- impl.RenameGraph -/
theorem impl_RenameGraph (sh : Bool) (n g : Nat) (p : List Int) (h1 : 1 ≤ n) (hn : n < 6) (hg : g < 1024) (hG : graphB (n : Nat) (g : Nat) = true) (hP : permB p = true) (hl : p.length = n) : AC Try.prog 20 [I (n : Nat), I (g : Nat), .d sh (.sl .int) p] [] [I (renN g p : Nat), .d true .bool true] [] := by
  subst hl
  refine AC_of tauOk 27 0 [6, 7] Try.func20 rfl (by kernel_rfl) rfl rfl rfl rfl rfl ?_
  refine ⟨[], false, _, _, impl_GraphOk _ _, List.nodup_nil, rfl, rfl, trivial, fun _ => ?_, fun h => by rw [hG] at h; cases h⟩
  refine ⟨[], false, _, _, impl_PermOk sh p (by omega), List.nodup_nil, rfl, rfl, trivial, fun _ => ?_, fun h => by rw [hP] at h; cases h⟩
  refine ⟨fun h => (h rfl).elim, fun _ => ?_⟩
  by_cases h2 : p.length = 1
  · rw [ren_one g p h2, h2]
    refine ⟨[], false, _, _, impl_renamed_one sh g p, List.nodup_nil, rfl, rfl, trivial, ?_⟩
    exact ⟨none, ⟨rfl, rfl, trivial⟩, rfl, rfl⟩
  · refine ⟨[], false, _, _, impl_renamed sh g hg p ((permB_iff p).1 hP) hn (by omega), List.nodup_nil, rfl, rfl, trivial, ?_⟩
    exact ⟨none, ⟨rfl, rfl, trivial⟩, rfl, rfl⟩
theorem impl_RenameGraph_no (sh : Bool) (n g : Int) (p : List Int) (hl : p.length ≤ 1048576) (h : renB n g p = false) : AC Try.prog 20 [I n, I g, .d sh (.sl .int) p] [] [I 0, .d true .bool false] [] := by
  refine AC_of tauOk 27 0 [6, 7] Try.func20 rfl (by kernel_rfl) rfl rfl rfl rfl rfl ?_
  refine ⟨[], false, _, _, impl_GraphOk _ _, List.nodup_nil, rfl, rfl, trivial, fun h1 => ?_, fun _ => ?_⟩
  · refine ⟨[], false, _, _, impl_PermOk sh p hl, List.nodup_nil, rfl, rfl, trivial, fun h2 => ?_, fun _ => ?_⟩
    · refine ⟨fun h3 => ?_, fun h3 => ?_⟩
      · exact ⟨none, ⟨rfl, rfl, trivial⟩, rfl, rfl⟩
      · have : (p.length : Int) = n := by omega
        rw [renB, h1, h2, decide_eq_true this] at h
        cases h
    · exact ⟨none, ⟨rfl, rfl, trivial⟩, rfl, rfl⟩
  · exact ⟨none, ⟨rfl, rfl, trivial⟩, rfl, rfl⟩
end Go.Proofs.Ytbnonelkdgkpdaa
