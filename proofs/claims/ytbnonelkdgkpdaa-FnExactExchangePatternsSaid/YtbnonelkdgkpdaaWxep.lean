/-
  Contracts of the reference's PatternsOf and ExchangePatterns.
-/
import Derived.Test.YtbnonelkdgkpdaaPls
import Derived.Test.YtbnonelkdgkpdaaWxsp
set_option linter.unusedVariables false
namespace Go.Proofs.Ytbnonelkdgkpdaa
open Go Go.Proofs.Ytbnonelkdgkpdaa.Ow
theorem nxtF_len (k : Int) : ∀ (n : Nat) (l : List Int), (nxtF k l n).1.length = l.length
  | 0, l => rfl
  | n + 1, l => by
    rw [nxtF]
    split
    · simp
    · rw [nxtF_len k n]; simp
/-- spec.l06Next -/
theorem spec_l06Next (xs : List Int) (k : Int) (h1 : 1 ≤ k) (h4 : k ≤ 4) (hl : xs.length ≤ 10) (hx : ∀ i, i < xs.length → 0 ≤ xs.getD i 0 ∧ xs.getD i 0 ≤ 4) :
    AC Try.prog 120 [.ow 0, I k] [.sl 3 .int xs] [.d true .bool (nxtF k xs xs.length).2] [.sl 3 .int (nxtF k xs xs.length).1] := by
  refine AC_of tauOk 29 1 [4] Try.func120 rfl (by kernel_rfl) rfl rfl rfl rfl rfl ?_
  refine ⟨((xs.length : Nat) : Int) - 1, w64_eq rfl (by omega) (by omega), ?_⟩
  refine ⟨Nat × List Int, fun i => ⟨[(0, .ow 0), (1, I k), (5, I ((i.1 : Nat) - 1 : Int))], [.sl 3 .int i.2]⟩, fun i => i.1 ≤ xs.length ∧ i.2.length = xs.length ∧ (∀ j, j < xs.length → 0 ≤ i.2.getD j 0 ∧ i.2.getD j 0 ≤ 4) ∧ nxtF k i.2 i.1 = nxtF k xs xs.length, fun i => i.1, (xs.length, xs), ⟨Nat.le_refl _, rfl, hx, rfl⟩,
    ⟨⟨rfl, rfl⟩, ⟨rfl, rfl, rfl, trivial⟩, rfl, trivial⟩, ?_⟩
  rintro ⟨i, ys⟩ ⟨hi, hyl, hyb, hye⟩
  dsimp only at hi hyl hyb hye
  refine ⟨fun h2 => ?_, fun h2 => ?_⟩
  · dsimp only at h2
    obtain ⟨j, rfl⟩ : ∃ j, i = j + 1 := ⟨i - 1, by omega⟩
    have hb := hyb j (by omega)
    have ej : (((j + 1 : Nat) : Int) - 1) = (j : Int) := by omega
    refine ⟨j, ej, by dsimp only; omega, k - 1, w64_eq rfl (by omega) (by omega), fun h3 => ?_, fun h3 => ?_⟩
    · have e : nxtF k ys (j + 1) = (ys.set j (ys.getD j 0 + 1), true) := by rw [nxtF, if_pos h3]
      refine ⟨j, ej, by dsimp only; omega, ys.getD j 0 + 1, w64_eq rfl (by omega) (by omega), j, ej, by dsimp only; omega, ?_⟩
      exact ⟨none, ⟨retB (by rw [← hye, e]), trivial⟩, rowsE (by rw [← hye, e]), rfl⟩
    · have e : nxtF k ys (j + 1) = nxtF k (ys.set j 0) j := by rw [nxtF, if_neg h3]
      refine ⟨j, ej, by dsimp only; omega, ?_⟩
      refine ⟨((j : Nat) : Int) - 1, w64_eq (by dsimp only; omega) (by omega) (by omega), (j, ys.set j 0), ⟨by dsimp only; omega, by dsimp only; rw [List.length_set]; exact hyl, fun q hq => ?_, by rw [← e]; exact hye⟩, by dsimp only; omega, ⟨rfl, rfl⟩, ⟨rfl, rfl, rfl, trivial⟩, rfl, trivial⟩
      dsimp only
      by_cases eq : j = q
      · subst eq; rw [L_set_self _ _ _ _ (by omega)]; decide
      · rw [L_set_ne _ _ _ _ _ eq]; exact hyb q hq
  · dsimp only at h2
    obtain rfl : i = 0 := by omega
    exact ⟨none, ⟨retB (by rw [← hye]; rfl), trivial⟩, rowsE (by rw [← hye]; rfl), rfl⟩
/-- the patterns -/
def patL (g : List (List Int)) (k n : Nat) : List (List Int) := kptL (fun w => decide (canL g w = w)) k n (k ^ n)
theorem patL_eq (g : List (List Int)) (k n : Nat) : patL g k n = (wordsL k n).filter fun w => decide (canL g w = w) := by
  unfold patL kptL; rw [wordsL_eq]
/-- spec.l06Patterns -/
theorem spec_l06Patterns (sh : Bool) (g : List (List Int)) (K : Nat) (hl : g.length ≤ 1048576) (hB : gokB g = true) (hK1 : 1 ≤ K) (hK4 : K ≤ 4) :
    AC Try.prog 107 [.d sh (.sl (.sl .int)) g, I (K : Nat)] [] [.ow 0] [.sl 25 (.sl .int) (patL g K (g.getD 0 []).length)] := by
  have hG := (gokB_iff g).1 hB
  have hg0 : 0 < g.length := by have := hG.l1; omega
  have hp0 := (gok1_p (hG.o1 0 hg0)).1.1
  have hgp : ∀ i, i < g.length → PermP (g.getD i []) ∧ (g.getD i []).length = (g.getD 0 []).length := fun i hi => ⟨(gok1_p (hG.o1 i hi)).1, (gok1_p (hG.o1 i hi)).2.1⟩
  have hpw : K ^ (g.getD 0 []).length ≤ 1048576 := pow_le hK4 hp0.2 (Nat.le_refl 10)
  have hpp : 0 < K ^ (g.getD 0 []).length := Nat.pow_pos (by omega)
  have hwl := wrdN_len K (g.getD 0 []).length
  have hwg := wrdN_get K (by omega) (g.getD 0 []).length
  have hw0 := wrdN_zero K (g.getD 0 []).length
  have hnx := nxt_wrd K (by omega) (g.getD 0 []).length
  have hky := kpt_yes (fun w => decide (canL g w = w)) K (g.getD 0 []).length
  have hkn := kpt_no (fun w => decide (canL g w = w)) K (g.getD 0 []).length
  have hkl := kpt_len (fun w => decide (canL g w = w)) K (g.getD 0 []).length
  have hcanl : ∀ ys : List Int, (canL g ys).length = ys.length := fun ys => by
    rcases bst_mem (fun p => actL p ys) ys g g.length with h | ⟨i, _, h⟩
    · rw [canL, h]
    · rw [canL, h, actL_len]
  refine AC_of tauOk 29 0 [4] Try.func107 rfl (by kernel_rfl) rfl rfl rfl rfl rfl ?_
  refine ⟨rfl, by decide, true, 0, rfl, hg0, _, _, rfl, rfl, Nat.le_refl _, by omega, ?_⟩
  refine ⟨Nat, fun i => ⟨[(0, .d sh (.sl (.sl .int)) g), (1, I (K : Nat)), (5, .ow 0), (6, .ow 1)], [.sl 25 (.sl .int) (kptL (fun w => decide (canL g w = w)) K (g.getD 0 []).length i), .sl 3 .int (wrdN K (g.getD 0 []).length i)]⟩, fun i => i < K ^ (g.getD 0 []).length, fun i => K ^ (g.getD 0 []).length - i, 0, hpp,
    ⟨⟨rfl, rfl⟩, ⟨rfl, rfl, rfl, rfl, trivial⟩, rowE rfl, rowE hw0.symm, trivial⟩, fun i hi => ?_⟩
  dsimp only at hi
  have hli := hwl i
  have hgi := hwg i
  have hcol : ColP (wrdN K (g.getD 0 []).length i) := ⟨fun j hj => by have := hgi j (by omega); omega, by omega, by omega⟩
  have hgv : ∀ a, a < g.length → PermP (g.getD a []) ∧ (g.getD a []).length = (wrdN K (g.getD 0 []).length i).length := fun a ha => by rw [hli]; exact hgp a ha
  have hcl := hcanl (wrdN K (g.getD 0 []).length i)
  have hnxi := hnx i hi
  have hkli := hkl i
  have hfl := nxtF_len (K : Int) (g.getD 0 []).length (wrdN K (g.getD 0 []).length i)
  have hNx := spec_l06Next (wrdN K (g.getD 0 []).length i) K (by omega) (by omega) (by omega) (fun j hj => by have := hgi j (by omega); omega)
  rw [hli] at hNx
  have hkey : ∀ (h : decide (i + 1 < K ^ (g.getD 0 []).length) = true), i + 1 < K ^ (g.getD 0 []).length := fun h => of_decide_eq_true h
  rw [hnxi.1] at hNx
  refine ⟨[], true, _, _, spec_l06Canon sh false g (wrdN K (g.getD 0 []).length i) hgv hl hcol, List.nodup_nil, rfl, rfl, trivial, ?_⟩
  refine ⟨[], false, _, _, spec_l03Same true false (canL g (wrdN K (g.getD 0 []).length i)) (wrdN K (g.getD 0 []).length i) (by omega) (by omega), List.nodup_nil, rfl, rfl, trivial, fun h3 => ?_, fun h3 => ?_⟩
  · have hy := hky i (by rw [decide_eq_true_eq]; exact of_decide_eq_true h3)
    refine ⟨rfl, by decide, true, rfl, Nat.zero_le _, rfl, by simp only [List.length_nil]; omega, rfl, ?_⟩
    refine ⟨rfl, rfl, by decide, false, rfl, Nat.zero_le _, rfl, by simp only [List.length_cons, List.length_nil]; omega, rfl, ?_⟩
    refine ⟨[1], false, _, _, hNx, by decide, rfl, rfl, ⟨⟨hfl, rfl, rfl⟩, trivial⟩, fun h4 => ?_, fun h4 => ?_⟩
    · have h5 := hkey h4
      exact ⟨i + 1, h5, by dsimp only; omega, ⟨rfl, rfl⟩, ⟨rfl, rfl, rfl, rfl, trivial⟩, rowE hy.symm, rowE (hnxi.2 h5), trivial⟩
    · have h5 : i + 1 = K ^ (g.getD 0 []).length := by have := of_decide_eq_false h4; omega
      exact ⟨some 0, ⟨⟨rfl, rfl⟩, trivial⟩, ⟨rfl, rowsE (by rw [patL, ← h5]; exact hy.symm)⟩, rfl⟩
  · have hn := hkn i (by rw [decide_eq_true_eq]; exact of_decide_eq_false h3)
    refine ⟨[1], false, _, _, hNx, by decide, rfl, rfl, ⟨⟨hfl, rfl, rfl⟩, trivial⟩, fun h4 => ?_, fun h4 => ?_⟩
    · have h5 := hkey h4
      exact ⟨i + 1, h5, by dsimp only; omega, ⟨rfl, rfl⟩, ⟨rfl, rfl, rfl, rfl, trivial⟩, rowE hn.symm, rowE (hnxi.2 h5), trivial⟩
    · have h5 : i + 1 = K ^ (g.getD 0 []).length := by have := of_decide_eq_false h4; omega
      exact ⟨some 0, ⟨⟨rfl, rfl⟩, trivial⟩, ⟨rfl, rowsE (by rw [patL, ← h5]; exact hn.symm)⟩, rfl⟩
/-- a group and few colors -/
def epB (g : List (List Int)) (k : Int) : Bool := gokB g && smallB (g.getD 0 []).length k
/-- spec.PatternsOf -/
theorem spec_PatternsOf_both (sh : Bool) (g : List (List Int)) (k : Int) (hl : g.length ≤ 1048576) (hx : ∀ i, i < g.length → (g.getD i []).length ≤ 1048576) (r : List AV) (rr : List Row)
    (hno : epB g k = false → r = [.nil, .d true .bool false] ∧ rr = []) (hyes : epB g k = true → r = [.ow 0, .d true .bool true] ∧ rr = [.sl 25 (.sl .int) (patL g k.toNat (g.getD 0 []).length)]) :
    AC Try.prog 77 [.d sh (.sl (.sl .int)) g, I k] [] r rr := by
  refine AC_of tauOk 26 0 [4, 5] Try.func77 rfl (by kernel_rfl) rfl rfl rfl rfl rfl ?_
  refine ⟨[], false, _, _, spec_GroupOk sh g hl hx, List.nodup_nil, rfl, rfl, trivial, fun h1 => ?_, fun h1 => ?_⟩
  · have hG := (gokB_iff g).1 h1
    have hg0 : 0 < g.length := by have := hG.l1; omega
    have hp0 := (gok1_p (hG.o1 0 hg0)).1.1
    refine ⟨[], false, _, _, spec_l01In _ _ _, List.nodup_nil, rfl, rfl, trivial, fun h2 => ?_, fun h2 => ?_⟩
    · simp only [Bool.and_eq_true, decide_eq_true_eq] at h2
      obtain ⟨K, rfl⟩ : ∃ K : Nat, k = (K : Int) := ⟨k.toNat, by omega⟩
      refine ⟨0, rfl, hg0, [], false, _, _, spec_l05Power K (g.getD 0 []).length (by omega) hp0.2, List.nodup_nil, rfl, rfl, trivial, fun h3 => ?_, fun h3 => ?_⟩
      · obtain ⟨rfl, rfl⟩ := hno (by rw [epB, h1, smallB, Int.toNat_natCast, decide_eq_false (show ¬ K ^ (g.getD 0 []).length ≤ 1024 by omega)]; simp)
        exact ⟨none, ⟨rfl, rfl, trivial⟩, rfl, rfl⟩
      · obtain ⟨rfl, rfl⟩ := hyes (by rw [epB, h1, smallB, Int.toNat_natCast, decide_eq_true (show K ^ (g.getD 0 []).length ≤ 1024 by omega), decide_eq_true (by omega), decide_eq_true (by omega)]; rfl)
        refine ⟨[], false, _, _, spec_l06Patterns sh g K hl h1 (by omega) (by omega), List.nodup_nil, rfl, rfl, trivial, ?_⟩
        exact ⟨some 0, ⟨⟨rfl, rfl⟩, rfl, trivial⟩, ⟨rfl, rfl⟩, rfl⟩
    · obtain ⟨rfl, rfl⟩ := hno (by rw [epB, smallB, h2]; simp)
      exact ⟨none, ⟨rfl, rfl, trivial⟩, rfl, rfl⟩
  · obtain ⟨rfl, rfl⟩ := hno (by rw [epB, h1]; rfl)
    exact ⟨none, ⟨rfl, rfl, trivial⟩, rfl, rfl⟩
/-- the patterns up to exchanged colors among the first i patterns -/
def exqS (g l : List (List Int)) (i : Nat) : List (List Int) := (l.take i).filter fun w => decide (cexL g w = w)
theorem exqS_y {g l : List (List Int)} {i : Nat} (hi : i < l.length) (h : cexL g (l.getD i []) = l.getD i []) : exqS g l (i + 1) = exqS g l i ++ [l.getD i []] := by
  rw [exqS, L_succ _ i [] hi, List.filter_append, List.filter_cons_of_pos (by rw [decide_eq_true_eq]; exact h)]; rfl
theorem exqS_n {g l : List (List Int)} {i : Nat} (hi : i < l.length) (h : ¬ cexL g (l.getD i []) = l.getD i []) : exqS g l (i + 1) = exqS g l i := by
  rw [exqS, L_succ _ i [] hi, List.filter_append, List.filter_cons_of_neg (by rw [decide_eq_true_eq]; exact h)]; simp [exqS]
theorem exqS_le (g l : List (List Int)) (i : Nat) : (exqS g l i).length ≤ i := Nat.le_trans (List.length_filter_le _ _) (by rw [List.length_take]; omega)
/-- spec.ExchangePatterns -/
theorem spec_ExchangePatterns_both (sh : Bool) (g : List (List Int)) (k : Int) (hl : g.length ≤ 1048576) (hx : ∀ i, i < g.length → (g.getD i []).length ≤ 1048576) (r : List AV) (rr : List Row)
    (hno : epB g k = false → r = [.nil, .d true .bool false] ∧ rr = []) (hyes : epB g k = true → r = [.ow 0, .d true .bool true] ∧ rr = [.sl 25 (.sl .int) (expL g k.toNat (g.getD 0 []).length)]) :
    AC Try.prog 36 [.d sh (.sl (.sl .int)) g, I k] [] r rr := by
  cases hE : epB g k
  · obtain ⟨rfl, rfl⟩ := hno hE
    refine AC_of tauOk 45 0 [4, 5] Try.func36 rfl (by kernel_rfl) rfl rfl rfl rfl rfl ?_
    refine ⟨[], true, _, _, spec_PatternsOf_both sh g k hl hx _ _ (fun _ => ⟨rfl, rfl⟩) (fun h => by rw [hE] at h; cases h), List.nodup_nil, rfl, rfl, trivial, nofun, fun _ => ?_⟩
    exact ⟨none, ⟨rfl, rfl, trivial⟩, rfl, rfl⟩
  · obtain ⟨rfl, rfl⟩ := hyes hE
    have hE2 := hE
    unfold epB smallB at hE2
    simp only [Bool.and_eq_true, decide_eq_true_eq] at hE2
    obtain ⟨hB, ⟨hk1, hk4⟩, hpw⟩ := hE2
    obtain ⟨K, rfl⟩ : ∃ K : Nat, k = (K : Int) := ⟨k.toNat, by omega⟩
    simp only [Int.toNat_natCast] at hpw ⊢
    have hG := (gokB_iff g).1 hB
    have hg0 : 0 < g.length := by have := hG.l1; omega
    have hp0 := (gok1_p (hG.o1 0 hg0)).1.1
    have hgp : ∀ i, i < g.length → PermP (g.getD i []) ∧ (g.getD i []).length = (g.getD 0 []).length := fun i hi => ⟨(gok1_p (hG.o1 i hi)).1, (gok1_p (hG.o1 i hi)).2.1⟩
    have hS := sym_ok K (by omega) (by omega)
    have hS2 := hS.l2
    have hpl : ∀ i, i < (patL g K (g.getD 0 []).length).length → (patL g K (g.getD 0 []).length).getD i [] ∈ wordsL K (g.getD 0 []).length := fun i hi => by
      have hm : (patL g K (g.getD 0 []).length).getD i [] ∈ patL g K (g.getD 0 []).length := by rw [getD_get _ _ _ hi]; exact List.getElem_mem hi
      have hm2 : (patL g K (g.getD 0 []).length).getD i [] ∈ (wordsL K (g.getD 0 []).length).filter fun w => decide (canL g w = w) := by rw [← patL_eq]; exact hm
      exact (List.mem_filter.1 hm2).1
    have hpll : (patL g K (g.getD 0 []).length).length ≤ 1024 := Nat.le_trans (kpt_len _ _ _ _) hpw
    have hcan : ∀ w ∈ wordsL K (g.getD 0 []).length, cexL g w = w → canL g w = w := fun w hw hc => by
      obtain ⟨h1, h2⟩ := words_b hw
      exact cex_canon (k := K) ⟨fun i hi => by rw [h1]; exact hgp i hi, ⟨fun i hi => by have := h2 i hi; omega, by omega, by omega⟩, by omega, by omega, fun i hi => (h2 i hi).2⟩ hc
    have hend : exqS g (patL g K (g.getD 0 []).length) (patL g K (g.getD 0 []).length).length = expL g K (g.getD 0 []).length := by
      rw [exqS, List.take_length, patL_eq, List.filter_filter, expL]
      refine List.filter_congr fun w hw => ?_
      by_cases h : cexL g w = w
      · rw [decide_eq_true h, decide_eq_true (hcan w hw h)]; rfl
      · rw [decide_eq_false h]; rfl
    have hPat := spec_PatternsOf_both sh g K hl hx [.ow 0, .d true .bool true] [.sl 25 (.sl .int) (patL g K (g.getD 0 []).length)] (fun h => by rw [hE] at h; cases h) (fun _ => ⟨rfl, by rw [Int.toNat_natCast]⟩)
    generalize patL g K (g.getD 0 []).length = l at *
    refine AC_of tauOk 45 0 [4, 5] Try.func36 rfl (by kernel_rfl) rfl rfl rfl rfl rfl ?_
    refine ⟨[], true, _, _, hPat, List.nodup_nil, rfl, rfl, trivial, fun _ => ?_, nofun⟩
    refine ⟨[], false, _, _, spec_SymmetricGroup K (by omega) (by omega), List.nodup_nil, rfl, rfl, trivial, fun _ => ?_, nofun⟩
    refine ⟨rfl, by decide, true, ?_⟩
    refine ⟨Nat, fun i => ⟨[(0, .d sh (.sl (.sl .int)) g), (8, .d true (.sl (.sl .int)) (symL K)), (10, .ow 0), (27, .d true (.sl (.sl .int)) l), (28, I l.length), (29, I (i : Nat))], [.sl 25 (.sl .int) (exqS g l i)]⟩, fun i => i ≤ l.length, fun i => l.length - i, 0, Nat.zero_le _,
      ⟨⟨rfl, rfl⟩, ⟨rfl, rfl, rfl, rfl, rfl, rfl, trivial⟩, rowE (by simp [exqS]), trivial⟩, fun i hi => ?_⟩
    dsimp only at hi
    have hle := exqS_le g l i
    refine ⟨fun h2 => ?_, fun h2 => ?_⟩
    · have hi2 : i < l.length := by omega
      obtain ⟨hw1, hw2⟩ := words_b (hpl i hi2)
      have hcol : ColP (l.getD i []) := ⟨fun j hj => by have := hw2 j hj; omega, by omega, by omega⟩
      have hC : CxP g K (l.getD i []) := ⟨fun a ha => by rw [hw1]; exact hgp a ha, hcol, by omega, by omega, fun j hj => (hw2 j hj).2⟩
      have hsame := cex_same hC
      have hcl : (cexS g (symL K) (l.getD i [])).length = (l.getD i []).length := cexS_len _
      refine ⟨i, rfl, hi2, ?_⟩
      refine ⟨[], false, _, _, spec_l13Canon sh true true g (symL K) (l.getD i []) hC.g hl hcol (by omega) fun j hj => ?_, List.nodup_nil, rfl, rfl, trivial, ?_⟩
      · obtain ⟨q1, q2⟩ := sym_get (k := K) (by omega) (by omega) hj
        exact ⟨q1, by omega, fun q hq => by rw [q2]; exact (hw2 q hq).2⟩
      refine ⟨[], false, _, _, spec_l03Same true true (cexS g (symL K) (l.getD i [])) (l.getD i []) (by omega) (by omega), List.nodup_nil, rfl, rfl, trivial, fun h3 => ?_, fun h3 => ?_⟩
      · have h3 := of_decide_eq_true h3
        rw [hsame] at h3
        refine ⟨rfl, by decide, false, rfl, Nat.zero_le _, rfl, by simp only [List.length_cons, List.length_nil]; omega, rfl, ?_⟩
        exact ⟨((i + 1 : Nat) : Int), w64_eq (by omega) (by omega) (by omega), i + 1, by dsimp only; omega, by dsimp only; omega, ⟨rfl, rfl⟩, ⟨rfl, rfl, rfl, rfl, rfl, rfl, trivial⟩, rowE (exqS_y hi2 h3).symm, trivial⟩
      · have h3 := of_decide_eq_false h3
        rw [hsame] at h3
        exact ⟨((i + 1 : Nat) : Int), w64_eq (by omega) (by omega) (by omega), i + 1, by dsimp only; omega, by dsimp only; omega, ⟨rfl, rfl⟩, ⟨rfl, rfl, rfl, rfl, rfl, rfl, trivial⟩, rowE (exqS_n hi2 h3).symm, trivial⟩
    · obtain rfl : i = l.length := by omega
      exact ⟨some 0, ⟨⟨rfl, rfl⟩, rfl, trivial⟩, ⟨rfl, rowsE hend⟩, rfl⟩
end Go.Proofs.Ytbnonelkdgkpdaa
