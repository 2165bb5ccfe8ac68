/-
  Contracts of the functions that count graphs.
-/
import Derived.Test.YtcamhpknmbohnaaPls
import Derived.Test.YtcamhpknmbohnaaWcan
import Derived.Test.YtcamhpknmbohnaaWcyc
set_option linter.unusedVariables false
namespace Go.Proofs.Ytcamhpknmbohnaa
open Go Go.Proofs.Ytcamhpknmbohnaa.Ow
theorem set_back (l : List Int) (i : Nat) (v : Int) (hi : i < l.length) : (l.set i v).set i (l.getD i 0) = l := by
  rw [List.set_set, getD_get _ _ _ hi]
  exact List.set_getElem_self hi
/-- impl.ways -/
theorem impl_ways (e : Nat) : ∀ (cs : List (List Int)) (s : Bool) (left : List Int), left.length = 2 → cs.length ≤ 10 → (∀ i, i < cs.length → (cs.getD i []).length ≤ 10) → (∀ i, i < 2 → 0 ≤ left.getD i 0 ∧ left.getD i 0 ≤ 10) →
    AC Try.prog 154 [.d s (.sl (.sl .int)) cs, .ow 0] [.sl e .int left] [I (waysN cs left : Nat)] [.sl e .int left]
  | [], s, left, hl, _, _, _ => by
    refine AC_of tauOk 52 1 [4] Try.func154 rfl (by kernel_rfl) rfl rfl rfl rfl rfl ?_
    refine ⟨fun _ => ?_, fun h => (h rfl).elim⟩
    exact ⟨none, ⟨rfl, trivial⟩, rfl, rfl⟩
  | c :: cs, s, left, hl, hcl, hcc, hle => by
    have hd : List.drop 1 (List.take (c :: cs).length (c :: cs)) = cs := by rw [List.take_length]; rfl
    have hc0 : c.length ≤ 10 := hcc 0 (by simp)
    have hcs : cs.length ≤ 9 := by simp at hcl; omega
    have hB := waysN_le 2 cs
    have hB2 : 2 ^ cs.length ≤ 512 := Nat.le_trans (Nat.pow_le_pow_right (by decide) hcs) (by decide)
    have hsum : ∀ j, j ≤ 2 → sumTo (fun i => if (c.length : Int) ≤ left.getD i 0 then waysN cs (left.set i (left.getD i 0 - c.length)) else 0) j ≤ j * 512 := fun j hj => sumTo_le _ _ _ fun i hi => by
      split
      · exact Nat.le_trans (hB _ (by rw [List.length_set]; exact hl)) hB2
      · exact Nat.zero_le _
    have hlen : (c :: cs).length = cs.length + 1 := rfl
    refine AC_of tauOk 52 1 [4] Try.func154 rfl (by kernel_rfl) rfl rfl rfl rfl rfl ?_
    refine ⟨fun h => by omega, fun _ => ?_⟩
    refine ⟨Nat, fun j => ⟨[(0, .d s (.sl (.sl .int)) (c :: cs)), (1, .ow 0), (5, I (sumTo (fun i => if (c.length : Int) ≤ left.getD i 0 then waysN cs (left.set i (left.getD i 0 - c.length)) else 0) j : Nat)), (11, I left.length), (12, I (j : Nat))], [.sl e .int left]⟩, fun j => j ≤ 2, fun j => 2 - j, 0, Nat.zero_le _,
      ⟨⟨rfl, rfl⟩, ⟨rfl, rfl, rfl, rfl, rfl, trivial⟩, rfl, trivial⟩, fun j hj => ?_⟩
    dsimp only at hj
    have hsj := hsum j hj
    refine ⟨fun h2 => ?_, fun h2 => ?_⟩
    · have hj2 : j < left.length := by omega
      have hb := hle j (by omega)
      have hsj1 := hsum (j + 1) (by omega)
      refine ⟨none, by kernel_rfl, j, rfl, hj2, 0, rfl, by omega, fun h3 => ?_, fun h3 => ?_⟩
      · have h3 : (c.length : Int) ≤ left.getD j 0 := h3
        have e1 : sumTo (fun i => if (c.length : Int) ≤ left.getD i 0 then waysN cs (left.set i (left.getD i 0 - c.length)) else 0) (j + 1) = sumTo (fun i => if (c.length : Int) ≤ left.getD i 0 then waysN cs (left.set i (left.getD i 0 - c.length)) else 0) j + waysN cs (left.set j (left.getD j 0 - c.length)) := by
          rw [sumTo, if_pos h3]
        have hW : AC Try.prog 154 [.d s (.sl (.sl .int)) (List.drop 1 (List.take (c :: cs).length (c :: cs))), .ow 0] [.sl e .int (left.set j (left.getD j 0 - c.length))] [I (waysN cs (left.set j (left.getD j 0 - c.length)) : Nat)] [.sl e .int (left.set j (left.getD j 0 - c.length))] := by
          rw [hd]
          refine impl_ways e cs s _ (by rw [List.length_set]; exact hl) (by omega) (fun i hi => hcc (i + 1) (by omega)) fun i hi => ?_
          by_cases e2 : j = i
          · subst e2; rw [L_set_self _ _ _ _ hj2]; omega
          · rw [L_set_ne _ _ _ _ _ e2]; exact hle i hi
        have hbw := hB (left.set j (left.getD j 0 - c.length)) (by rw [List.length_set]; exact hl)
        refine ⟨some 10, by kernel_rfl, j, rfl, hj2, 0, rfl, by omega, left.getD j 0 - c.length, w64_eq rfl (by omega) (by omega), j, rfl, hj2, ?_⟩
        refine ⟨1, rfl, by omega, Nat.le_refl _, ?_⟩
        refine ⟨[0], false, _, _, hW, by decide, rfl, rfl, ⟨⟨rfl, rfl, rfl⟩, trivial⟩, ?_⟩
        refine ⟨((sumTo (fun i => if (c.length : Int) ≤ left.getD i 0 then waysN cs (left.set i (left.getD i 0 - c.length)) else 0) (j + 1) : Nat) : Int), w64_eq (by rw [e1]; omega) (by omega) (by omega), ?_⟩
        have hj3 : j < (left.set j (left.getD j 0 - c.length)).length := by rw [List.length_set]; exact hj2
        refine ⟨some 10, by kernel_rfl, j, rfl, hj3, 0, rfl, by omega, left.getD j 0, w64_eq (by rw [L_set_self _ _ _ _ hj2]; show _ = _ - _ + ((c.length : Nat) : Int); omega) (by omega) (by omega), j, rfl, hj3, ?_⟩
        exact ⟨((j + 1 : Nat) : Int), w64_eq (by omega) (by omega) (by omega), j + 1, by dsimp only; omega, by dsimp only; omega, ⟨rfl, rfl⟩, ⟨rfl, rfl, rfl, rfl, rfl, trivial⟩, rowE (set_back left j _ hj2), trivial⟩
      · have h3 : ¬ (c.length : Int) ≤ left.getD j 0 := h3
        have e1 : sumTo (fun i => if (c.length : Int) ≤ left.getD i 0 then waysN cs (left.set i (left.getD i 0 - c.length)) else 0) (j + 1) = sumTo (fun i => if (c.length : Int) ≤ left.getD i 0 then waysN cs (left.set i (left.getD i 0 - c.length)) else 0) j := by
          rw [sumTo, if_neg h3, Nat.add_zero]
        exact ⟨((j + 1 : Nat) : Int), w64_eq (by omega) (by omega) (by omega), j + 1, by dsimp only; omega, by dsimp only; omega, ⟨rfl, rfl⟩, ⟨rfl, rfl, retI (by rw [e1]), rfl, rfl, trivial⟩, rfl, trivial⟩
    · obtain rfl : j = 2 := by omega
      exact ⟨none, ⟨retI (by rw [waysN, hl]), trivial⟩, rfl, rfl⟩
/-- contents of two colors -/
structure ConP (l : List Int) (m : Nat) : Prop where
  l2 : l.length = 2
  el : ∀ i, i < 2 → 0 ≤ l.getD i 0 ∧ l.getD i 0 ≤ 10
  su : l.getD 0 0 + l.getD 1 0 = (m : Int)
theorem con_of (m e : Nat) (hm : m ≤ 10) (he : e ≤ m) : ConP [((m - e : Nat) : Int), (e : Int)] m := by
  refine ⟨rfl, fun i hi => ?_, ?_⟩
  · have : i = 0 ∨ i = 1 := by omega
    rcases this with rfl | rfl
    · show 0 ≤ ((m - e : Nat) : Int) ∧ ((m - e : Nat) : Int) ≤ 10; omega
    · show 0 ≤ (e : Int) ∧ (e : Int) ≤ 10; omega
  · show ((m - e : Nat) : Int) + (e : Int) = (m : Int); omega
def conF (l : List Int) : Nat → Int
  | 0 => 0
  | k + 1 => conF l k + l.getD k 0
/-- impl.contentsOk -/
theorem impl_contentsOk (s : Bool) (l : List Int) (m : Nat) (h : ConP l m) : AC Try.prog 153 [.d s (.sl .int) l, I (m : Nat)] [] [.d true .bool true] [] := by
  have hl := h.l2
  refine AC_of tauOk 30 0 [4] Try.func153 rfl (by kernel_rfl) rfl rfl rfl rfl rfl ?_
  refine ⟨fun h => by omega, fun _ => ?_⟩
  refine ⟨Nat, fun k => ⟨[(1, I (m : Nat)), (5, I (conF l k)), (11, .d s (.sl .int) l), (12, I l.length), (13, I (k : Nat))], []⟩, fun k => k ≤ 2 ∧ (0 ≤ conF l k ∧ conF l k ≤ 20), fun k => 2 - k, 0, ⟨Nat.zero_le _, Int.le_refl 0, (by decide : (0 : Int) ≤ 20)⟩,
    ⟨⟨rfl, rfl⟩, ⟨rfl, rfl, rfl, rfl, rfl, trivial⟩, trivial⟩, fun k ⟨hk, hc⟩ => ?_⟩
  refine ⟨fun h2 => ?_, fun h2 => ?_⟩
  · have hk2 : k < l.length := by omega
    have hb := h.el k (by omega)
    refine ⟨k, rfl, hk2, fun h3 => by omega, fun _ => ?_⟩
    refine ⟨fun h3 => by omega, fun _ => ?_⟩
    refine ⟨conF l (k + 1), w64_eq rfl (by rw [conF]; omega) (by rw [conF]; omega), ?_⟩
    refine ⟨((k + 1 : Nat) : Int), w64_eq (by omega) (by omega) (by omega), k + 1, ⟨by omega, ?_⟩, by dsimp only; omega, ⟨rfl, rfl⟩, ⟨rfl, rfl, rfl, rfl, rfl, trivial⟩, trivial⟩
    have : k = 0 ∨ k = 1 := by omega
    have h0 := h.el 0 (by omega)
    have h1 := h.el 1 (by omega)
    rcases this with rfl | rfl
    · simp only [conF]; omega
    · simp only [conF]; omega
  · obtain rfl : k = 2 := by omega
    have e : conF l 2 = (m : Int) := by have := h.su; simp only [conF]; omega
    exact ⟨fun _ => ⟨none, ⟨rfl, trivial⟩, rfl, rfl⟩, fun h3 => (h3 e).elim⟩
theorem cyc_small {q : List Int} (hq : PermP q) : (cycL q).length ≤ 10 ∧ ∀ i, i < (cycL q).length → ((cycL q).getD i []).length ≤ 10 := by
  have hl := hq.1
  have h := cyc_ok q (permR hq) q.length (Nat.le_refl _)
  refine ⟨Nat.le_trans h.2.1 hl.2, fun i hi => ?_⟩
  rw [getD_get _ _ _ hi]
  have := (h.2.2 _ (List.getElem_mem hi)).2.1
  omega
/-- impl.CountFixed of two colors -/
theorem impl_CountFixed (s1 s2 : Bool) (q l : List Int) (hq : PermP q) (hl : ConP l q.length) : AC Try.prog 98 [.d s1 (.sl .int) q, .d s2 (.sl .int) l] [] [I (waysN (cycL q) l : Nat)] [] := by
  have hs := cyc_small hq
  have hl2 := hl.l2
  have hq1 := hq.1
  refine AC_of tauOk 20 0 [4] Try.func98 rfl (by kernel_rfl) rfl rfl rfl rfl rfl ?_
  refine ⟨[], false, _, _, impl_PermOk s1 q (by omega), List.nodup_nil, rfl, rfl, trivial, fun _ => ?_, fun h => by rw [(permB_iff q).2 hq] at h; cases h⟩
  refine ⟨[], false, _, _, impl_contentsOk s2 l q.length hl, List.nodup_nil, rfl, rfl, trivial, fun _ => ?_, nofun⟩
  refine ⟨[], true, _, _, impl_CyclesOf s1 q hq, List.nodup_nil, rfl, rfl, trivial, ?_⟩
  refine ⟨[], false, _, _, slices_Clone_int s2 l (by omega) (by intro e; rw [e] at hl2; cases hl2), List.nodup_nil, rfl, rfl, trivial, ?_⟩
  refine ⟨[0], false, _, _, impl_ways 3 (cycL q) true l hl2 hs.1 hs.2 hl.el, by decide, rfl, rfl, ⟨⟨rfl, rfl, rfl⟩, trivial⟩, ?_⟩
  exact ⟨none, ⟨rfl, trivial⟩, rfl, rfl⟩
structure CgOk (n : Nat) : Prop where
  p : ∀ k, k < (actsL n).length → PermP ((actsL n).getD k []) ∧ ((actsL n).getD k []).length = cp n
  e : sumTo (cgwN n) (cp n + 1) = cgpN n / (actsL n).length
theorem cg_ok (n : Nat) (hn : n < 6) (h2 : 2 ≤ n) : CgOk n := by
  have h := cg_all n hn h2
  unfold cgCheck at h
  simp only [Bool.and_eq_true, decide_eq_true_eq, List.all_eq_true] at h
  refine ⟨fun k hk => ?_, h.2⟩
  rw [getD_get _ _ _ hk]
  have := h.1 _ (List.getElem_mem hk)
  exact ⟨(permB_iff _).1 this.1, this.2⟩
theorem ways_le {q l : List Int} (hq : PermP q) (hl : l.length = 2) : waysN (cycL q) l ≤ 1024 :=
  Nat.le_trans (waysN_le 2 (cycL q) l hl) (Nat.le_trans (Nat.pow_le_pow_right (by decide) (cyc_small hq).1) (by decide))
theorem cgs_le (n e : Nat) (hG : CgOk n) : ∀ k, k ≤ (actsL n).length → sumTo (fun k => waysN (cycL ((actsL n).getD k [])) [((cp n - e : Nat) : Int), (e : Int)]) k ≤ k * 1024 := fun k hk =>
  sumTo_le _ _ _ fun i hi => ways_le (hG.p i (by omega)).1 rfl
theorem cgw_le (n e : Nat) (hG : CgOk n) (h : (actsL n).length ≤ 120) : cgwN n e ≤ 122880 := by
  have h1 : cgwN n e ≤ cgsN n e := Nat.div_le_self _ _
  have h2 := cgs_le n e hG (actsL n).length (Nat.le_refl _)
  unfold cgsN at h1
  omega
/-- impl.CountGraphsWith -/
theorem impl_CountGraphsWith (n e : Int) : AC Try.prog 37 [I n, I e] [] [I (cgwI n e)] [] := by
  refine AC_of tauOk 53 0 [4] Try.func37 rfl (by kernel_rfl) rfl rfl rfl rfl rfl ?_
  refine ⟨[], false, _, _, impl_isVertices _, List.nodup_nil, rfl, rfl, trivial, fun h => ?_, fun h => ?_⟩
  · have h := of_decide_eq_true h
    obtain ⟨N, rfl⟩ : ∃ N : Nat, n = (N : Int) := ⟨n.toNat, by omega⟩
    have hcp := cp_le N (by omega)
    have e0 : cgwI (N : Int) e = (if 0 ≤ e ∧ e ≤ ((cp N : Nat) : Int) then (if (N : Int) = 1 then 1 else ((cgwN N e.toNat : Nat) : Int)) else 0) := by rw [cgwI, if_pos h, Int.toNat_natCast]
    rw [e0]
    refine ⟨[], false, _, _, impl_countPairs N (by omega) (by omega), List.nodup_nil, rfl, rfl, trivial, ?_⟩
    refine ⟨fun h2 => ?_, fun h2 => ?_⟩
    · exact ⟨none, ⟨retI (by rw [if_neg (fun e => by omega)]), trivial⟩, rfl, rfl⟩
    refine ⟨fun h3 => ?_, fun h3 => ?_⟩
    · exact ⟨none, ⟨retI (by rw [if_neg (fun e => by omega)]), trivial⟩, rfl, rfl⟩
    rw [if_pos (show 0 ≤ e ∧ e ≤ ((cp N : Nat) : Int) by omega)]
    refine ⟨fun h4 => ?_, fun h4 => ?_⟩
    · exact ⟨none, ⟨retI (by rw [if_pos h4]), trivial⟩, rfl, rfl⟩
    rw [if_neg h4]
    obtain ⟨E, rfl⟩ : ∃ E : Nat, e = (E : Int) := ⟨e.toNat, by omega⟩
    rw [Int.toNat_natCast]
    have hS := sym_ok N (by omega) (by omega)
    have hG := cg_ok N (by omega) (by omega)
    have hal := actsL_len N
    have hl1 := hS.l1
    have hl2 := hS.l2
    have hC := con_of (cp N) E hcp.1 (by omega)
    have hB := cgs_le N E hG
    refine ⟨[], true, _, _, impl_renamings N (by omega) (by omega), List.nodup_nil, rfl, rfl, trivial, ?_⟩
    refine ⟨Nat, fun k => ⟨[(1, I (E : Nat)), (5, I (cp N : Nat)), (6, I (sumTo (fun k => waysN (cycL ((actsL N).getD k [])) [((cp N - E : Nat) : Int), (E : Int)]) k : Nat)), (7, .d true (.sl (.sl .int)) (symL N)), (28, .d true (.sl (.sl .int)) (symL N)), (29, I (symL N).length), (30, I (k : Nat))], []⟩, fun k => k ≤ (symL N).length, fun k => (symL N).length - k, 0, Nat.zero_le _,
      ⟨⟨rfl, rfl⟩, ⟨rfl, rfl, rfl, rfl, rfl, rfl, rfl, trivial⟩, trivial⟩, fun k hk => ?_⟩
    dsimp only at hk
    have hBk := hB k (by omega)
    refine ⟨fun h5 => ?_, fun h5 => ?_⟩
    · have hk2 : k < (symL N).length := by omega
      obtain ⟨hP, hlp⟩ := symL_get hS k hk2
      have hq := hG.p k (by omega)
      have hact := actsL_get N k hk2
      have hBk1 := hB (k + 1) (by omega)
      have hw := ways_le hq.1 (l := [((cp N - E : Nat) : Int), (E : Int)]) rfl
      refine ⟨k, rfl, hk2, ?_⟩
      refine ⟨[], true, _, _, impl_PairAction true ((symL N).getD k []) hP (by omega) (by omega), List.nodup_nil, rfl, rfl, trivial, fun _ => ?_, nofun⟩
      refine ⟨((cp N - E : Nat) : Int), w64_eq (by omega) (by omega) (by omega), ?_⟩
      refine ⟨rfl, by decide, false, ?_⟩
      rw [← hact]
      refine ⟨[], false, _, _, impl_CountFixed true true ((actsL N).getD k []) [((cp N - E : Nat) : Int), (E : Int)] hq.1 (by rw [hq.2]; exact hC), List.nodup_nil, rfl, rfl, trivial, ?_⟩
      refine ⟨((sumTo (fun k => waysN (cycL ((actsL N).getD k [])) [((cp N - E : Nat) : Int), (E : Int)]) (k + 1) : Nat) : Int), w64_eq (by rw [sumTo]; omega) (by omega) (by omega), ?_⟩
      exact ⟨((k + 1 : Nat) : Int), w64_eq (by omega) (by omega) (by omega), k + 1, by dsimp only; omega, by dsimp only; omega, ⟨rfl, rfl⟩, ⟨rfl, rfl, rfl, rfl, rfl, rfl, rfl, trivial⟩, trivial⟩
    · obtain rfl : k = (symL N).length := by omega
      have hcw := cgw_le N E hG (by omega)
      refine ⟨by omega, ((cgwN N E : Nat) : Int), w64_eq (by unfold cgwN cgsN; rw [hal]; exact Int.ofNat_tdiv _ _) (Int.le_trans (by decide) (Int.natCast_nonneg _)) (by omega), ?_⟩
      exact ⟨none, ⟨rfl, trivial⟩, rfl, rfl⟩
  · have h := of_decide_eq_false h
    exact ⟨none, ⟨retI (by rw [cgwI, if_neg h]), trivial⟩, rfl, rfl⟩
/-- impl.CountGraphs -/
theorem impl_CountGraphs (n : Int) : AC Try.prog 35 [I n] [] [I (cgI n)] [] := by
  refine AC_of tauOk 21 0 [2] Try.func35 rfl (by kernel_rfl) rfl rfl rfl rfl rfl ?_
  refine ⟨[], false, _, _, impl_isVertices _, List.nodup_nil, rfl, rfl, trivial, fun h => ?_, fun h => ?_⟩
  · have h := of_decide_eq_true h
    obtain ⟨N, rfl⟩ : ∃ N : Nat, n = (N : Int) := ⟨n.toNat, by omega⟩
    have hcp := cp_le N (by omega)
    have e0 : cgI (N : Int) = (if (N : Int) = 1 then 1 else ((sumTo (cgwN N) (cp N + 1) : Nat) : Int)) := by rw [cgI, if_pos h, Int.toNat_natCast]
    by_cases h1 : N = 1
    · subst h1
      have e9 : cgI ((1 : Nat) : Int) = 1 := rfl
      rw [e9]
      refine ⟨[], false, _, _, impl_countPairs 1 (by omega) (by omega), List.nodup_nil, rfl, rfl, trivial, ((cp 1 + 1 : Nat) : Int), w64_eq (by omega) (by omega) (by omega), ?_⟩
      refine ⟨Nat, fun k => ⟨[(0, I 1), (3, I (k : Nat)), (10, I (cp 1 + 1 : Nat)), (11, I (k : Nat))], []⟩, fun k => k ≤ 1, fun k => 1 - k, 0, Nat.zero_le _,
        ⟨⟨rfl, rfl⟩, ⟨rfl, rfl, rfl, rfl, trivial⟩, trivial⟩, fun k hk => ?_⟩
      dsimp only at hk
      have h10 : cp 1 + 1 = 1 := rfl
      refine ⟨fun h5 => ?_, fun h5 => ?_⟩
      · obtain rfl : k = 0 := by omega
        refine ⟨[], false, _, _, impl_CountGraphsWith 1 0, List.nodup_nil, rfl, rfl, trivial, ?_⟩
        have e1 : cgwI 1 0 = 1 := rfl
        rw [e1]
        refine ⟨1, rfl, ?_⟩
        exact ⟨1, rfl, 1, by decide, by decide, ⟨rfl, rfl⟩, ⟨rfl, rfl, rfl, rfl, trivial⟩, trivial⟩
      · obtain rfl : k = 1 := by omega
        exact ⟨none, ⟨rfl, trivial⟩, rfl, rfl⟩
    · have hS := sym_ok N (by omega) (by omega)
      have hG := cg_ok N (by omega) (by omega)
      have hal := actsL_len N
      have hl2 := hS.l2
      have hsm := fun j => sumTo_le (cgwN N) 122880 j fun i _ => cgw_le N i hG (by omega)
      rw [e0, if_neg (by omega)]
      refine ⟨[], false, _, _, impl_countPairs N (by omega) (by omega), List.nodup_nil, rfl, rfl, trivial, ((cp N + 1 : Nat) : Int), w64_eq (by omega) (by omega) (by omega), ?_⟩
      refine ⟨Nat, fun k => ⟨[(0, I (N : Nat)), (3, I (sumTo (cgwN N) k : Nat)), (10, I (cp N + 1 : Nat)), (11, I (k : Nat))], []⟩, fun k => k ≤ cp N + 1, fun k => cp N + 1 - k, 0, Nat.zero_le _,
        ⟨⟨rfl, rfl⟩, ⟨rfl, rfl, rfl, rfl, trivial⟩, trivial⟩, fun k hk => ?_⟩
      dsimp only at hk
      have hsk := hsm k
      have hsk1 := hsm (k + 1)
      refine ⟨fun h5 => ?_, fun h5 => ?_⟩
      · have e1 : cgwI (N : Int) (k : Int) = ((cgwN N k : Nat) : Int) := by
          rw [cgwI, if_pos h, if_pos (by rw [Int.toNat_natCast]; omega), if_neg (by omega), Int.toNat_natCast, Int.toNat_natCast]
        refine ⟨[], false, _, _, impl_CountGraphsWith (N : Int) (k : Int), List.nodup_nil, rfl, rfl, trivial, ?_⟩
        rw [e1]
        refine ⟨((sumTo (cgwN N) (k + 1) : Nat) : Int), w64_eq (by rw [sumTo]; omega) (by omega) (by omega), ?_⟩
        exact ⟨((k + 1 : Nat) : Int), w64_eq (by omega) (by omega) (by omega), k + 1, by dsimp only; omega, by dsimp only; omega, ⟨rfl, rfl⟩, ⟨rfl, rfl, rfl, rfl, trivial⟩, trivial⟩
      · obtain rfl : k = cp N + 1 := by omega
        exact ⟨none, ⟨rfl, trivial⟩, rfl, rfl⟩
  · have h := of_decide_eq_false h
    exact ⟨none, ⟨retI (by rw [cgI, if_neg h]), trivial⟩, rfl, rfl⟩
def ccN (q : List Int) : Nat := if permB q = true then (cycL q).length else 0
theorem ccN_le (q : List Int) : ccN q ≤ 10 := by
  unfold ccN
  split
  · rename_i h; exact (cyc_small ((permB_iff q).1 h)).1
  · omega
theorem spec_CyclesOf_no (s : Bool) (q : List Int) (hl : q.length ≤ 1048576) (h : permB q = false) : AC Try.prog 109 [.d s (.sl .int) q] [] [.nil] [] := by
  refine AC_of tauOk 48 0 [2] Try.func109 rfl (by kernel_rfl) rfl rfl rfl rfl rfl ?_
  refine ⟨[], false, _, _, spec_PermOk s q hl, List.nodup_nil, rfl, rfl, trivial, fun e => (by rw [h] at e; cases e), fun _ => ?_⟩
  exact ⟨none, ⟨rfl, trivial⟩, rfl, rfl⟩
/-- spec.CountCycles -/
theorem spec_CountCycles (s : Bool) (q : List Int) (hl : q.length ≤ 1048576) : AC Try.prog 170 [.d s (.sl .int) q] [] [I (ccN q : Nat)] [] := by
  cases h : permB q
  · refine AC_of tauOk 6 0 [2] Try.func170 rfl (by kernel_rfl) rfl rfl rfl rfl rfl ?_
    refine ⟨[], false, _, _, spec_CyclesOf_no s q hl h, List.nodup_nil, rfl, rfl, trivial, ?_⟩
    exact ⟨none, ⟨retI (by rw [ccN, h]; rfl), trivial⟩, rfl, rfl⟩
  · refine AC_of tauOk 6 0 [2] Try.func170 rfl (by kernel_rfl) rfl rfl rfl rfl rfl ?_
    refine ⟨[], true, _, _, spec_CyclesOf s q ((permB_iff q).1 h), List.nodup_nil, rfl, rfl, trivial, ?_⟩
    exact ⟨none, ⟨retI (by rw [ccN, h]; rfl), trivial⟩, rfl, rfl⟩
/-- spec.l05Power of two -/
theorem spec_l05Power2 (c : Nat) (hc : c ≤ 10) : AC Try.prog 169 [I 2, I (c : Nat)] [] [I (2 ^ c : Nat)] [] := by
  have hp : ∀ k, k ≤ c → 2 ^ k ≤ 1024 := fun k hk => Nat.le_trans (Nat.pow_le_pow_right (by decide) (show k ≤ 10 by omega)) (by decide)
  refine AC_of tauOk 16 0 [4] Try.func169 rfl (by kernel_rfl) rfl rfl rfl rfl rfl ?_
  refine ⟨Nat, fun k => ⟨[(0, I 2), (1, I (c : Nat)), (5, I (2 ^ k : Nat)), (6, I (k : Nat))], []⟩, fun k => k ≤ c, fun k => c - k, 0, Nat.zero_le _,
    ⟨⟨rfl, rfl⟩, ⟨rfl, rfl, rfl, rfl, trivial⟩, trivial⟩, fun k hk => ?_⟩
  dsimp only at hk
  refine ⟨fun h2 => ?_, fun h2 => ?_⟩
  · have := hp (k + 1) (by omega)
    refine ⟨((2 ^ (k + 1) : Nat) : Int), w64_eq (by rw [Nat.pow_succ, Int.natCast_mul]; rfl) (Int.le_trans (by decide) (Int.natCast_nonneg _)) (by omega), ?_⟩
    exact ⟨((k + 1 : Nat) : Int), w64_eq (by omega) (by omega) (by omega), k + 1, by dsimp only; omega, by dsimp only; omega, ⟨rfl, rfl⟩, ⟨rfl, rfl, rfl, rfl, trivial⟩, trivial⟩
  · obtain rfl : k = c := by omega
    exact ⟨none, ⟨rfl, trivial⟩, rfl, rfl⟩
theorem cg_one : sumTo (fun k => 2 ^ ccN ((actsL 1).getD k [])) (actsL 1).length / (actsL 1).length = 1 := by decide +kernel
theorem cg_eq (n : Nat) (h1 : 1 ≤ n) (hn : n < 6) : ((sumTo (fun k => 2 ^ ccN ((actsL n).getD k [])) (actsL n).length / (actsL n).length : Nat) : Int) = cgI n := by
  unfold cgI
  rw [if_pos (by omega), Int.toNat_natCast]
  by_cases h : n = 1
  · subst h
    rw [cg_one]; rfl
  · rw [if_neg (by omega)]
    have hG := cg_ok n hn (by omega)
    rw [hG.e]
    have : ∀ j, j ≤ (actsL n).length → sumTo (fun k => 2 ^ ccN ((actsL n).getD k [])) j = sumTo (fun k => 2 ^ (cycL ((actsL n).getD k [])).length) j := by
      intro j
      induction j with
      | zero => intro _; rfl
      | succ j ih =>
        intro hj
        rw [sumTo, sumTo, ih (by omega), ccN, if_pos ((permB_iff _).2 (hG.p j (by omega)).1)]
    rw [this _ (Nat.le_refl _)]
    rfl
/-- spec.l05Contents -/
theorem spec_l05Contents (s : Bool) (l : List Int) (m : Nat) (h : ConP l m) : AC Try.prog 175 [I (m : Nat), .d s (.sl .int) l] [] [.d true .bool true] [] := by
  have hl := h.l2
  refine AC_of tauOk 27 0 [4] Try.func175 rfl (by kernel_rfl) rfl rfl rfl rfl rfl ?_
  refine ⟨fun h => by omega, fun _ => ?_⟩
  refine ⟨Nat, fun k => ⟨[(0, I (m : Nat)), (5, I (conF l k)), (11, .d s (.sl .int) l), (12, I l.length), (13, I (k : Nat))], []⟩, fun k => k ≤ 2 ∧ (0 ≤ conF l k ∧ conF l k ≤ 20), fun k => 2 - k, 0, ⟨Nat.zero_le _, Int.le_refl 0, (by decide : (0 : Int) ≤ 20)⟩,
    ⟨⟨rfl, rfl⟩, ⟨rfl, rfl, rfl, rfl, rfl, trivial⟩, trivial⟩, fun k ⟨hk, hc⟩ => ?_⟩
  refine ⟨fun h2 => ?_, fun h2 => ?_⟩
  · have hk2 : k < l.length := by omega
    have hb := h.el k (by omega)
    refine ⟨k, rfl, hk2, [], false, _, _, spec_l01In _ _ _, List.nodup_nil, rfl, rfl, trivial, fun _ => ?_, fun h3 => by simp only [Bool.and_eq_false_iff, decide_eq_false_iff_not] at h3; omega⟩
    refine ⟨conF l (k + 1), w64_eq rfl (by rw [conF]; omega) (by rw [conF]; omega), ?_⟩
    refine ⟨((k + 1 : Nat) : Int), w64_eq (by omega) (by omega) (by omega), k + 1, ⟨by omega, ?_⟩, by dsimp only; omega, ⟨rfl, rfl⟩, ⟨rfl, rfl, rfl, rfl, rfl, trivial⟩, trivial⟩
    have : k = 0 ∨ k = 1 := by omega
    have h0 := h.el 0 (by omega)
    have h1 := h.el 1 (by omega)
    rcases this with rfl | rfl
    · simp only [conF]; omega
    · simp only [conF]; omega
  · obtain rfl : k = 2 := by omega
    have e : conF l 2 = (m : Int) := by have := h.su; simp only [conF]; omega
    exact ⟨fun _ => ⟨none, ⟨rfl, trivial⟩, rfl, rfl⟩, fun h3 => (h3 e).elim⟩
theorem drop_c2 {α : Type} (l : List α) (j : Nat) (d : α) (h : j < l.length) : l.drop j = l.getD j d :: l.drop (j + 1) := by
  rw [getD_get _ _ _ h, List.drop_eq_getElem_cons h]
/-- spec.l05Fixed -/
theorem spec_l05Fixed (s : Bool) (cs : List (List Int)) (hcl : cs.length ≤ 10) (hcc : ∀ i, i < cs.length → (cs.getD i []).length ≤ 10) : ∀ (f a : Nat) (s2 : Bool) (left : List Int), cs.length - a = f → a ≤ cs.length → left.length = 2 → (∀ i, i < 2 → 0 ≤ left.getD i 0 ∧ left.getD i 0 ≤ 10) →
    AC Try.prog 176 [.d s (.sl (.sl .int)) cs, I (a : Nat), .d s2 (.sl .int) left] [] [I (waysN (cs.drop a) left : Nat)] []
  | 0, a, s2, left, hf, ha, hl, _ => by
    obtain rfl : a = cs.length := by omega
    refine AC_of tauOk 51 0 [6] Try.func176 rfl (by kernel_rfl) rfl rfl rfl rfl rfl ?_
    refine ⟨fun _ => ?_, fun h => (h rfl).elim⟩
    exact ⟨none, ⟨retI (by rw [List.drop_length]; rfl), trivial⟩, rfl, rfl⟩
  | f + 1, a, s2, left, hf, ha, hl, hle => by
    have ha2 : a < cs.length := by omega
    have hc0 := hcc a ha2
    rw [drop_c2 cs a [] ha2]
    generalize hc : cs.getD a [] = c at *
    have hB := waysN_le 2 (cs.drop (a + 1))
    have hB2 : 2 ^ (cs.drop (a + 1)).length ≤ 512 := Nat.le_trans (Nat.pow_le_pow_right (by decide) (show (cs.drop (a + 1)).length ≤ 9 by rw [List.length_drop]; omega)) (by decide)
    have hsum : ∀ j, j ≤ 2 → sumTo (fun i => if (c.length : Int) ≤ left.getD i 0 then waysN (cs.drop (a + 1)) (left.set i (left.getD i 0 - c.length)) else 0) j ≤ j * 512 := fun j hj => sumTo_le _ _ _ fun i hi => by
      split
      · exact Nat.le_trans (hB _ (by rw [List.length_set]; exact hl)) hB2
      · exact Nat.zero_le _
    refine AC_of tauOk 51 0 [6] Try.func176 rfl (by kernel_rfl) rfl rfl rfl rfl rfl ?_
    refine ⟨fun h => by omega, fun _ => ?_⟩
    refine ⟨Nat, fun j => ⟨[(0, .d s (.sl (.sl .int)) cs), (1, I (a : Nat)), (2, .d s2 (.sl .int) left), (7, I (sumTo (fun i => if (c.length : Int) ≤ left.getD i 0 then waysN (cs.drop (a + 1)) (left.set i (left.getD i 0 - c.length)) else 0) j : Nat)), (15, .d s2 (.sl .int) left), (16, I left.length), (17, I (j : Nat))], []⟩, fun j => j ≤ 2, fun j => 2 - j, 0, Nat.zero_le _,
      ⟨⟨rfl, rfl⟩, ⟨rfl, rfl, rfl, rfl, rfl, rfl, rfl, trivial⟩, trivial⟩, fun j hj => ?_⟩
    dsimp only at hj
    have hsj := hsum j hj
    refine ⟨fun h2 => ?_, fun h2 => ?_⟩
    · have hj2 : j < left.length := by omega
      have hb := hle j (by omega)
      have hsj1 := hsum (j + 1) (by omega)
      refine ⟨j, rfl, hj2, a, rfl, ha2, fun h3 => ?_, fun h3 => ?_⟩
      · have h3 : left.getD j 0 < ((cs.getD a []).length : Int) := h3
        rw [hc] at h3
        have e1 : sumTo (fun i => if (c.length : Int) ≤ left.getD i 0 then waysN (cs.drop (a + 1)) (left.set i (left.getD i 0 - c.length)) else 0) (j + 1) = sumTo (fun i => if (c.length : Int) ≤ left.getD i 0 then waysN (cs.drop (a + 1)) (left.set i (left.getD i 0 - c.length)) else 0) j := by
          rw [sumTo, if_neg (by omega), Nat.add_zero]
        exact ⟨((j + 1 : Nat) : Int), w64_eq (by omega) (by omega) (by omega), j + 1, by dsimp only; omega, by dsimp only; omega, ⟨rfl, rfl⟩, ⟨rfl, rfl, rfl, retI (by rw [e1]), rfl, rfl, rfl, trivial⟩, trivial⟩
      · have h3 : ¬ left.getD j 0 < ((cs.getD a []).length : Int) := h3
        rw [hc] at h3
        have e1 : sumTo (fun i => if (c.length : Int) ≤ left.getD i 0 then waysN (cs.drop (a + 1)) (left.set i (left.getD i 0 - c.length)) else 0) (j + 1) = sumTo (fun i => if (c.length : Int) ≤ left.getD i 0 then waysN (cs.drop (a + 1)) (left.set i (left.getD i 0 - c.length)) else 0) j + waysN (cs.drop (a + 1)) (left.set j (left.getD j 0 - c.length)) := by
          rw [sumTo, if_pos (by omega)]
        have hW := spec_l05Fixed s cs hcl hcc f (a + 1) false (left.set j (left.getD j 0 - c.length)) (by omega) (by omega) (by rw [List.length_set]; exact hl) (fun i hi => by
          by_cases e2 : j = i
          · subst e2; rw [L_set_self _ _ _ _ hj2]; omega
          · rw [L_set_ne _ _ _ _ _ e2]; exact hle i hi)
        have hbw := hB (left.set j (left.getD j 0 - c.length)) (by rw [List.length_set]; exact hl)
        refine ⟨rfl, by decide, true, ?_⟩
        refine ⟨rfl, Nat.zero_le _, rfl, by simp only [List.length_nil]; omega, rfl, ?_⟩
        refine ⟨a, rfl, ha2, left.getD j 0 - c.length, w64_eq (by rw [hc]) (by omega) (by omega), j, rfl, (by rw [List.nil_append]; exact hj2), ?_⟩
        refine ⟨((a + 1 : Nat) : Int), w64_eq (by omega) (by omega) (by omega), ?_⟩
        refine ⟨[], false, _, _, hW, List.nodup_nil, rfl, rfl, trivial, ?_⟩
        refine ⟨((sumTo (fun i => if (c.length : Int) ≤ left.getD i 0 then waysN (cs.drop (a + 1)) (left.set i (left.getD i 0 - c.length)) else 0) (j + 1) : Nat) : Int), w64_eq (by rw [e1]; omega) (by omega) (by omega), ?_⟩
        exact ⟨((j + 1 : Nat) : Int), w64_eq (by omega) (by omega) (by omega), j + 1, by dsimp only; omega, by dsimp only; omega, ⟨rfl, rfl⟩, ⟨rfl, rfl, rfl, rfl, rfl, rfl, rfl, trivial⟩, trivial⟩
    · obtain rfl : j = 2 := by omega
      exact ⟨none, ⟨retI (by rw [waysN, hl]), trivial⟩, rfl, rfl⟩
/-- spec.CountFixed of two colors -/
theorem spec_CountFixed (s1 s2 : Bool) (q l : List Int) (hq : PermP q) (hl : ConP l q.length) : AC Try.prog 137 [.d s1 (.sl .int) q, .d s2 (.sl .int) l] [] [I (waysN (cycL q) l : Nat)] [] := by
  have hs := cyc_small hq
  have hl2 := hl.l2
  have hq1 := hq.1
  refine AC_of tauOk 19 0 [4] Try.func137 rfl (by kernel_rfl) rfl rfl rfl rfl rfl ?_
  refine ⟨[], false, _, _, spec_PermOk s1 q (by omega), List.nodup_nil, rfl, rfl, trivial, fun _ => ?_, fun h => by rw [(permB_iff q).2 hq] at h; cases h⟩
  refine ⟨[], false, _, _, spec_l05Contents s2 l q.length hl, List.nodup_nil, rfl, rfl, trivial, fun _ => ?_, nofun⟩
  refine ⟨[], true, _, _, spec_CyclesOf s1 q hq, List.nodup_nil, rfl, rfl, trivial, ?_⟩
  refine ⟨[], false, _, _, spec_l05Fixed true (cycL q) hs.1 hs.2 (cycL q).length 0 s2 l rfl (Nat.zero_le _) hl2 hl.el, List.nodup_nil, rfl, rfl, trivial, ?_⟩
  exact ⟨none, ⟨rfl, trivial⟩, rfl, rfl⟩
/-- spec.CountGraphsWith -/
theorem spec_CountGraphsWith (n e : Int) : AC Try.prog 64 [I n, I e] [] [I (cgwI n e)] [] := by
  refine AC_of tauOk 43 0 [4] Try.func64 rfl (by kernel_rfl) rfl rfl rfl rfl rfl ?_
  refine ⟨[], false, _, _, spec_l01In _ _ _, List.nodup_nil, rfl, rfl, trivial, fun h => ?_, fun h => ?_⟩
  · simp only [Bool.and_eq_true, decide_eq_true_eq] at h
    obtain ⟨N, rfl⟩ : ∃ N : Nat, n = (N : Int) := ⟨n.toNat, by omega⟩
    have hcp := cp_le N (by omega)
    have e0 : cgwI (N : Int) e = (if 0 ≤ e ∧ e ≤ ((cp N : Nat) : Int) then (if (N : Int) = 1 then 1 else ((cgwN N e.toNat : Nat) : Int)) else 0) := by rw [cgwI, if_pos h, Int.toNat_natCast]
    rw [e0]
    refine ⟨[], false, _, _, spec_l11Pairs N (by omega) (by omega), List.nodup_nil, rfl, rfl, trivial, ?_⟩
    refine ⟨[], false, _, _, spec_l01In _ _ _, List.nodup_nil, rfl, rfl, trivial, fun h3 => ?_, fun h3 => ?_⟩
    · simp only [Bool.and_eq_true, decide_eq_true_eq] at h3
      rw [if_pos (show 0 ≤ e ∧ e ≤ ((cp N : Nat) : Int) by omega)]
      refine ⟨fun h4 => ?_, fun h4 => ?_⟩
      · exact ⟨none, ⟨retI (by rw [if_pos h4]), trivial⟩, rfl, rfl⟩
      rw [if_neg h4]
      obtain ⟨E, rfl⟩ : ∃ E : Nat, e = (E : Int) := ⟨e.toNat, by omega⟩
      rw [Int.toNat_natCast]
      have hS := sym_ok N (by omega) (by omega)
      have hG := cg_ok N (by omega) (by omega)
      have hal := actsL_len N
      have hl1 := hS.l1
      have hl2 := hS.l2
      have hC := con_of (cp N) E hcp.1 (by omega)
      have hB := cgs_le N E hG
      refine ⟨[], true, _, _, spec_l11All N (by omega) (by omega), List.nodup_nil, rfl, rfl, trivial, ?_⟩
      refine ⟨Nat, fun k => ⟨[(1, I (E : Nat)), (5, I (cp N : Nat)), (6, I (sumTo (fun k => waysN (cycL ((actsL N).getD k [])) [((cp N - E : Nat) : Int), (E : Int)]) k : Nat)), (7, .d true (.sl (.sl .int)) (actsL N)), (23, .d true (.sl (.sl .int)) (actsL N)), (24, I (actsL N).length), (25, I (k : Nat))], []⟩, fun k => k ≤ (actsL N).length, fun k => (actsL N).length - k, 0, Nat.zero_le _,
        ⟨⟨rfl, rfl⟩, ⟨rfl, rfl, rfl, rfl, rfl, rfl, rfl, trivial⟩, trivial⟩, fun k hk => ?_⟩
      dsimp only at hk
      have hBk := hB k (by omega)
      refine ⟨fun h5 => ?_, fun h5 => ?_⟩
      · have hk2 : k < (actsL N).length := by omega
        have hq := hG.p k (by omega)
        have hBk1 := hB (k + 1) (by omega)
        have hw := ways_le hq.1 (l := [((cp N - E : Nat) : Int), (E : Int)]) rfl
        refine ⟨k, rfl, hk2, ?_⟩
        refine ⟨((cp N - E : Nat) : Int), w64_eq (by omega) (by omega) (by omega), ?_⟩
        refine ⟨rfl, by decide, false, ?_⟩
        refine ⟨[], false, _, _, spec_CountFixed true true ((actsL N).getD k []) [((cp N - E : Nat) : Int), (E : Int)] hq.1 (by rw [hq.2]; exact hC), List.nodup_nil, rfl, rfl, trivial, ?_⟩
        refine ⟨((sumTo (fun k => waysN (cycL ((actsL N).getD k [])) [((cp N - E : Nat) : Int), (E : Int)]) (k + 1) : Nat) : Int), w64_eq (by rw [sumTo]; omega) (by omega) (by omega), ?_⟩
        exact ⟨((k + 1 : Nat) : Int), w64_eq (by omega) (by omega) (by omega), k + 1, by dsimp only; omega, by dsimp only; omega, ⟨rfl, rfl⟩, ⟨rfl, rfl, rfl, rfl, rfl, rfl, rfl, trivial⟩, trivial⟩
      · obtain rfl : k = (actsL N).length := by omega
        have hcw := cgw_le N E hG (by omega)
        refine ⟨by omega, ((cgwN N E : Nat) : Int), w64_eq (by unfold cgwN cgsN; exact Int.ofNat_tdiv _ _) (Int.le_trans (by decide) (Int.natCast_nonneg _)) (by omega), ?_⟩
        exact ⟨none, ⟨rfl, trivial⟩, rfl, rfl⟩
    · simp only [Bool.and_eq_false_iff, decide_eq_false_iff_not] at h3
      exact ⟨none, ⟨retI (by rw [if_neg (fun e => by omega)]), trivial⟩, rfl, rfl⟩
  · simp only [Bool.and_eq_false_iff, decide_eq_false_iff_not] at h
    exact ⟨none, ⟨retI (by rw [cgwI, if_neg (fun e => by omega)]), trivial⟩, rfl, rfl⟩
/-- laws.FnExactCountGraphsWith -/
theorem laws_FnExactCountGraphsWith (n e : Int) : AC Try.prog 14 [I n, I e] [] [.d true .bool true] [] := by
  refine AC_of tauOk 16 0 [4] Try.func14 rfl (by kernel_rfl) rfl rfl rfl rfl rfl ?_
  refine ⟨[], false, _, _, spec_CountGraphsWith n e, List.nodup_nil, rfl, rfl, trivial, [], false, _, _, impl_CountGraphsWith n e, List.nodup_nil, rfl, rfl, trivial, ?_⟩
  refine ⟨fun h => (h rfl).elim, fun _ => ?_⟩
  exact ⟨none, ⟨rfl, trivial⟩, rfl, rfl⟩
end Go.Proofs.Ytcamhpknmbohnaa
