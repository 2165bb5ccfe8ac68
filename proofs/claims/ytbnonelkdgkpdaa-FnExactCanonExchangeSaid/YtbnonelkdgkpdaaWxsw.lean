/-
  Contracts of the program's functions for patterns up to exchanged colors: what they return keeps the whole of its blocks.
-/
import Derived.Test.YtbnonelkdgkpdaaWxch
import Derived.Test.YtbnonelkdgkpdaaWsw
set_option linter.unusedVariables false
namespace Go.Proofs.Ytbnonelkdgkpdaa
open Go Go.Proofs.Ytbnonelkdgkpdaa.Ow
theorem retDw {e : Nat} {d : Bool} {b c : List Int} (h : b = c) : (AV.d true (.sw e d) b) = .d true (.sw e d) c := by rw [h]
/-- impl.canonExchange -/
theorem impl_canonExchange_w (sh s2 : Bool) (g : List (List Int)) (xs : List Int) (hg : ∀ i, i < g.length → PermP (g.getD i []) ∧ (g.getD i []).length = xs.length) (hgl : g.length ≤ 1048576) (hc : ColP xs) :
    AC Try.prog 47 [.d sh (.sl (.sl .int)) g, .d s2 (.sl .int) xs] [] [.d true (.sw 3 false) (cexL g xs)] [] := by
  have hcl := hc.2
  have hbl := cexK_len hg hc
  refine AC_of tauOk 28 0 [4] Try.func47 rfl (by kernel_rfl) rfl rfl rfl rfl rfl ?_
  refine ⟨[], false, _, _, impl_leastExchange s2 xs hc, List.nodup_nil, rfl, rfl, trivial, ?_⟩
  refine ⟨Nat, fun k => ⟨[(1, .d s2 (.sl .int) xs), (5, .d true (.sw 3 false) (bstF (fun p => firstL (actL p xs)) (firstL xs) g k)), (11, .d sh (.sl (.sl .int)) g), (12, I g.length), (13, I (k : Nat))], []⟩, fun k => k ≤ g.length, fun k => g.length - k, 0, Nat.zero_le _,
    ⟨⟨rfl, rfl⟩, ⟨rfl, ⟨rfl, rfl, rfl⟩, rfl, rfl, rfl, trivial⟩, trivial⟩, fun k hk => ?_⟩
  dsimp only at hk
  refine ⟨fun h1 => ?_, fun h1 => ?_⟩
  · have hk2 : k < g.length := by omega
    obtain ⟨hP, hl⟩ := hg k hk2
    have hbk := hbl k hk
    have hx1 := firstL_len _ (act_col hP hl hc)
    rw [actL_len] at hx1
    refine ⟨k, rfl, hk2, [], true, _, _, impl_act sh s2 (g.getD k []) xs hP hl, List.nodup_nil, rfl, rfl, trivial, [], false, _, _, impl_leastExchange true (actL (g.getD k []) xs) (act_col hP hl hc), List.nodup_nil, rfl, rfl, trivial, ?_⟩
    refine ⟨[], false, _, _, slices_Compare_int false true (firstL (actL (g.getD k []) xs)) (bstF (fun p => firstL (actL p xs)) (firstL xs) g k) (by omega) (by omega), List.nodup_nil, rfl, rfl, trivial, fun h2 => ?_, fun h2 => ?_⟩
    · have e : bstF (fun p => firstL (actL p xs)) (firstL xs) g (k + 1) = firstL (actL (g.getD k []) xs) := by rw [bstF, if_pos h2]
      exact ⟨((k + 1 : Nat) : Int), w64_eq (by omega) (by omega) (by omega), k + 1, by dsimp only; omega, by dsimp only; omega, ⟨rfl, rfl⟩, ⟨rfl, ⟨rfl, rfl, e.symm⟩, rfl, rfl, rfl, trivial⟩, trivial⟩
    · have e : bstF (fun p => firstL (actL p xs)) (firstL xs) g (k + 1) = bstF (fun p => firstL (actL p xs)) (firstL xs) g k := by rw [bstF, if_neg h2]
      exact ⟨((k + 1 : Nat) : Int), w64_eq (by omega) (by omega) (by omega), k + 1, by dsimp only; omega, by dsimp only; omega, ⟨rfl, rfl⟩, ⟨rfl, retDw e.symm, rfl, rfl, rfl, trivial⟩, trivial⟩
  · obtain rfl : k = g.length := by omega
    exact ⟨none, ⟨rfl, trivial⟩, rfl, rfl⟩
/-- impl.CanonExchange -/
theorem impl_CanonExchange_w (s1 s2 : Bool) (g : List (List Int)) (k : Int) (xs : List Int) (hl : g.length ≤ 1048576) (hx : ∀ i, i < g.length → (g.getD i []).length ≤ 1048576) (hl2 : xs.length ≤ 1048576) (r : List AV)
    (hno : cxB g k xs = false → r = [.nil, .d true .bool false]) (hyes : cxB g k xs = true → r = [.d true (.sw 3 false) (cexL g xs), .d true .bool true]) :
    AC Try.prog 16 [.d s1 (.sl (.sl .int)) g, I k, .d s2 (.sl .int) xs] [] r [] := by
  refine AC_of tauOk 32 0 [6, 7] Try.func16 rfl (by kernel_rfl) rfl rfl rfl rfl rfl ?_
  cases hF : fitB g xs
  · refine ⟨[], true, _, _, impl_CanonOf_no s1 s2 g xs hl hx hl2 hF, List.nodup_nil, rfl, rfl, trivial, nofun, fun _ => ?_⟩
    obtain rfl := hno (by rw [cxB, hF]; rfl)
    exact ⟨none, ⟨rfl, rfl, trivial⟩, rfl, rfl⟩
  · refine ⟨[], true, _, _, impl_CanonOf s1 s2 g xs hl hx hl2 hF, List.nodup_nil, rfl, rfl, trivial, fun _ => ?_, nofun⟩
    have hP := fit_of hF
    refine ⟨[], false, _, _, impl_isColors k, List.nodup_nil, rfl, rfl, trivial, fun h1 => ?_, fun h1 => ?_⟩
    · refine ⟨[], false, _, _, impl_below s2 xs k hl2, List.nodup_nil, rfl, rfl, trivial, fun h2 => ?_, fun h2 => ?_⟩
      · obtain rfl := hyes (by rw [cxB, hF, h1, h2]; rfl)
        refine ⟨[], false, _, _, impl_canonExchange_w s1 s2 g xs hP.gs hl hP.x, List.nodup_nil, rfl, rfl, trivial, ?_⟩
        exact ⟨none, ⟨rfl, rfl, trivial⟩, rfl, rfl⟩
      · obtain rfl := hno (by rw [cxB, h2]; simp)
        exact ⟨none, ⟨rfl, rfl, trivial⟩, rfl, rfl⟩
    · obtain rfl := hno (by rw [cxB, h1]; simp)
      exact ⟨none, ⟨rfl, rfl, trivial⟩, rfl, rfl⟩
/-- impl.wordsOf, each word in a block of its own -/
theorem impl_wordsOf_w (n k : Nat) (hn : n ≤ 10) (hk : k ≤ 4) : AC Try.prog 45 [I (n : Nat), I (k : Nat)] [] [.d true (.sl (.sw 3 false)) (wordsL k n)] [] := by
  have hp : ∀ j, j ≤ n → k ^ j ≤ 1048576 := fun j hj => pow_le hk (show j ≤ 10 by omega) (Nat.le_refl 10)
  refine AC_of (tauSOk false) 39 0 [4] Try.func45 rfl (by kernel_rfl) rfl rfl rfl rfl rfl ?_
  refine ⟨rfl, by decide, .e, rfl, rfl, by decide, false, ?_⟩
  refine ⟨Nat, fun j => ⟨[(1, I (k : Nat)), (5, .d true (.sl (.sw 3 false)) (wordsL k j)), (12, I (n : Nat)), (13, I (j : Nat))], []⟩, fun j => j ≤ n, fun j => n - j, 0, Nat.zero_le _,
    ⟨⟨rfl, rfl⟩, ⟨rfl, rfl, rfl, rfl, trivial⟩, trivial⟩, fun j hj => ?_⟩
  dsimp only at hj
  have hwl := wordsL_len k j
  have hpj := hp j hj
  have hwg : ∀ i, i < (wordsL k j).length → ((wordsL k j).getD i []).length = j := fun i hi => by
    rw [hwl] at hi; rw [wordsL_get k j i hi, wrdN_len]
  have hws : wordsL k (j + 1) = extW k (wordsL k j) := rfl
  refine ⟨fun h1 => ?_, fun h1 => ?_⟩
  · refine ⟨rfl, by decide, true, ?_⟩
    refine ⟨Nat, fun i => ⟨[(1, I (k : Nat)), (6, .ow 0), (12, I (n : Nat)), (13, I (j : Nat)), (16, .d true (.sl (.sw 3 false)) (wordsL k j)), (17, I (wordsL k j).length), (18, I (i : Nat))], [.sl 25 (.sw 3 false) (extW k ((wordsL k j).take i))]⟩, fun i => i ≤ (wordsL k j).length, fun i => (wordsL k j).length - i, 0, Nat.zero_le _,
      ⟨⟨rfl, rfl⟩, ⟨rfl, rfl, rfl, rfl, rfl, rfl, rfl, trivial⟩, rfl, trivial⟩, fun i hi => ?_⟩
    dsimp only at hi
    have hel := extW_len k ((wordsL k j).take i)
    have hik : ((wordsL k j).take i).length * k ≤ 1048576 * 4 := Nat.mul_le_mul (by rw [List.length_take]; omega) hk
    refine ⟨fun h2 => ?_, fun h2 => ?_⟩
    · have hi2 : i < (wordsL k j).length := by omega
      refine ⟨i, rfl, hi2, ?_⟩
      have hwi := hwg i hi2
      have hes := extW_s k (wordsL k j) i hi2
      refine ⟨Nat, fun x => ⟨[(1, I (k : Nat)), (6, .ow 0), (8, .d true (.sw 3 false) ((wordsL k j).getD i [])), (12, I (n : Nat)), (13, I (j : Nat)), (16, .d true (.sl (.sw 3 false)) (wordsL k j)), (17, I (wordsL k j).length), (18, I (i : Nat)), (22, I (k : Nat)), (23, I (x : Nat))], [.sl 25 (.sw 3 false) (extW k ((wordsL k j).take i) ++ (List.range x).map fun (x : Nat) => ((wordsL k j).getD i []) ++ [(x : Int)])]⟩, fun x => x ≤ k, fun x => k - x, 0, Nat.zero_le _,
        ⟨⟨rfl, rfl⟩, ⟨rfl, rfl, rfl, rfl, rfl, rfl, rfl, rfl, rfl, rfl, trivial⟩, rowE (by simp), trivial⟩, fun x hx => ?_⟩
      dsimp only at hx
      refine ⟨fun h3 => ?_, fun h3 => ?_⟩
      · by_cases h0 : (wordsL k j).getD i [] = []
        · have hcn := slices_Clone_no true
          rw [← h0] at hcn
          refine ⟨[], false, _, _, hcn, List.nodup_nil, rfl, rfl, trivial, ?_⟩
          refine ⟨rfl, by decide, false, ?_⟩
          refine ⟨(by decide : 1 ≤ 1099511627776), ?_⟩
          refine ⟨rfl, rfl, rfl, by decide, false, ?_⟩
          refine ⟨rfl, Nat.zero_le _, rfl, ?_, rfl, ?_⟩
          · simp only [List.length_append, List.length_map, List.length_range, List.length_cons, List.length_nil]; omega
          · exact ⟨((x + 1 : Nat) : Int), w64_eq (by omega) (by omega) (by omega), x + 1, by dsimp only; omega, by dsimp only; omega, ⟨rfl, rfl⟩, ⟨rfl, rfl, rfl, rfl, rfl, rfl, rfl, rfl, rfl, rfl, trivial⟩, rowE (by rw [rng_s, List.append_assoc, h0]; rfl), trivial⟩
        · refine ⟨[], false, _, _, slices_Clone_int true ((wordsL k j).getD i []) (by omega) h0, List.nodup_nil, rfl, rfl, trivial, ?_⟩
          refine ⟨rfl, by decide, false, ?_⟩
          refine ⟨rfl, Nat.zero_le _, rfl, ?_, rfl, ?_⟩
          · simp only [List.length_cons, List.length_nil]; omega
          refine ⟨rfl, rfl, rfl, by decide, false, ?_⟩
          refine ⟨rfl, Nat.zero_le _, rfl, ?_, rfl, ?_⟩
          · simp only [List.length_append, List.length_map, List.length_range, List.length_cons, List.length_nil]; omega
          · exact ⟨((x + 1 : Nat) : Int), w64_eq (by omega) (by omega) (by omega), x + 1, by dsimp only; omega, by dsimp only; omega, ⟨rfl, rfl⟩, ⟨rfl, rfl, rfl, rfl, rfl, rfl, rfl, rfl, rfl, rfl, trivial⟩, rowE (by rw [rng_s, List.append_assoc]), trivial⟩
      · obtain rfl : x = k := by omega
        exact ⟨((i + 1 : Nat) : Int), w64_eq (by omega) (by omega) (by omega), i + 1, by dsimp only; omega, by dsimp only; omega, ⟨rfl, rfl⟩, ⟨rfl, rfl, rfl, rfl, rfl, rfl, rfl, trivial⟩, rowE hes.symm, trivial⟩
    · obtain rfl : i = (wordsL k j).length := by omega
      exact ⟨((j + 1 : Nat) : Int), w64_eq (by omega) (by omega) (by omega), j + 1, by dsimp only; omega, by dsimp only; omega, ⟨rfl, rfl⟩, ⟨rfl, ⟨rfl, rfl, by rw [hws, List.take_length]⟩, rfl, rfl, trivial⟩, trivial⟩
  · obtain rfl : j = n := by omega
    exact ⟨none, ⟨rfl, trivial⟩, rfl, rfl⟩
/-- impl.ExchangePatterns of a group and few colors -/
theorem impl_ExchangePatterns_w (sh : Bool) (g : List (List Int)) (K : Nat) (hl : g.length ≤ 1048576) (hx : ∀ i, i < g.length → (g.getD i []).length ≤ 1048576) (hB : gokB g = true) (hS : smallB (g.getD 0 []).length (K : Nat) = true) :
    AC Try.prog 10 [.d sh (.sl (.sl .int)) g, I (K : Nat)] [] [.ow 0, .d true .bool true] [.sl 25 (.sw 3 true) (expL g K (g.getD 0 []).length)] := by
  have hG := (gokB_iff g).1 hB
  have hg0 : 0 < g.length := by have := hG.l1; omega
  have hp0 := (gok1_p (hG.o1 0 hg0)).1.1
  have hgp : ∀ i, i < g.length → PermP (g.getD i []) ∧ (g.getD i []).length = (g.getD 0 []).length := fun i hi => ⟨(gok1_p (hG.o1 i hi)).1, (gok1_p (hG.o1 i hi)).2.1⟩
  have hK : K ≤ 4 := by
    unfold smallB at hS
    simp only [Bool.and_eq_true, decide_eq_true_eq] at hS
    omega
  have hSm := impl_isSmall (g.getD 0 []).length (K : Nat) hp0.2
  rw [hS] at hSm
  have hwl := wordsL_len K (g.getD 0 []).length
  have hpw : K ^ (g.getD 0 []).length ≤ 1048576 := pow_le hK hp0.2 (Nat.le_refl 10)
  have hwc : ∀ i, i < (wordsL K (g.getD 0 []).length).length → ColP ((wordsL K (g.getD 0 []).length).getD i []) ∧ ((wordsL K (g.getD 0 []).length).getD i []).length = (g.getD 0 []).length := fun i hi => by
    refine ⟨wrd_col hp0.1 hp0.2 hK hi, ?_⟩
    rw [hwl] at hi
    rw [wordsL_get _ _ _ hi, wrdN_len]
  have hye := expS_y g K (g.getD 0 []).length
  have hno := expS_n g K (g.getD 0 []).length
  have hle := expS_le g K (g.getD 0 []).length
  have h00 : expS g K (g.getD 0 []).length 0 = [] := by simp [expS]
  have hexm : ∀ i x, x ∈ expS g K (g.getD 0 []).length i → ∃ j, j < i ∧ j < (wordsL K (g.getD 0 []).length).length ∧ x = (wordsL K (g.getD 0 []).length).getD j [] := fun i x hx => by
    obtain ⟨j, hj, rfl⟩ := List.getElem_of_mem (List.mem_filter.1 hx).1
    rw [List.length_take] at hj
    exact ⟨j, by omega, by omega, by rw [List.getElem_take]; exact (getD_get _ _ _ (by omega)).symm⟩
  have hinj : ∀ i j, j < i → i < (wordsL K (g.getD 0 []).length).length → (wordsL K (g.getD 0 []).length).getD j [] ≠ (wordsL K (g.getD 0 []).length).getD i [] := fun i j hji hi => by
    rw [getD_get _ _ _ (by omega), getD_get _ _ _ hi]
    exact (List.pairwise_iff_getElem.1 (words_nodup K (g.getD 0 []).length)) j i (by omega) hi hji
  have hend : expS g K (g.getD 0 []).length (wordsL K (g.getD 0 []).length).length = expL g K (g.getD 0 []).length := by rw [expS, List.take_length]; rfl
  refine AC_of (tauSOk true) 44 0 [4, 5] Try.func10 rfl (by kernel_rfl) rfl rfl rfl rfl rfl ?_
  refine ⟨[], false, _, _, impl_GroupOk sh g hl hx, List.nodup_nil, rfl, rfl, trivial, fun _ => ?_, fun h => by rw [hB] at h; cases h⟩
  refine ⟨0, rfl, hg0, [], false, _, _, hSm, List.nodup_nil, rfl, rfl, trivial, fun _ => ?_, nofun⟩
  refine ⟨rfl, by decide, true, Nat.zero_le _, ?_⟩
  refine ⟨0, rfl, hg0, [], false, _, _, impl_wordsOf_w (g.getD 0 []).length K hp0.2 hK, List.nodup_nil, rfl, rfl, trivial, ?_⟩
  generalize wordsL K (g.getD 0 []).length = W at *
  refine ⟨Nat, fun i => ⟨[(0, .d sh (.sl (.sl .int)) g), (6, .ow 0), (27, .d true (.sl (.sw 3 false)) W), (28, I W.length), (29, I (i : Nat))], [.sl 25 (.sw 3 true) (expS g K (g.getD 0 []).length i)]⟩, fun i => i ≤ W.length, fun i => W.length - i, 0, Nat.zero_le _,
    ⟨⟨rfl, rfl⟩, ⟨rfl, rfl, rfl, rfl, rfl, trivial⟩, rowE h00.symm, trivial⟩, fun i hi => ?_⟩
  dsimp only at hi
  have hlei := hle i
  refine ⟨fun h2 => ?_, fun h2 => ?_⟩
  · have hi2 : i < W.length := by omega
    obtain ⟨hc, hcl⟩ := hwc i hi2
    have hy := hye i hi2
    have hn := hno i hi2
    have hl10 := hc.2
    refine ⟨i, rfl, hi2, ?_⟩
    have hgv : ∀ a, a < g.length → PermP (g.getD a []) ∧ (g.getD a []).length = (W.getD i []).length := fun a ha => by rw [hcl]; exact hgp a ha
    have hce := cexK_len hgv hc g.length (Nat.le_refl _)
    have hce : (cexL g (W.getD i [])).length = (W.getD i []).length := hce
    refine ⟨[], false, _, _, impl_canonExchange_d sh true g (W.getD i []) hgv hl hc, List.nodup_nil, rfl, rfl, trivial, ?_⟩
    refine ⟨[], false, _, _, slices_Equal_int true true (cexL g (W.getD i [])) (W.getD i []) (by omega) (by omega), List.nodup_nil, rfl, rfl, trivial, fun h3 => ?_, fun h3 => ?_⟩
    · have h3 := of_decide_eq_true h3
      refine ⟨rfl, by decide, false, ?_⟩
      have hap : ApW (expS g K (g.getD 0 []).length i) [W.getD i []] := ⟨Nat.le_refl 1, fun x hx y hy => by
        rw [List.mem_singleton.1 hy]
        obtain ⟨j, hj1, hj2, rfl⟩ := hexm i x hx
        exact ⟨by rw [(hwc j hj2).2, hcl], hinj i j hj1 hi2⟩⟩
      refine ⟨rfl, Nat.zero_le _, rfl, ?_, rfl, hap, ?_⟩
      · simp only [List.length_cons, List.length_nil]; omega
      · exact ⟨((i + 1 : Nat) : Int), w64_eq (by omega) (by omega) (by omega), i + 1, by dsimp only; omega, by dsimp only; omega, ⟨rfl, rfl⟩, ⟨rfl, rfl, rfl, rfl, rfl, trivial⟩, rowE (hy h3).symm, trivial⟩
    · have h3 := of_decide_eq_false h3
      exact ⟨((i + 1 : Nat) : Int), w64_eq (by omega) (by omega) (by omega), i + 1, by dsimp only; omega, by dsimp only; omega, ⟨rfl, rfl⟩, ⟨rfl, rfl, rfl, rfl, rfl, trivial⟩, rowE (hn h3).symm, trivial⟩
  · obtain rfl : i = W.length := by omega
    exact ⟨some 0, ⟨⟨rfl, rfl⟩, rfl, trivial⟩, ⟨rfl, rowsE hend⟩, rfl⟩
/-- impl.ExchangePatterns of anything else -/
theorem impl_ExchangePatterns_no (sh : Bool) (g : List (List Int)) (k : Int) (hl : g.length ≤ 1048576) (hx : ∀ i, i < g.length → (g.getD i []).length ≤ 1048576) (hE : (gokB g && smallB (g.getD 0 []).length k) = false) :
    AC Try.prog 10 [.d sh (.sl (.sl .int)) g, I k] [] [.nil, .d true .bool false] [] := by
  refine AC_of tauOk 44 0 [4, 5] Try.func10 rfl (by kernel_rfl) rfl rfl rfl rfl rfl ?_
  refine ⟨[], false, _, _, impl_GroupOk sh g hl hx, List.nodup_nil, rfl, rfl, trivial, fun h1 => ?_, fun h1 => ?_⟩
  · have hG := (gokB_iff g).1 h1
    have hg0 : 0 < g.length := by have := hG.l1; omega
    have hp0 := (gok1_p (hG.o1 0 hg0)).1.1
    have hSm := impl_isSmall (g.getD 0 []).length k hp0.2
    rw [h1, Bool.true_and] at hE
    rw [hE] at hSm
    refine ⟨0, rfl, hg0, [], false, _, _, hSm, List.nodup_nil, rfl, rfl, trivial, nofun, fun _ => ?_⟩
    exact ⟨none, ⟨rfl, rfl, trivial⟩, rfl, rfl⟩
  · exact ⟨none, ⟨rfl, rfl, trivial⟩, rfl, rfl⟩
end Go.Proofs.Ytbnonelkdgkpdaa
