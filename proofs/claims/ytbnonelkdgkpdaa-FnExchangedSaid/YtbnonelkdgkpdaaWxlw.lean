/-
  FnExchanged: patterns up to exchanged colors are as many as counted, and each exchange keeps them.
-/
import Derived.Test.YtbnonelkdgkpdaaPls
import Derived.Test.YtbnonelkdgkpdaaWxch
import Derived.Test.YtbnonelkdgkpdaaWdrw
set_option linter.unusedVariables false
namespace Go.Proofs.Ytbnonelkdgkpdaa
open Go Go.Proofs.Ytbnonelkdgkpdaa.Ow
/-- laws.same of two lists of one length -/
theorem laws_same_dec (s1 s2 : Bool) (xs ys : List Int) (hl : xs.length ≤ 1048576) (he : ys.length = xs.length) : AC Try.prog 18 [.d s1 (.sl .int) xs, .d s2 (.sl .int) ys] [] [.d true .bool (decide (xs = ys))] [] := by
  refine AC_of tauOk 26 0 [4] Try.func18 rfl (by kernel_rfl) rfl rfl rfl rfl rfl ?_
  refine ⟨fun h => absurd h (by omega), fun _ => ?_⟩
  refine ⟨Nat, fun k => ⟨[(1, .d s2 (.sl .int) ys), (12, .d s1 (.sl .int) xs), (13, I xs.length), (14, I (k : Nat))], []⟩, fun k => k ≤ xs.length ∧ ∀ j, j < k → xs.getD j 0 = ys.getD j 0, fun k => xs.length - k, 0, ⟨Nat.zero_le _, fun j hj => by omega⟩,
    ⟨⟨rfl, rfl⟩, ⟨rfl, rfl, rfl, rfl, trivial⟩, trivial⟩, fun k ⟨hk, hy⟩ => ?_⟩
  refine ⟨fun h2 => ?_, fun h2 => ?_⟩
  · have hk2 : k < xs.length := by omega
    refine ⟨k, rfl, hk2, k, rfl, by omega, fun h => ?_, fun h => ?_⟩
    · exact ⟨none, ⟨retB (by rw [decide_eq_false]; intro e; exact h (by rw [e])), trivial⟩, rfl, rfl⟩
    · refine ⟨((k + 1 : Nat) : Int), w64_eq (by omega) (by omega) (by omega), k + 1, ⟨hk2, fun j hj => ?_⟩, by dsimp only; omega, ⟨rfl, rfl⟩, ⟨rfl, rfl, rfl, rfl, trivial⟩, trivial⟩
      by_cases e : j = k
      · subst e; exact Decidable.not_not.1 h
      · exact hy j (by omega)
  · obtain rfl : k = xs.length := by omega
    exact ⟨none, ⟨retB (by rw [decide_eq_true]; exact ext_getD 0 he.symm hy), trivial⟩, rfl, rfl⟩
theorem dec3 (code : List Int) (m : Nat) : ∃ n : Nat, 1 + (mkNum code m).tmod 3 = n ∧ 1 ≤ n ∧ n ≤ 3 := by
  have hb := mkNum_b code m
  have ht := Int.tmod_nonneg 3 hb.1
  have ht2 := Int.tmod_lt_of_pos (mkNum code m) (by decide : (0 : Int) < 3)
  exact ⟨(1 + (mkNum code m).tmod 3).toNat, by omega, by omega, by omega⟩
theorem first0 {xs : List Int} (hx : ColP xs) : (firstL xs).getD 0 0 = 0 := by
  have h1 := hx.2.1
  have h0 := hx.1 0 (by omega)
  rw [firstL_at hx (by omega)]
  obtain ⟨c, hc⟩ : ∃ c : Nat, xs.getD 0 0 = c := ⟨(xs.getD 0 0).toNat, by omega⟩
  have hc4 : c < 4 := by omega
  have e : (fcS xs 0).1.1.getD c 0 < 0 := by
    match c, hc4 with
    | 0, _ => exact (by decide : (-1 : Int) < 0)
    | 1, _ => exact (by decide : (-1 : Int) < 0)
    | 2, _ => exact (by decide : (-1 : Int) < 0)
    | 3, _ => exact (by decide : (-1 : Int) < 0)
  rw [fcS_new xs 0 c hc e]
  match c, hc4 with
  | 0, _ => rfl
  | 1, _ => rfl
  | 2, _ => rfl
  | 3, _ => rfl
/-- first colors have first colors of their own: themselves -/
theorem first_first_eq {n k : Nat} {w : List Int} (h1 : 1 ≤ n) (h2 : n ≤ 10) (hk : 1 ≤ k) (h4 : k ≤ 4) (hw : w ∈ wordsL k n) : firstL (firstL w) = firstL w ∧ ∃ q, PnP k q ∧ firstL w = exL w q := by
  have hx := col_of h1 h2 h4 hw
  have hb := (words_b hw).2
  have hS := symG k hk h4
  obtain ⟨q, hq, e⟩ := first_ex hx hk h4 fun i hi => (hb i hi).2
  have hq2 := hS.el q hq
  have hw2 : firstL w ∈ wordsL k n := by rw [← e]; exact ex_words hq2 hw
  have hx2 := col_of h1 h2 h4 hw2
  have hb2 := (words_b hw2).2
  refine ⟨?_, q, hq2, e.symm⟩
  refine leI_anti ?_ ?_
  · have := first_le hx2 hk h4 (fun i hi => (hb2 i hi).2) (hS.el _ hS.id).1 (hS.el _ hS.id).2
    rwa [exL_id hx2 fun i hi => (hb2 i hi).2] at this
  · obtain ⟨q2, hq3, e2⟩ := first_ex hx2 hk h4 fun i hi => (hb2 i hi).2
    have e3 : firstL (firstL w) = exL w (exL q q2) := by
      rw [← e2, ← exL_ex (by rw [hq2.2]; exact hb), e]
    rw [e3]
    have := hS.el _ (hS.cl q hq q2 hq3)
    exact first_le hx hk h4 (fun i hi => (hb i hi).2) this.1 this.2
set_option maxHeartbeats 2000000 in
/-- laws.FnExchanged -/
theorem laws_FnExchanged (code : List Int) : AC Try.prog 3 [.d true (.sl .u8) code] [] [.d true .bool true] [] := by
  obtain ⟨n, hn1, hn2, hQ⟩ := grpD_ok code 0
  have hB := grq_gok hQ
  obtain ⟨K, hK, hK1, hK3⟩ := dec3 code 20
  have hGL : GrL n (grpD code 0) := ⟨hn1, by omega, hQ.1, hQ.2.2.1, hQ.2.2.2.1, hQ.2.2.2.2⟩
  generalize hg : grpD code 0 = g at *
  have hG := (gokB_iff g).1 hB
  have hgl : g.length ≤ 1048576 := by have := hG.l2; omega
  have hgx : ∀ i, i < g.length → (g.getD i []).length ≤ 1048576 := fun i hi => by have := (gok1_p (hG.o1 i hi)).1.1; omega
  have hg0 : 0 < g.length := by have := hG.l1; omega
  obtain rfl : n = (g.getD 0 []).length := by
    have := (hGL.el (g.getD 0 []) (by rw [getD_get _ _ _ hg0]; exact List.getElem_mem _)).2
    exact this.symm
  have hpw : K ^ (g.getD 0 []).length ≤ 1024 := Nat.le_trans (Nat.pow_le_pow_left hK3 _) (Nat.le_trans (Nat.pow_le_pow_right (by decide) hn2) (by decide))
  have hS : smallB (g.getD 0 []).length (K : Nat) = true := by
    unfold smallB
    simp only [Bool.and_eq_true, decide_eq_true_eq, Int.toNat_natCast]
    omega
  have hEP := impl_ExchangePatterns_d true g K hgl hgx hB hS
  have hcnt := exp_count hGL hK1 (show K ≤ 4 by omega)
  have hle := exp_le hGL hK1 (show K ≤ 4 by omega)
  have hS1 := (sym_ok K (by omega) hK1).l1
  have hcx : ((expL g K (g.getD 0 []).length).length : Int) = cexI g K := by
    rw [cexI, if_pos ⟨hB, by omega, by omega⟩, Int.toNat_natCast, hcnt, Nat.mul_div_cancel_left _ (Nat.mul_pos hg0 hS1)]
  have horb := orbits hGL K
  have hcl : ((expL g K (g.getD 0 []).length).length : Int) ≤ colI g K := by
    rw [colI, if_pos ⟨hB, by omega, by omega⟩, Int.toNat_natCast]
    have h2 : sumC g K g.length = g.length * firstN g (wordsL K (g.getD 0 []).length) actL := by
      rw [← horb]
      have h3 : ∀ j, j ≤ g.length → sumC g K j = sumL (fun p => K ^ (cycL p).length) (g.take j) := by
        intro j
        induction j with
        | zero => intro _; simp [sumC, sumL]
        | succ j ih =>
          intro hj
          rw [sumC, ih (by omega), L_succ g j [] (by omega), sumL_app]
          rfl
      rw [h3 _ (Nat.le_refl _), List.take_length]
    rw [h2, Nat.mul_div_cancel_left _ hg0]
    omega
  -- the coloring and the exchange that are drawn
  have hw : (drwC code K (cu0 code 40) (g.getD 0 []).length).2 ∈ wordsL K (g.getD 0 []).length := (mem_words _ _ _).2 ⟨drwC_len _ _ _ _, drwC_b code hK1 _ _⟩
  have hq := mkPerm_ok code (cu0 code 60) hK1 (show K ≤ 10 by omega)
  generalize hwe : (drwC code K (cu0 code 40) (g.getD 0 []).length).2 = w at *
  generalize hqe : (mkPerm code (cu0 code 60) K).2 = q at *
  have hcol : ∀ v, v ∈ wordsL K (g.getD 0 []).length → ColP v := fun v hv => col_of hn1 (by omega) (show K ≤ 4 by omega) hv
  have hbel : ∀ v, v ∈ wordsL K (g.getD 0 []).length → belowB v K = true := fun v hv => (belowB_iff v K).2 fun i hi => ((words_b hv).2 i hi).2
  have hlen : ∀ v, v ∈ wordsL K (g.getD 0 []).length → v.length = (g.getD 0 []).length := fun v hv => (words_b hv).1
  have hexB : exB w q = true := by
    rw [exB, (colB_iff w).2 (hcol w hw), (permB_iff q).2 hq.1, hq.2, hbel w hw, decide_eq_true (by omega)]; rfl
  have hcxB : ∀ v, v ∈ wordsL K (g.getD 0 []).length → cxB g K v = true := fun v hv => by
    rw [cxB, fitB, hB, (colB_iff v).2 (hcol v hv), hbel v hv, decide_eq_true (hlen v hv).symm, decide_eq_true (by omega), decide_eq_true (by omega)]; rfl
  have hCE : ∀ v, v ∈ wordsL K (g.getD 0 []).length → AC Try.prog 16 [.d true (.sl (.sl .int)) g, I (K : Nat), .d true (.sl .int) v] [] [.d true (.sl .int) (cexL g v), .d true .bool true] [] := fun v hv =>
    impl_CanonExchange_d true true g K v hgl hgx (by have := hlen v hv; omega) (hcxB v hv)
  have hx := ex_words hq hw
  have ha := cex_words hGL hK1 (show K ≤ 4 by omega) hw
  obtain ⟨hff, q2, hq2, hfe⟩ := first_first_eq hn1 (show (g.getD 0 []).length ≤ 10 by omega) hK1 (show K ≤ 4 by omega) hw
  have hf : firstL w ∈ wordsL K (g.getD 0 []).length := by rw [hfe]; exact ex_words hq2 hw
  have e1 : cexL g (exL w q) = cexL g w := cex_ex hGL hK1 (by omega) hw hq
  have e2 : cexL g (cexL g w) = cexL g w := cex_cex hGL hK1 (by omega) hw
  have e3 : cexL g (firstL w) = cexL g w := by rw [hfe]; exact cex_ex hGL hK1 (by omega) hw hq2
  have hmem := mem_exp hGL hK1 (show K ≤ 4 by omega) hw
  have hone := occ_one (exp_nodup g K _) hmem
  have hocl := occ_le (expL g K (g.getD 0 []).length) (cexL g w)
  have hm1 := firstL_max w (hcol w hw)
  have hm2 := firstL_max (firstL w) (hcol _ hf)
  have hmo : mostI (firstL w) = mostI w := by
    rw [mostI, if_pos ((colB_iff _).2 (hcol _ hf)), mostI, if_pos ((colB_iff _).2 (hcol _ hw))]
    rw [hff] at hm2
    rw [mostI, if_pos ((colB_iff _).2 (hcol _ hf))] at hm2
    rw [mostI, if_pos ((colB_iff _).2 (hcol _ hw))] at hm1
    omega
  have hCEw := hCE w hw
  have hCEx := hCE _ hx
  have hCEa := hCE _ ha
  have hCEf := hCE _ hf
  rw [e1] at hCEx
  rw [e2] at hCEa
  rw [e3] at hCEf
  have hal := hlen _ ha
  have hwl := hlen _ hw
  have hfl := hlen _ hf
  have hf0 := first0 (hcol w hw)
  have hfc := hcol _ hf
  have hwc := hcol _ hw
  have hll : (expL g K (g.getD 0 []).length).length ≤ 1024 := by
    unfold expL
    refine Nat.le_trans (List.length_filter_le _ _) ?_
    rw [wordsL_len]; exact hpw
  have hpos : 0 < (expL g K (g.getD 0 []).length).length := List.length_pos_of_mem hmem
  have hyl : ∀ i, i < (expL g K (g.getD 0 []).length).length → ((expL g K (g.getD 0 []).length).getD i []).length = (g.getD 0 []).length := fun i hi => by
    rw [getD_get _ _ _ hi]
    exact hlen _ (List.mem_filter.1 (List.getElem_mem hi)).1
  generalize expL g K (g.getD 0 []).length = l at *
  generalize cexL g w = a at *
  have hFC := impl_FirstColors true w hwc
  have hb20 := mkNum_b code 20
  have hsm := laws_same_dec true true a a (by omega) rfl
  rw [decide_eq_true rfl] at hsm
  refine AC_of tauOk 186 0 [2] Try.func3 rfl (by kernel_rfl) rfl rfl rfl rfl rfl ?_
  refine ⟨fun h1 => ?_, fun h1 => ?_⟩
  · exact ⟨none, ⟨rfl, trivial⟩, rfl, rfl⟩
  have hl : code.length ≤ 1048576 := by omega
  have hMG := spec_MakeGroup code hl 0 (by decide)
  rw [hg] at hMG
  have hMC := spec_MakeColors code hl 40 (g.getD 0 []).length K (by decide) hn1 (by omega) hK1 (by omega)
  rw [hwe] at hMC
  have hMP := spec_MakePerm code hl 60 K (by decide) hK1 (by omega)
  rw [hqe] at hMP
  refine ⟨[], false, _, _, hMG, List.nodup_nil, rfl, rfl, trivial, 0, rfl, hg0, ?_⟩
  refine ⟨[], false, _, _, spec_MakeNum code hl 20 (by decide), List.nodup_nil, rfl, rfl, trivial, by decide, _, rfl, (K : Int), w64_eq hK.symm (by omega) (by omega), ?_⟩
  refine ⟨[], true, _, _, hEP, List.nodup_nil, rfl, rfl, trivial, fun _ => ?_, nofun⟩
  refine ⟨[], false, _, _, impl_CountExchange true g K hgl hgx, List.nodup_nil, rfl, rfl, trivial, fun h => (h hcx).elim, fun _ => ?_⟩
  refine ⟨[], false, _, _, impl_CountColorings true g K hgl hgx, List.nodup_nil, rfl, rfl, trivial, fun h => absurd h (by omega), fun _ => ?_⟩
  refine ⟨fun h => absurd h (by omega), fun _ => ?_⟩
  refine ⟨[], true, _, _, hMC, List.nodup_nil, rfl, rfl, trivial, ?_⟩
  refine ⟨[], true, _, _, hMP, List.nodup_nil, rfl, rfl, trivial, ?_⟩
  refine ⟨[], true, _, _, impl_ExchangeColors true true w q (by omega) (by have := hq.2; omega) hexB, List.nodup_nil, rfl, rfl, trivial, fun _ => ?_, nofun⟩
  refine ⟨[], false, _, _, hCEw, List.nodup_nil, rfl, rfl, trivial, fun _ => ?_, nofun⟩
  refine ⟨[], false, _, _, hCEx, List.nodup_nil, rfl, rfl, trivial, fun _ => ?_, nofun⟩
  refine ⟨[], false, _, _, hCEa, List.nodup_nil, rfl, rfl, trivial, fun _ => ?_, nofun⟩
  refine ⟨[], true, _, _, hFC, List.nodup_nil, rfl, rfl, trivial, fun _ => ?_, nofun⟩
  refine ⟨[], false, _, _, hCEf, List.nodup_nil, rfl, rfl, trivial, fun _ => ?_, nofun⟩
  refine ⟨[], false, _, _, hsm, List.nodup_nil, rfl, rfl, trivial, fun _ => ?_, nofun⟩
  refine ⟨[], false, _, _, hsm, List.nodup_nil, rfl, rfl, trivial, fun _ => ?_, nofun⟩
  refine ⟨[], false, _, _, hsm, List.nodup_nil, rfl, rfl, trivial, fun _ => ?_, nofun⟩
  refine ⟨fun h => absurd h (by omega), fun _ => ?_⟩
  refine ⟨0, rfl, by omega, fun h => (h hf0).elim, fun _ => ?_⟩
  refine ⟨[], false, _, _, impl_ColorsUsed true (firstL w) (by omega), List.nodup_nil, rfl, rfl, trivial, ?_⟩
  refine ⟨[], false, _, _, impl_ColorsUsed true w (by omega), List.nodup_nil, rfl, rfl, trivial, fun h => (h hmo).elim, fun _ => ?_⟩
  refine ⟨Nat, fun i => ⟨[(12, .d true (.sl .int) a), (22, I (occ l a i : Nat)), (172, .d true (.sl (.sl .int)) l), (173, I l.length), (174, I (i : Nat))], []⟩, fun i => i ≤ l.length, fun i => l.length - i, 0, Nat.zero_le _,
    ⟨⟨rfl, rfl⟩, ⟨rfl, rfl, rfl, rfl, rfl, trivial⟩, trivial⟩, fun i hi => ?_⟩
  dsimp only at hi
  have hoci := hocl i
  refine ⟨fun h2 => ?_, fun h2 => ?_⟩
  · have hi2 : i < l.length := by omega
    have hy := hyl i hi2
    refine ⟨i, rfl, hi2, ?_⟩
    refine ⟨[], false, _, _, laws_same_dec true true (l.getD i []) a (by omega) (by omega), List.nodup_nil, rfl, rfl, trivial, fun h3 => ?_, fun h3 => ?_⟩
    · have h3 := of_decide_eq_true h3
      refine ⟨((occ l a (i + 1) : Nat) : Int), w64_eq (by rw [occ, if_pos h3]; omega) (by omega) (by rw [occ, if_pos h3]; omega), ?_⟩
      exact ⟨((i + 1 : Nat) : Int), w64_eq (by omega) (by omega) (by omega), i + 1, by dsimp only; omega, by dsimp only; omega, ⟨rfl, rfl⟩, ⟨rfl, rfl, rfl, rfl, rfl, trivial⟩, trivial⟩
    · have h3 := of_decide_eq_false h3
      exact ⟨((i + 1 : Nat) : Int), w64_eq (by omega) (by omega) (by omega), i + 1, by dsimp only; omega, by dsimp only; omega, ⟨rfl, rfl⟩, ⟨rfl, retI (by rw [occ, if_neg h3]), rfl, rfl, rfl, trivial⟩, trivial⟩
  · obtain rfl : i = l.length := by omega
    refine ⟨fun _ => ?_, fun h3 => absurd (show ((occ l a l.length : Nat) : Int) = 1 by omega) h3⟩
    exact ⟨none, ⟨rfl, trivial⟩, rfl, rfl⟩
end Go.Proofs.Ytbnonelkdgkpdaa
