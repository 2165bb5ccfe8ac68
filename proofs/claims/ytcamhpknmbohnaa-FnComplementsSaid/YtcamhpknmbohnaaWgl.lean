/-
  Laws about graphs that are drawn: complements, and how many graphs there are.
-/
import Derived.Test.YtcamhpknmbohnaaWcgr
import Derived.Test.YtcamhpknmbohnaaWcur
import Derived.Test.YtcamhpknmbohnaaPlJ
set_option linter.unusedVariables false
namespace Go.Proofs.Ytcamhpknmbohnaa
open Go Go.Proofs.Ytcamhpknmbohnaa.Ow
theorem onesF_le : ∀ f g, onesF f g ≤ f
  | 0, g => Nat.le_refl _
  | f + 1, g => by
    have := onesF_le f (g / 2)
    rw [onesF]; split <;> omega
theorem onesF_0 (f : Nat) : onesF f 0 = 0 := by cases f <;> rfl
/-- laws.ones -/
theorem laws_ones (g : Nat) (hg : g < 1099511627776) : AC Try.prog 36 [I (g : Nat)] [] [I (onesN g : Nat)] [] := by
  have hb := onesF_le 64 g
  refine AC_of tauOk 13 0 [2] Try.func36 rfl (by kernel_rfl) rfl rfl rfl rfl rfl ?_
  refine ⟨Nat × Nat × Nat, fun i => ⟨[(0, I (i.2.1 : Nat)), (3, I (i.2.2 : Nat))], []⟩, fun i => (i.2.1 < 2 ^ i.1 ∧ i.2.1 ≤ g) ∧ i.2.2 + onesF i.1 i.2.1 = onesF 64 g, fun i => i.1, (64, g, 0), ⟨⟨Nat.lt_of_lt_of_le hg (show 1099511627776 ≤ 2 ^ 64 by decide), Nat.le_refl _⟩, Nat.zero_add _⟩,
    ⟨⟨rfl, rfl⟩, ⟨rfl, rfl, trivial⟩, trivial⟩, ?_⟩
  rintro ⟨f, x, a⟩ ⟨⟨h1, h2⟩, h3⟩
  dsimp only at h1 h2 h3
  refine ⟨fun h4 => ?_, fun h4 => ?_⟩
  · dsimp only at h4
    obtain ⟨f, rfl⟩ : ∃ f', f = f' + 1 := by
      cases f with
      | zero => simp at h1; omega
      | succ f => exact ⟨f, rfl⟩
    rw [onesF, if_pos (by omega)] at h3
    rw [Nat.pow_succ] at h1
    refine ⟨by decide, ((x % 2 : Nat) : Int), Int.ofNat_tmod x 2, ((a + x % 2 : Nat) : Int), w64_eq (by dsimp only; omega) (by omega) (by omega), ?_⟩
    refine ⟨by decide, ((x / 2 : Nat) : Int), w64_eq (Int.ofNat_tdiv x 2) (by omega) (by omega), ?_⟩
    exact ⟨(f, x / 2, a + x % 2), ⟨⟨by dsimp only; omega, by dsimp only; omega⟩, by dsimp only; omega⟩, by dsimp only; omega, ⟨rfl, rfl⟩, ⟨rfl, rfl, trivial⟩, trivial⟩
  · dsimp only at h4
    obtain rfl : x = 0 := by omega
    rw [onesF_0] at h3
    exact ⟨none, ⟨retI (by rw [onesN]; dsimp only; omega), trivial⟩, rfl, rfl⟩
theorem cp_mul (n : Nat) (h1 : 1 ≤ n) (hn : n < 6) : ((n : Int) - 1 = ((n - 1 : Nat) : Int)) ∧ ((n : Int) * ((n - 1 : Nat) : Int) = ((n * (n - 1) : Nat) : Int)) := ⟨by omega, by rw [Int.natCast_mul]⟩
theorem dec4 (code : List Int) : ∃ n : Nat, 1 + (mkNum code 1).tmod 4 = n ∧ 1 ≤ n ∧ n < 5 := by
  have hb := mkNum_b code 1
  have ht := Int.tmod_nonneg 4 hb.1
  have ht2 := Int.tmod_lt_of_pos (mkNum code 1) (by decide : (0 : Int) < 4)
  exact ⟨(1 + (mkNum code 1).tmod 4).toNat, by omega, by omega, by omega⟩
theorem dec2p (code : List Int) (k m : Nat) : ∃ g : Nat, (mkNum code k).tmod ((2 ^ m : Nat) : Int) = g ∧ g < 2 ^ m := by
  have hb := mkNum_b code k
  have hp : 0 < 2 ^ m := Nat.pos_of_ne_zero (by simp)
  have ht := Int.tmod_nonneg ((2 ^ m : Nat) : Int) hb.1
  have ht2 := Int.tmod_lt_of_pos (mkNum code k) (show (0 : Int) < ((2 ^ m : Nat) : Int) by omega)
  exact ⟨((mkNum code k).tmod ((2 ^ m : Nat) : Int)).toNat, by omega, by omega⟩
theorem selfC_le (n : Nat) : ∀ x, selfC n x ≤ x
  | 0 => Nat.le_refl _
  | x + 1 => by
    have := selfC_le n x
    rw [selfC]; split <;> omega
/-- laws.FnComplements -/
theorem laws_FnComplements (code : List Int) : AC Try.prog 12 [.d true (.sl .u8) code] [] [.d true .bool true] [] := by
  obtain ⟨n, hn, hn1, hn4⟩ := dec4 code
  obtain ⟨g, hg, hglt⟩ := dec2p code 3 (cp n)
  have hcp := cp_le n (by omega)
  have hG := graphB_of n g hn1 (by omega) hglt
  have hall := comp_all n hn4 hn1
  have hck := hall.1 g hglt
  have hcnt := hall.2
  have hmul := cp_mul n hn1 (by omega)
  have hb1 := mkNum_b code 1
  have hb3 := mkNum_b code 3
  have hc1 : compI (n : Nat) (g : Nat) = ((2 ^ cp n - 1 - g : Nat) : Int) := by rw [compI, if_pos hG, Int.toNat_natCast]; omega
  have hG2 := graphB_of n (2 ^ cp n - 1 - g) hn1 (by omega) (by omega)
  have hc2 : compI (n : Nat) ((2 ^ cp n - 1 - g : Nat) : Int) = (g : Int) := by rw [compI, if_pos hG2, Int.toNat_natCast]; omega
  have hself : selfB (n : Nat) (g : Nat) = sameG (n : Nat) (g : Nat) ((2 ^ cp n - 1 - g : Nat) : Int) := by rw [selfB, hG, hc1]; rfl
  have hI := impl_IsSelf (n : Nat) (g : Nat)
  have hK1 := impl_ComplementOf (n : Nat) (g : Nat)
  rw [hG, hc1] at hK1
  have hK2 := impl_ComplementOf (n : Nat) ((2 ^ cp n - 1 - g : Nat) : Int)
  rw [hG2, hc2] at hK2
  have hSm := impl_SameGraph (n : Nat) (g : Nat) ((2 ^ cp n - 1 - g : Nat) : Int)
  rw [← hself] at hSm
  unfold compCheck at hck
  rw [Bool.and_eq_true, decide_eq_true_eq] at hck
  have hand : (0 : Int) = w64 ((BitVec.ofInt 64 ((2 ^ cp n - 1 - g : Nat) : Int) &&& BitVec.ofInt 64 (g : Int)).toNat : Nat) := by
    rw [← hck.1]
    congr 5
    omega
  cases hs : selfB (n : Nat) (g : Nat) <;> rw [hs] at hI hSm hck
  · refine AC_of tauOk 98 0 [2] Try.func12 rfl (by kernel_rfl) rfl rfl rfl rfl rfl ?_
    refine ⟨fun h1 => ?_, fun h1 => ?_⟩
    · exact ⟨none, ⟨rfl, trivial⟩, rfl, rfl⟩
    have hl : code.length ≤ 1048576 := by omega
    refine ⟨[], false, _, _, spec_MakeNum code hl 1 (by decide), List.nodup_nil, rfl, rfl, trivial, ?_⟩
    refine ⟨by decide, _, rfl, (n : Int), w64_eq hn.symm (by omega) (by omega), ?_⟩
    refine ⟨((n - 1 : Nat) : Int), w64_eq (by omega) (by omega) (by omega), ((n * (n - 1) : Nat) : Int), w64_eq (Int.natCast_mul _ _) (by omega) (by omega), by decide, ((cp n : Nat) : Int), w64_eq (Int.ofNat_tdiv _ _) (by omega) (by omega), ?_⟩
    refine ⟨none, by kernel_rfl, _, _, spec_MakeNum code hl 3 (by decide), rfl, Int.natCast_nonneg _, ((2 ^ cp n : Nat) : Int), shl_eq _ (by omega), by omega, (g : Int), hg.symm, ?_⟩
    refine ⟨[], false, _, _, hK1, List.nodup_nil, rfl, rfl, trivial, fun _ => ?_, nofun⟩
    refine ⟨[], false, _, _, hK2, List.nodup_nil, rfl, rfl, trivial, fun _ => ?_, nofun⟩
    refine ⟨[], false, _, _, hI, List.nodup_nil, rfl, rfl, trivial, nofun, fun _ => ?_⟩
    refine ⟨Nat, fun x => ⟨[(3, I (n : Nat)), (4, I (cp n : Nat)), (5, I (g : Nat)), (6, I (2 ^ cp n - 1 - g : Nat)), (7, .d true .bool true), (8, I (g : Nat)), (9, .d true .bool true), (10, .d true .bool false), (11, I (selfC n x : Nat)), (12, I (x : Nat))], []⟩, fun x => x ≤ 2 ^ cp n, fun x => 2 ^ cp n - x, 0, Nat.zero_le _,
      ⟨⟨rfl, rfl⟩, ⟨rfl, rfl, rfl, rfl, rfl, rfl, rfl, rfl, rfl, rfl, trivial⟩, trivial⟩, fun x hx => ?_⟩
    dsimp only at hx
    have hsl := selfC_le n x
    refine ⟨Int.natCast_nonneg _, ((2 ^ cp n : Nat) : Int), shl_eq _ (by omega), fun h2 => ?_, fun h2 => ?_⟩
    · refine ⟨[], false, _, _, impl_IsSelf (n : Nat) (x : Nat), List.nodup_nil, rfl, rfl, trivial, fun h3 => ?_, fun h3 => ?_⟩
      · refine ⟨((selfC n (x + 1) : Nat) : Int), w64_eq (by rw [selfC, if_pos h3]; omega) (by omega) (by rw [selfC, if_pos h3]; omega), ?_⟩
        exact ⟨((x + 1 : Nat) : Int), w64_eq (by omega) (by omega) (by omega), x + 1, by dsimp only; omega, by dsimp only; omega, ⟨rfl, rfl⟩, ⟨rfl, rfl, rfl, rfl, rfl, rfl, rfl, rfl, rfl, rfl, trivial⟩, trivial⟩
      · exact ⟨((x + 1 : Nat) : Int), w64_eq (by omega) (by omega) (by omega), x + 1, by dsimp only; omega, by dsimp only; omega, ⟨rfl, rfl⟩, ⟨rfl, rfl, rfl, rfl, rfl, rfl, rfl, rfl, retI (by rw [selfC, if_neg (by rw [h3]; decide)]; rfl), rfl, trivial⟩, trivial⟩
    · obtain rfl : x = 2 ^ cp n := by omega
      refine ⟨fun _ => ?_, fun h3 => (h3 rfl).elim⟩
      refine ⟨0, hand, fun _ => ?_, fun h3 => (h3 rfl).elim⟩
      refine ⟨[], false, _, _, hSm, List.nodup_nil, rfl, rfl, trivial, nofun, fun _ => ?_⟩
      refine ⟨fun _ => ?_, fun h3 => (h3 rfl).elim⟩
      refine ⟨rfl, by decide, false, n, rfl, (show n < 5 by omega), fun _ => ?_, fun h3 => (h3 hcnt).elim⟩
      exact ⟨none, ⟨rfl, trivial⟩, rfl, rfl⟩
  · refine AC_of tauOk 98 0 [2] Try.func12 rfl (by kernel_rfl) rfl rfl rfl rfl rfl ?_
    refine ⟨fun h1 => ?_, fun h1 => ?_⟩
    · exact ⟨none, ⟨rfl, trivial⟩, rfl, rfl⟩
    have hl : code.length ≤ 1048576 := by omega
    refine ⟨[], false, _, _, spec_MakeNum code hl 1 (by decide), List.nodup_nil, rfl, rfl, trivial, ?_⟩
    refine ⟨by decide, _, rfl, (n : Int), w64_eq hn.symm (by omega) (by omega), ?_⟩
    refine ⟨((n - 1 : Nat) : Int), w64_eq (by omega) (by omega) (by omega), ((n * (n - 1) : Nat) : Int), w64_eq (Int.natCast_mul _ _) (by omega) (by omega), by decide, ((cp n : Nat) : Int), w64_eq (Int.ofNat_tdiv _ _) (by omega) (by omega), ?_⟩
    refine ⟨none, by kernel_rfl, _, _, spec_MakeNum code hl 3 (by decide), rfl, Int.natCast_nonneg _, ((2 ^ cp n : Nat) : Int), shl_eq _ (by omega), by omega, (g : Int), hg.symm, ?_⟩
    refine ⟨[], false, _, _, hK1, List.nodup_nil, rfl, rfl, trivial, fun _ => ?_, nofun⟩
    refine ⟨[], false, _, _, hK2, List.nodup_nil, rfl, rfl, trivial, fun _ => ?_, nofun⟩
    refine ⟨[], false, _, _, hI, List.nodup_nil, rfl, rfl, trivial, fun _ => ?_, nofun⟩
    refine ⟨Nat, fun x => ⟨[(3, I (n : Nat)), (4, I (cp n : Nat)), (5, I (g : Nat)), (6, I (2 ^ cp n - 1 - g : Nat)), (7, .d true .bool true), (8, I (g : Nat)), (9, .d true .bool true), (10, .d true .bool true), (11, I (selfC n x : Nat)), (12, I (x : Nat))], []⟩, fun x => x ≤ 2 ^ cp n, fun x => 2 ^ cp n - x, 0, Nat.zero_le _,
      ⟨⟨rfl, rfl⟩, ⟨rfl, rfl, rfl, rfl, rfl, rfl, rfl, rfl, rfl, rfl, trivial⟩, trivial⟩, fun x hx => ?_⟩
    dsimp only at hx
    have hsl := selfC_le n x
    refine ⟨Int.natCast_nonneg _, ((2 ^ cp n : Nat) : Int), shl_eq _ (by omega), fun h2 => ?_, fun h2 => ?_⟩
    · refine ⟨[], false, _, _, impl_IsSelf (n : Nat) (x : Nat), List.nodup_nil, rfl, rfl, trivial, fun h3 => ?_, fun h3 => ?_⟩
      · refine ⟨((selfC n (x + 1) : Nat) : Int), w64_eq (by rw [selfC, if_pos h3]; omega) (by omega) (by rw [selfC, if_pos h3]; omega), ?_⟩
        exact ⟨((x + 1 : Nat) : Int), w64_eq (by omega) (by omega) (by omega), x + 1, by dsimp only; omega, by dsimp only; omega, ⟨rfl, rfl⟩, ⟨rfl, rfl, rfl, rfl, rfl, rfl, rfl, rfl, rfl, rfl, trivial⟩, trivial⟩
      · exact ⟨((x + 1 : Nat) : Int), w64_eq (by omega) (by omega) (by omega), x + 1, by dsimp only; omega, by dsimp only; omega, ⟨rfl, rfl⟩, ⟨rfl, rfl, rfl, rfl, rfl, rfl, rfl, rfl, retI (by rw [selfC, if_neg (by rw [h3]; decide)]; rfl), rfl, trivial⟩, trivial⟩
    · obtain rfl : x = 2 ^ cp n := by omega
      refine ⟨fun _ => ?_, fun h3 => (h3 rfl).elim⟩
      refine ⟨0, hand, fun _ => ?_, fun h3 => (h3 rfl).elim⟩
      refine ⟨[], false, _, _, hSm, List.nodup_nil, rfl, rfl, trivial, fun _ => ?_, nofun⟩
      refine ⟨fun _ => ?_, fun h3 => (h3 rfl).elim⟩
      have ho : 2 * onesN g = cp n := by simpa using hck.2
      refine ⟨[], false, _, _, laws_ones g (by omega), List.nodup_nil, rfl, rfl, trivial, ?_⟩
      refine ⟨((2 * onesN g : Nat) : Int), w64_eq (by omega) (by omega) (by omega), fun _ => ?_, fun h3 => (h3 (by rw [ho])).elim⟩
      refine ⟨rfl, by decide, false, n, rfl, (show n < 5 by omega), fun _ => ?_, fun h3 => (h3 hcnt).elim⟩
      exact ⟨none, ⟨rfl, trivial⟩, rfl, rfl⟩
theorem lstG_el (n k j : Nat) (hj : j < (lstG n k).length) : 0 ≤ (lstG n k).getD j 0 ∧ (lstG n k).getD j 0 < (k : Int) := by
  rw [getD_get _ _ _ hj]
  have hm : (lstG n k)[j] ∈ lstG n k := List.getElem_mem hj
  generalize (lstG n k)[j] = x at *
  unfold lstG at hm
  simp only [List.mem_map, List.mem_filter, List.mem_range] at hm
  obtain ⟨g, ⟨h1, _⟩, rfl⟩ := hm
  omega
theorem ecnt_le (l : List Int) (e : Nat) : ∀ k, ecnt l e k ≤ k
  | 0 => Nat.le_refl _
  | k + 1 => by
    have := ecnt_le l e k
    rw [ecnt]; split <;> omega
structure CntOk (n : Nat) (l : List Int) : Prop where
  a : (l.length : Int) = cgI n
  b : (l.length : Int) = [0, 1, 2, 4, 11].getD n 0
  c : ∀ e, e ≤ cp n → (ecnt l e l.length : Int) = cgwI n e
  d : ∀ e, e ≤ cp n → (ecnt l e l.length : Int) = cgwI n ((cp n - e : Nat) : Int)
  s : sumTo (fun e => ecnt l e l.length) (cp n + 1) = l.length
theorem cnt_ok (n : Nat) (hn : n < 5) (h1 : 1 ≤ n) : CntOk n (lstG n (2 ^ cp n)) := by
  have h := cnt_all n hn h1
  unfold cntCheck at h
  simp only [Bool.and_eq_true, decide_eq_true_eq, List.all_eq_true, List.mem_range] at h
  obtain ⟨⟨⟨a, b⟩, c⟩, d⟩ := h
  refine ⟨a, b, fun e he => (c e (by omega)).1, fun e he => ?_, d⟩
  have := (c e (by omega)).2
  rw [show ((cp n - e : Nat) : Int) = ((cp n : Nat) : Int) - (e : Int) by omega]
  exact this
/-- laws.FnGraphCounts -/
theorem laws_FnGraphCounts (code : List Int) : AC Try.prog 5 [.d true (.sl .u8) code] [] [.d true .bool true] [] := by
  obtain ⟨n, hn, hn1, hn4⟩ := dec4 code
  have hcp := cp_le n (by omega)
  have hb1 := mkNum_b code 1
  have hC := cnt_ok n hn4 hn1
  have hll := lstG_len n (2 ^ cp n)
  have hel := lstG_el n (2 ^ cp n)
  have hGL := impl_GraphList n hn1 hn4
  have hz : cgwI (n : Nat) ((cp n + 1 : Nat) : Int) = 0 := by
    rw [cgwI, if_pos (by omega), if_neg (by rw [Int.toNat_natCast]; omega)]
  generalize lstG n (2 ^ cp n) = l at *
  refine AC_of tauOk 97 0 [2] Try.func5 rfl (by kernel_rfl) rfl rfl rfl rfl rfl ?_
  refine ⟨fun h1 => ?_, fun h1 => ?_⟩
  · exact ⟨none, ⟨rfl, trivial⟩, rfl, rfl⟩
  have hl : code.length ≤ 1048576 := by omega
  refine ⟨[], false, _, _, spec_MakeNum code hl 1 (by decide), List.nodup_nil, rfl, rfl, trivial, ?_⟩
  refine ⟨by decide, _, rfl, (n : Int), w64_eq hn.symm (by omega) (by omega), ?_⟩
  refine ⟨((n - 1 : Nat) : Int), w64_eq (by omega) (by omega) (by omega), ((n * (n - 1) : Nat) : Int), w64_eq (Int.natCast_mul _ _) (by omega) (by omega), by decide, ((cp n : Nat) : Int), w64_eq (Int.ofNat_tdiv _ _) (by omega) (by omega), ?_⟩
  refine ⟨[], true, _, _, hGL, List.nodup_nil, rfl, rfl, trivial, fun _ => ?_, nofun⟩
  refine ⟨[], false, _, _, impl_CountGraphs (n : Nat), List.nodup_nil, rfl, rfl, trivial, fun h2 => (h2 hC.a).elim, fun _ => ?_⟩
  refine ⟨rfl, by decide, false, n, rfl, (show n < 5 by omega), fun h2 => (h2 hC.b).elim, fun _ => ?_⟩
  refine ⟨Nat, fun e => ⟨[(3, I (n : Nat)), (4, I (cp n : Nat)), (5, .d true (.sl .int) l), (7, I (sumTo (fun e => ecnt l e l.length) e : Nat)), (8, I (e : Nat))], []⟩, fun e => e ≤ cp n + 1, fun e => cp n + 1 - e, 0, Nat.zero_le _,
    ⟨⟨rfl, rfl⟩, ⟨rfl, rfl, rfl, rfl, rfl, trivial⟩, trivial⟩, fun e he => ?_⟩
  dsimp only at he
  have hse := sumTo_le (fun e => ecnt l e l.length) 1024 e fun i _ => Nat.le_trans (ecnt_le l i l.length) (by omega)
  refine ⟨fun h2 => ?_, fun h2 => ?_⟩
  · refine ⟨Nat, fun j => ⟨[(3, I (n : Nat)), (4, I (cp n : Nat)), (5, .d true (.sl .int) l), (7, I (sumTo (fun e => ecnt l e l.length) e : Nat)), (8, I (e : Nat)), (9, I (ecnt l e j : Nat)), (52, .d true (.sl .int) l), (53, I l.length), (54, I (j : Nat))], []⟩, fun j => j ≤ l.length, fun j => l.length - j, 0, Nat.zero_le _,
      ⟨⟨rfl, rfl⟩, ⟨rfl, rfl, rfl, rfl, rfl, rfl, rfl, rfl, rfl, trivial⟩, trivial⟩, fun j hj => ?_⟩
    dsimp only at hj
    have hej := ecnt_le l e j
    refine ⟨fun h3 => ?_, fun h3 => ?_⟩
    · have hj2 : j < l.length := by omega
      have hv := hel j hj2
      have hO := laws_ones (l.getD j 0).toNat (by omega)
      rw [Int.toNat_of_nonneg hv.1] at hO
      refine ⟨j, rfl, hj2, [], false, _, _, hO, List.nodup_nil, rfl, rfl, trivial, fun h4 => ?_, fun h4 => ?_⟩
      · refine ⟨((ecnt l e (j + 1) : Nat) : Int), w64_eq (by rw [ecnt, if_pos (by omega)]; omega) (by omega) (by rw [ecnt, if_pos (by omega)]; omega), ?_⟩
        exact ⟨((j + 1 : Nat) : Int), w64_eq (by omega) (by omega) (by omega), j + 1, by dsimp only; omega, by dsimp only; omega, ⟨rfl, rfl⟩, ⟨rfl, rfl, rfl, rfl, rfl, rfl, rfl, rfl, rfl, trivial⟩, trivial⟩
      · exact ⟨((j + 1 : Nat) : Int), w64_eq (by omega) (by omega) (by omega), j + 1, by dsimp only; omega, by dsimp only; omega, ⟨rfl, rfl⟩, ⟨rfl, rfl, rfl, rfl, rfl, retI (by rw [ecnt, if_neg (by omega)]; rfl), rfl, rfl, rfl, trivial⟩, trivial⟩
    · obtain rfl : j = l.length := by omega
      have he2 : e ≤ cp n := by omega
      refine ⟨[], false, _, _, impl_CountGraphsWith (n : Nat) (e : Nat), List.nodup_nil, rfl, rfl, trivial, fun h4 => (h4 (hC.c e he2)).elim, fun _ => ?_⟩
      refine ⟨((cp n - e : Nat) : Int), w64_eq (by omega) (by omega) (by omega), ?_⟩
      refine ⟨[], false, _, _, impl_CountGraphsWith (n : Nat) ((cp n - e : Nat) : Int), List.nodup_nil, rfl, rfl, trivial, fun h4 => (h4 (hC.d e he2)).elim, fun _ => ?_⟩
      refine ⟨((sumTo (fun e => ecnt l e l.length) (e + 1) : Nat) : Int), w64_eq (by rw [sumTo]; omega) (by omega) (by rw [sumTo]; omega), ?_⟩
      exact ⟨((e + 1 : Nat) : Int), w64_eq (by omega) (by omega) (by omega), e + 1, by dsimp only; omega, by dsimp only; omega, ⟨rfl, rfl⟩, ⟨rfl, rfl, rfl, rfl, rfl, trivial⟩, trivial⟩
  · obtain rfl : e = cp n + 1 := by omega
    refine ⟨fun _ => ?_, fun h3 => (h3 (by rw [hC.s])).elim⟩
    refine ⟨[], false, _, _, impl_CountGraphs 5, List.nodup_nil, rfl, rfl, trivial, fun _ => ?_, fun h3 => (h3 cnt_five).elim⟩
    refine ⟨((cp n + 1 : Nat) : Int), w64_eq (by omega) (by omega) (by omega), ?_⟩
    refine ⟨[], false, _, _, impl_CountGraphsWith (n : Nat) ((cp n + 1 : Nat) : Int), List.nodup_nil, rfl, rfl, trivial, fun _ => ?_, fun h3 => (h3 hz).elim⟩
    exact ⟨none, ⟨rfl, trivial⟩, rfl, rfl⟩
end Go.Proofs.Ytcamhpknmbohnaa
