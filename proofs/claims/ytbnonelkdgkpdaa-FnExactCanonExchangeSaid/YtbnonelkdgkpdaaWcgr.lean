/-
  Contracts of the functions that count graphs.
-/
import Derived.Test.YtbnonelkdgkpdaaPls
import Derived.Test.YtbnonelkdgkpdaaWcan
import Derived.Test.YtbnonelkdgkpdaaWcyc
set_option linter.unusedVariables false
namespace Go.Proofs.Ytbnonelkdgkpdaa
open Go Go.Proofs.Ytbnonelkdgkpdaa.Ow
theorem set_back (l : List Int) (i : Nat) (v : Int) (hi : i < l.length) : (l.set i v).set i (l.getD i 0) = l := by
  rw [List.set_set, getD_get _ _ _ hi]
  exact List.set_getElem_self hi
/-- contents of two colors -/
structure ConP (l : List Int) (m : Nat) : Prop where
  l2 : l.length = 2
  el : ∀ i, i < 2 → 0 ≤ l.getD i 0 ∧ l.getD i 0 ≤ 10
  su : l.getD 0 0 + l.getD 1 0 = (m : Int)
theorem con_of (m e : Nat) (hm : m ≤ 10) (he : e ≤ m) : ConP [((m - e : Nat) : Int), (e : Int)] m := by
  refine ⟨rfl, fun i hi => ?_, ?_⟩
  · have : i = 0 ∨ i = 1 := by omega
    rcases this with rfl | rfl
    · show 0 ≤ ((m - e : Nat) : Int) ∧ ((m - e : Nat) : Int) ≤ 10; omega
    · show 0 ≤ (e : Int) ∧ (e : Int) ≤ 10; omega
  · show ((m - e : Nat) : Int) + (e : Int) = (m : Int); omega
def conF (l : List Int) : Nat → Int
  | 0 => 0
  | k + 1 => conF l k + l.getD k 0
theorem cyc_small {q : List Int} (hq : PermP q) : (cycL q).length ≤ 10 ∧ ∀ i, i < (cycL q).length → ((cycL q).getD i []).length ≤ 10 := by
  have hl := hq.1
  have h := cyc_ok q (permR hq) q.length (Nat.le_refl _)
  refine ⟨Nat.le_trans h.2.1 hl.2, fun i hi => ?_⟩
  rw [getD_get _ _ _ hi]
  have := (h.2.2 _ (List.getElem_mem hi)).2.1
  omega
structure CgOk (n : Nat) : Prop where
  p : ∀ k, k < (actsL n).length → PermP ((actsL n).getD k []) ∧ ((actsL n).getD k []).length = cp n
  e : sumTo (cgwN n) (cp n + 1) = cgpN n / (actsL n).length
theorem cg_ok (n : Nat) (hn : n < 6) (h2 : 2 ≤ n) : CgOk n := by
  have h := cg_all n hn h2
  unfold cgCheck at h
  simp only [Bool.and_eq_true, decide_eq_true_eq, List.all_eq_true] at h
  refine ⟨fun k hk => ?_, h.2⟩
  rw [getD_get _ _ _ hk]
  have := h.1 _ (List.getElem_mem hk)
  exact ⟨(permB_iff _).1 this.1, this.2⟩
theorem ways_le {q l : List Int} (hq : PermP q) (hl : l.length = 2) : waysN (cycL q) l ≤ 1024 :=
  Nat.le_trans (waysN_le 2 (cycL q) l hl) (Nat.le_trans (Nat.pow_le_pow_right (by decide) (cyc_small hq).1) (by decide))
theorem cgs_le (n e : Nat) (hG : CgOk n) : ∀ k, k ≤ (actsL n).length → sumTo (fun k => waysN (cycL ((actsL n).getD k [])) [((cp n - e : Nat) : Int), (e : Int)]) k ≤ k * 1024 := fun k hk =>
  sumTo_le _ _ _ fun i hi => ways_le (hG.p i (by omega)).1 rfl
theorem cgw_le (n e : Nat) (hG : CgOk n) (h : (actsL n).length ≤ 120) : cgwN n e ≤ 122880 := by
  have h1 : cgwN n e ≤ cgsN n e := Nat.div_le_self _ _
  have h2 := cgs_le n e hG (actsL n).length (Nat.le_refl _)
  unfold cgsN at h1
  omega
def ccN (q : List Int) : Nat := if permB q = true then (cycL q).length else 0
theorem ccN_le (q : List Int) : ccN q ≤ 10 := by
  unfold ccN
  split
  · rename_i h; exact (cyc_small ((permB_iff q).1 h)).1
  · omega
/-- spec.l05Power of two -/
theorem spec_l05Power2 (c : Nat) (hc : c ≤ 10) : AC Try.prog 106 [I 2, I (c : Nat)] [] [I (2 ^ c : Nat)] [] := by
  have hp : ∀ k, k ≤ c → 2 ^ k ≤ 1024 := fun k hk => Nat.le_trans (Nat.pow_le_pow_right (by decide) (show k ≤ 10 by omega)) (by decide)
  refine AC_of tauOk 16 0 [4] Try.func106 rfl (by kernel_rfl) rfl rfl rfl rfl rfl ?_
  refine ⟨Nat, fun k => ⟨[(0, I 2), (1, I (c : Nat)), (5, I (2 ^ k : Nat)), (6, I (k : Nat))], []⟩, fun k => k ≤ c, fun k => c - k, 0, Nat.zero_le _,
    ⟨⟨rfl, rfl⟩, ⟨rfl, rfl, rfl, rfl, trivial⟩, trivial⟩, fun k hk => ?_⟩
  dsimp only at hk
  refine ⟨fun h2 => ?_, fun h2 => ?_⟩
  · have := hp (k + 1) (by omega)
    refine ⟨((2 ^ (k + 1) : Nat) : Int), w64_eq (by rw [Nat.pow_succ, Int.natCast_mul]; rfl) (Int.le_trans (by decide) (Int.natCast_nonneg _)) (by omega), ?_⟩
    exact ⟨((k + 1 : Nat) : Int), w64_eq (by omega) (by omega) (by omega), k + 1, by dsimp only; omega, by dsimp only; omega, ⟨rfl, rfl⟩, ⟨rfl, rfl, rfl, rfl, trivial⟩, trivial⟩
  · obtain rfl : k = c := by omega
    exact ⟨none, ⟨rfl, trivial⟩, rfl, rfl⟩
theorem cg_one : sumTo (fun k => 2 ^ ccN ((actsL 1).getD k [])) (actsL 1).length / (actsL 1).length = 1 := by decide +kernel
theorem cg_eq (n : Nat) (h1 : 1 ≤ n) (hn : n < 6) : ((sumTo (fun k => 2 ^ ccN ((actsL n).getD k [])) (actsL n).length / (actsL n).length : Nat) : Int) = cgI n := by
  unfold cgI
  rw [if_pos (by omega), Int.toNat_natCast]
  by_cases h : n = 1
  · subst h
    rw [cg_one]; rfl
  · rw [if_neg (by omega)]
    have hG := cg_ok n hn (by omega)
    rw [hG.e]
    have : ∀ j, j ≤ (actsL n).length → sumTo (fun k => 2 ^ ccN ((actsL n).getD k [])) j = sumTo (fun k => 2 ^ (cycL ((actsL n).getD k [])).length) j := by
      intro j
      induction j with
      | zero => intro _; rfl
      | succ j ih =>
        intro hj
        rw [sumTo, sumTo, ih (by omega), ccN, if_pos ((permB_iff _).2 (hG.p j (by omega)).1)]
    rw [this _ (Nat.le_refl _)]
    rfl
end Go.Proofs.Ytbnonelkdgkpdaa
