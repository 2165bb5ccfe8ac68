/-
  Contracts of the functions that count by exchanged colors.
-/
import Derived.Test.YtbnonelkdgkpdaaPls
import Derived.Test.YtbnonelkdgkpdaaWgok
import Derived.Test.YtbnonelkdgkpdaaWcan
import Derived.Test.YtbnonelkdgkpdaaWcyc
set_option linter.unusedVariables false
namespace Go.Proofs.Ytbnonelkdgkpdaa
open Go Go.Proofs.Ytbnonelkdgkpdaa.Ow
/-- impl.PowerPerm -/
theorem impl_PowerPerm (sh : Bool) (h : List Int) (c : Nat) (hP : PermP h) (hc : c ≤ 1000) : AC Try.prog 51 [.d sh (.sl .int) h, I (c : Nat)] [] [.d true (.sl .int) (powL h c), .d true .bool true] [] := by
  have hok := powL_ok h (permR hP)
  have hl := hP.1
  refine AC_of tauOk 29 0 [4, 5] Try.func51 rfl (by kernel_rfl) rfl rfl rfl rfl rfl ?_
  refine ⟨[], false, _, _, impl_PermOk sh h (by omega), List.nodup_nil, rfl, rfl, trivial, fun _ => ?_, fun e => by rw [(permB_iff h).2 hP] at e; cases e⟩
  refine ⟨fun e => by omega, fun _ => ?_⟩
  refine ⟨fun e => by omega, fun _ => ?_⟩
  refine ⟨[], true, _, _, impl_IdentityPerm h.length (by omega) (by omega), List.nodup_nil, rfl, rfl, trivial, ?_⟩
  refine ⟨Nat, fun k => ⟨[(0, .d sh (.sl .int) h), (21, I (c : Nat)), (6, .d true (.sl .int) (powL h k)), (22, I (k : Nat))], []⟩, fun k => k ≤ c, fun k => c - k, 0, Nat.zero_le _,
    ⟨⟨rfl, rfl⟩, ⟨rfl, rfl, rfl, rfl, trivial⟩, trivial⟩, fun k hk => ?_⟩
  dsimp only at hk
  refine ⟨fun h2 => ?_, fun h2 => ?_⟩
  · have hk1 := hok k
    refine ⟨[], true, _, _, impl_compose true sh (powL h k) h (by omega) hk1.2, List.nodup_nil, rfl, rfl, trivial, ?_⟩
    exact ⟨((k + 1 : Nat) : Int), w64_eq (by omega) (by omega) (by omega), k + 1, by dsimp only; omega, by dsimp only; omega, ⟨rfl, rfl⟩, ⟨rfl, rfl, rfl, rfl, trivial⟩, trivial⟩
  · obtain rfl : k = c := by omega
    exact ⟨none, ⟨rfl, rfl, trivial⟩, rfl, rfl⟩
/-- impl.movedPoints -/
theorem impl_movedPoints (sh : Bool) (x : List Int) (hl : x.length ≤ 1048576) : AC Try.prog 52 [.d sh (.sl .int) x] [] [I (x.length - fixN x x.length : Nat)] [] := by
  refine AC_of tauOk 20 0 [2] Try.func52 rfl (by kernel_rfl) rfl rfl rfl rfl rfl ?_
  refine ⟨Nat, fun k => ⟨[(3, I (k - fixN x k : Nat)), (6, .d sh (.sl .int) x), (7, I x.length), (8, I (k : Nat))], []⟩, fun k => k ≤ x.length, fun k => x.length - k, 0, Nat.zero_le _,
    ⟨⟨rfl, rfl⟩, ⟨rfl, rfl, rfl, rfl, trivial⟩, trivial⟩, fun k hk => ?_⟩
  dsimp only at hk
  have hf := fixN_le x k
  refine ⟨fun h2 => ?_, fun h2 => ?_⟩
  · have hk2 : k < x.length := by omega
    refine ⟨k, rfl, hk2, fun h3 => ?_, fun h3 => ?_⟩
    · have e : fixN x (k + 1) = fixN x k := by rw [fixN, if_neg (fun e => h3 (by omega))]
      refine ⟨((k + 1 - fixN x (k + 1) : Nat) : Int), w64_eq (by omega) (by omega) (by omega), ?_⟩
      exact ⟨((k + 1 : Nat) : Int), w64_eq (by omega) (by omega) (by omega), k + 1, by dsimp only; omega, by dsimp only; omega, ⟨rfl, rfl⟩, ⟨rfl, rfl, rfl, rfl, trivial⟩, trivial⟩
    · have e : fixN x (k + 1) = fixN x k + 1 := by rw [fixN, if_pos (by omega)]
      exact ⟨((k + 1 : Nat) : Int), w64_eq (by omega) (by omega) (by omega), k + 1, by dsimp only; omega, by dsimp only; omega, ⟨rfl, rfl⟩, ⟨retI (by omega), rfl, rfl, rfl, trivial⟩, trivial⟩
  · obtain rfl : k = x.length := by omega
    exact ⟨none, ⟨rfl, trivial⟩, rfl, rfl⟩
/-- what is counted -/
def cexI (g : List (List Int)) (k : Int) : Int := if gokB g = true ∧ 1 ≤ k ∧ k ≤ 4 then ((sumG g (symL k.toNat) g.length / (g.length * (symL k.toNat).length) : Nat) : Int) else -1
structure CexOk (g : List (List Int)) (k : Nat) : Prop where
  gr : GrpP g
  sy : SymOk k
  p : ∀ a, a < g.length → PermP (g.getD a [])
  c1 : ∀ a, a < g.length → (cycL (g.getD a [])).length ≤ 10
  c2 : ∀ a, a < g.length → ∀ j, j < (cycL (g.getD a [])).length → ((cycL (g.getD a [])).getD j []).length ≤ 10
  s : ∀ b, b < (symL k).length → PermP ((symL k).getD b []) ∧ ((symL k).getD b []).length = k
theorem cex_ok {g : List (List Int)} {k : Nat} (hg : gokB g = true) (h1 : 1 ≤ k) (h4 : k ≤ 4) : CexOk g k := by
  have hG := (gokB_iff g).1 hg
  have hS := sym_ok k (by omega) h1
  have hp : ∀ a, a < g.length → PermP (g.getD a []) := fun a ha => (gok1_p (hG.o1 a ha)).1
  have hc : ∀ a, a < g.length → (cycL (g.getD a [])).length ≤ 10 ∧ ∀ c ∈ cycL (g.getD a []), c.length ≤ 10 := fun a ha => by
    have hP := hp a ha
    have h := cyc_ok (g.getD a []) (permR hP) (g.getD a []).length (Nat.le_refl _)
    have hl := hP.1
    exact ⟨Nat.le_trans h.2.1 hl.2, fun c hc => by have := (h.2.2 c hc).2.1; omega⟩
  exact ⟨hG, hS, hp, fun a ha => (hc a ha).1, fun a ha j hj => by rw [getD_get _ _ _ hj]; exact (hc a ha).2 _ (List.getElem_mem hj), fun b hb => symL_get hS b hb⟩
/-- impl.CountExchange -/
theorem impl_isColors (n : Int) : AC Try.prog 48 [I n] [] [.d true .bool (decide (1 ≤ n) && decide (n ≤ 4))] [] := by
  refine AC_of tauOk 9 0 [2] Try.func48 rfl (by kernel_rfl) rfl rfl rfl rfl rfl ?_
  refine ⟨fun h => ?_, fun h => ?_⟩
  · refine ⟨fun h2 => ?_, fun h2 => ?_⟩
    · exact ⟨none, ⟨retB (by rw [decide_eq_true (show 1 ≤ n by omega), decide_eq_true h2]; rfl), trivial⟩, rfl, rfl⟩
    · exact ⟨none, ⟨retB (by rw [decide_eq_false h2, Bool.and_false]), trivial⟩, rfl, rfl⟩
  · exact ⟨none, ⟨retB (by rw [decide_eq_false (show ¬ 1 ≤ n by omega)]; rfl), trivial⟩, rfl, rfl⟩
theorem impl_CountExchange (sh : Bool) (g : List (List Int)) (k : Int) (hl : g.length ≤ 1048576) (hx : ∀ i, i < g.length → (g.getD i []).length ≤ 1048576) : AC Try.prog 11 [.d sh (.sl (.sl .int)) g, I k] [] [I (cexI g k)] [] := by
  refine AC_of tauOk 71 0 [4] Try.func11 rfl (by kernel_rfl) rfl rfl rfl rfl rfl ?_
  refine ⟨[], false, _, _, impl_GroupOk sh g hl hx, List.nodup_nil, rfl, rfl, trivial, fun hg => ?_, fun hg => ?_⟩
  · refine ⟨[], false, _, _, impl_isColors _, List.nodup_nil, rfl, rfl, trivial, fun hk => ?_, fun hk => ?_⟩
    · simp only [Bool.and_eq_true, decide_eq_true_eq] at hk
      obtain ⟨K, rfl⟩ : ∃ K : Nat, k = (K : Int) := ⟨k.toNat, by omega⟩
      have C := cex_ok hg (k := K) (by omega) (by omega)
      have hs2 := C.sy.l2
      have hs1 := C.sy.l1
      have hg1 := C.gr.l1
      have hg2 := C.gr.l2
      have hB := sumG_le g (symL K) (fun b hb => by have := (C.s b hb).2; omega) hs2 C.c1
      have eI : cexI g (K : Int) = ((sumG g (symL K) g.length / (g.length * (symL K).length) : Nat) : Int) := by
        rw [cexI, if_pos ⟨hg, hk⟩, Int.toNat_natCast]
      rw [eI]
      refine ⟨[], true, _, _, impl_renamings K (by omega) (by omega), List.nodup_nil, rfl, rfl, trivial, ?_⟩
      have hsp := C.s
      generalize symL K = S at *
      refine ⟨Nat, fun a => ⟨[(0, .d sh (.sl (.sl .int)) g), (1, I (K : Nat)), (5, I (sumG g S a : Nat)), (6, .d true (.sl (.sl .int)) S), (26, .d sh (.sl (.sl .int)) g), (27, I g.length), (28, I (a : Nat))], []⟩, fun a => a ≤ g.length, fun a => g.length - a, 0, Nat.zero_le _,
        ⟨⟨rfl, rfl⟩, ⟨rfl, rfl, rfl, rfl, rfl, rfl, rfl, trivial⟩, trivial⟩, fun a ha => ?_⟩
      dsimp only at ha
      have hBa := hB a ha
      refine ⟨fun h2 => ?_, fun h2 => ?_⟩
      · have ha2 : a < g.length := by omega
        have hca := C.c1 a ha2
        have hcj := C.c2 a ha2
        have hH := sumH_le (g.getD a []) S (fun b hb => by have := (hsp b hb).2; omega) hca
        refine ⟨a, rfl, ha2, ?_⟩
        refine ⟨Nat, fun b => ⟨[(0, .d sh (.sl (.sl .int)) g), (1, I (K : Nat)), (5, I (sumG g S a + sumH (g.getD a []) S b : Nat)), (6, .d true (.sl (.sl .int)) S), (26, .d sh (.sl (.sl .int)) g), (27, I g.length), (28, I (a : Nat)), (8, .d sh (.sl .int) (g.getD a [])), (32, .d true (.sl (.sl .int)) S), (33, I S.length), (34, I (b : Nat))], []⟩, fun b => b ≤ S.length, fun b => S.length - b, 0, Nat.zero_le _,
          ⟨⟨rfl, rfl⟩, ⟨rfl, rfl, rfl, rfl, rfl, rfl, rfl, rfl, rfl, rfl, rfl, trivial⟩, trivial⟩, fun b hb => ?_⟩
        dsimp only at hb
        have hHb := hH b hb
        refine ⟨fun h3 => ?_, fun h3 => ?_⟩
        · have hb2 : b < S.length := by omega
          have hq := hsp b hb2
          have hpr := prdN_le2 (S.getD b []) (cycL (g.getD a [])) (by omega) hca
          refine ⟨b, rfl, hb2, [], true, _, _, impl_CyclesOf sh (g.getD a []) (C.p a ha2), List.nodup_nil, rfl, rfl, trivial, ?_⟩
          refine ⟨Nat, fun j => ⟨[(0, .d sh (.sl (.sl .int)) g), (1, I (K : Nat)), (5, I (sumG g S a + sumH (g.getD a []) S b : Nat)), (6, .d true (.sl (.sl .int)) S), (26, .d sh (.sl (.sl .int)) g), (27, I g.length), (28, I (a : Nat)), (8, .d sh (.sl .int) (g.getD a [])), (32, .d true (.sl (.sl .int)) S), (33, I S.length), (34, I (b : Nat)),
            (10, .d true (.sl .int) (S.getD b [])), (11, I (prdN (S.getD b []) (cycL (g.getD a [])) j : Nat)), (39, .d true (.sl (.sl .int)) (cycL (g.getD a []))), (40, I (cycL (g.getD a [])).length), (41, I (j : Nat))], []⟩, fun j => j ≤ (cycL (g.getD a [])).length, fun j => (cycL (g.getD a [])).length - j, 0, Nat.zero_le _,
            ⟨⟨rfl, rfl⟩, ⟨rfl, rfl, rfl, rfl, rfl, rfl, rfl, rfl, rfl, rfl, rfl, rfl, rfl, rfl, rfl, rfl, trivial⟩, trivial⟩, fun j hj => ?_⟩
          dsimp only at hj
          refine ⟨fun h4 => ?_, fun h4 => ?_⟩
          · have hj2 : j < (cycL (g.getD a [])).length := by omega
            have hcl := hcj j hj2
            have hpj := hpr (j + 1) hj2
            have hpo := powL_ok (S.getD b []) (permR hq.1) ((cycL (g.getD a [])).getD j []).length
            have hfx := fixN_le (powL (S.getD b []) ((cycL (g.getD a [])).getD j []).length) (powL (S.getD b []) ((cycL (g.getD a [])).getD j []).length).length
            refine ⟨j, rfl, hj2, [], false, _, _, impl_PowerPerm true (S.getD b []) ((cycL (g.getD a [])).getD j []).length hq.1 (by omega), List.nodup_nil, rfl, rfl, trivial, fun _ => ?_, nofun⟩
            refine ⟨[], false, _, _, impl_movedPoints true (powL (S.getD b []) ((cycL (g.getD a [])).getD j []).length) (by omega), List.nodup_nil, rfl, rfl, trivial, ?_⟩
            refine ⟨((kepN (S.getD b []) ((cycL (g.getD a [])).getD j []).length : Nat) : Int), w64_eq (by rw [kepN, ← hpo.1]; omega) (by omega) (by rw [kepN, ← hpo.1]; omega), ?_⟩
            refine ⟨((prdN (S.getD b []) (cycL (g.getD a [])) (j + 1) : Nat) : Int), w64_eq (by rw [prdN, Int.natCast_mul]) (by omega) (by omega), ?_⟩
            exact ⟨((j + 1 : Nat) : Int), w64_eq (by omega) (by omega) (by omega), j + 1, by dsimp only; omega, by dsimp only; omega, ⟨rfl, rfl⟩, ⟨rfl, rfl, rfl, rfl, rfl, rfl, rfl, rfl, rfl, rfl, rfl, rfl, rfl, rfl, rfl, rfl, trivial⟩, trivial⟩
          · obtain rfl : j = (cycL (g.getD a [])).length := by omega
            have hpj := hpr _ (Nat.le_refl _)
            refine ⟨((sumG g S a + sumH (g.getD a []) S (b + 1) : Nat) : Int), w64_eq (by rw [sumH]; omega) (by omega) (by rw [sumH]; omega), ?_⟩
            exact ⟨((b + 1 : Nat) : Int), w64_eq (by omega) (by omega) (by omega), b + 1, by dsimp only; omega, by dsimp only; omega, ⟨rfl, rfl⟩, ⟨rfl, rfl, rfl, rfl, rfl, rfl, rfl, rfl, rfl, rfl, rfl, trivial⟩, trivial⟩
        · obtain rfl : b = S.length := by omega
          exact ⟨((a + 1 : Nat) : Int), w64_eq (by omega) (by omega) (by omega), a + 1, by dsimp only; omega, by dsimp only; omega, ⟨rfl, rfl⟩, ⟨rfl, rfl, rfl, rfl, rfl, rfl, rfl, trivial⟩, trivial⟩
      · obtain rfl : a = g.length := by omega
        have hd1 : sumG g S g.length / (g.length * S.length) ≤ sumG g S g.length := Nat.div_le_self _ _
        have hm : g.length * S.length ≤ 120 * 120 := Nat.mul_le_mul hg2 hs2
        have hm0 : 0 < g.length * S.length := Nat.mul_pos (by omega) (by omega)
        refine ⟨((g.length * S.length : Nat) : Int), w64_eq (Int.natCast_mul _ _) (by omega) (by omega), by omega, ((sumG g S g.length / (g.length * S.length) : Nat) : Int), w64_eq (Int.ofNat_tdiv _ _) (Int.le_trans (by decide) (Int.natCast_nonneg _)) (by omega), ?_⟩
        exact ⟨none, ⟨rfl, trivial⟩, rfl, rfl⟩
    · simp only [Bool.and_eq_false_iff, decide_eq_false_iff_not] at hk
      exact ⟨none, ⟨retI (by rw [cexI, if_neg (fun e => by omega)]), trivial⟩, rfl, rfl⟩
  · exact ⟨none, ⟨retI (by rw [cexI, if_neg (fun e => by rw [hg] at e; cases e.1)]), trivial⟩, rfl, rfl⟩
def cptI (n k : Int) : Int := if 1 ≤ n ∧ n ≤ 10 then cexI [idL n.toNat] k else -1
theorem cptI_no (n k : Int) (h : ¬ (1 ≤ k ∧ k ≤ 4)) : cptI n k = -1 := by
  unfold cptI cexI
  split
  · rw [if_neg (fun e => h e.2)]
  · rfl
end Go.Proofs.Ytbnonelkdgkpdaa
