/-
  Contracts of CountColorings and CountLine.
-/
import Derived.Test.YtbnonelkdgkpdaaWcex
import Derived.Test.YtbnonelkdgkpdaaWcgr
import Derived.Test.YtbnonelkdgkpdaaWmat
import Derived.Test.YtbnonelkdgkpdaaWfmt
import Derived.Test.YtbnonelkdgkpdaaWints
set_option linter.unusedVariables false
set_option linter.unusedSimpArgs false
namespace Go.Proofs.Ytbnonelkdgkpdaa
open Go Go.Proofs.Ytbnonelkdgkpdaa.Ow
theorem pow_le {k c d : Nat} (hk : k ≤ 4) (hc : c ≤ d) (hd : d ≤ 10) : k ^ c ≤ 1048576 := by
  refine Nat.le_trans (Nat.pow_le_pow_left hk c) (Nat.le_trans (Nat.pow_le_pow_right (by decide) (show c ≤ 10 by omega)) (by decide))
/-- spec.l05Power -/
theorem spec_l05Power (k c : Nat) (hk : k ≤ 4) (hc : c ≤ 10) : AC Try.prog 106 [I (k : Nat), I (c : Nat)] [] [I (k ^ c : Nat)] [] := by
  refine AC_of tauOk 16 0 [4] Try.func106 rfl (by kernel_rfl) rfl rfl rfl rfl rfl ?_
  refine ⟨Nat, fun j => ⟨[(0, I (k : Nat)), (1, I (c : Nat)), (5, I (k ^ j : Nat)), (6, I (j : Nat))], []⟩, fun j => j ≤ c, fun j => c - j, 0, Nat.zero_le _,
    ⟨⟨rfl, rfl⟩, ⟨rfl, rfl, rfl, rfl, trivial⟩, trivial⟩, fun j hj => ?_⟩
  dsimp only at hj
  refine ⟨fun h2 => ?_, fun h2 => ?_⟩
  · have := pow_le hk (show j + 1 ≤ c by omega) hc
    refine ⟨((k ^ (j + 1) : Nat) : Int), w64_eq (by rw [Nat.pow_succ, Int.natCast_mul]) (Int.le_trans (by decide) (Int.natCast_nonneg _)) (by omega), ?_⟩
    exact ⟨((j + 1 : Nat) : Int), w64_eq (by omega) (by omega) (by omega), j + 1, by dsimp only; omega, by dsimp only; omega, ⟨rfl, rfl⟩, ⟨rfl, rfl, rfl, rfl, trivial⟩, trivial⟩
  · obtain rfl : j = c := by omega
    exact ⟨none, ⟨rfl, trivial⟩, rfl, rfl⟩
/-- impl.power -/
theorem impl_power (k c : Nat) (hk : k ≤ 4) (hc : c ≤ 10) : AC Try.prog 53 [I (k : Nat), I (c : Nat)] [] [I (k ^ c : Nat)] [] := by
  refine AC_of tauOk 14 0 [4] Try.func53 rfl (by kernel_rfl) rfl rfl rfl rfl rfl ?_
  refine ⟨Nat, fun j => ⟨[(0, I (k : Nat)), (5, I (k ^ j : Nat)), (6, I (c : Nat)), (7, I (j : Nat))], []⟩, fun j => j ≤ c, fun j => c - j, 0, Nat.zero_le _,
    ⟨⟨rfl, rfl⟩, ⟨rfl, rfl, rfl, rfl, trivial⟩, trivial⟩, fun j hj => ?_⟩
  dsimp only at hj
  refine ⟨fun h2 => ?_, fun h2 => ?_⟩
  · have := pow_le hk (show j + 1 ≤ c by omega) hc
    refine ⟨((k ^ (j + 1) : Nat) : Int), w64_eq (by rw [Nat.pow_succ, Int.natCast_mul]) (Int.le_trans (by decide) (Int.natCast_nonneg _)) (by omega), ?_⟩
    exact ⟨((j + 1 : Nat) : Int), w64_eq (by omega) (by omega) (by omega), j + 1, by dsimp only; omega, by dsimp only; omega, ⟨rfl, rfl⟩, ⟨rfl, rfl, rfl, rfl, trivial⟩, trivial⟩
  · obtain rfl : j = c := by omega
    exact ⟨none, ⟨rfl, trivial⟩, rfl, rfl⟩
/-- impl.CountCycles -/
theorem impl_CountCycles (s : Bool) (q : List Int) (hq : PermP q) : AC Try.prog 54 [.d s (.sl .int) q] [] [I (cycL q).length] [] := by
  refine AC_of tauOk 6 0 [2] Try.func54 rfl (by kernel_rfl) rfl rfl rfl rfl rfl ?_
  refine ⟨[], true, _, _, impl_CyclesOf s q hq, List.nodup_nil, rfl, rfl, trivial, ?_⟩
  exact ⟨none, ⟨rfl, trivial⟩, rfl, rfl⟩
def sumC (g : List (List Int)) (k : Nat) : Nat → Nat
  | 0 => 0
  | a + 1 => sumC g k a + k ^ (cycL (g.getD a [])).length
theorem sumC_le (g : List (List Int)) (k : Nat) (hk : k ≤ 4) (hc : ∀ a, a < g.length → (cycL (g.getD a [])).length ≤ 10) : ∀ a, a ≤ g.length → sumC g k a ≤ a * 1048576
  | 0, _ => by simp [sumC]
  | a + 1, ha => by
    have h1 := sumC_le g k hk hc a (by omega)
    have h2 := pow_le hk (Nat.le_refl (cycL (g.getD a [])).length) (hc a (by omega))
    rw [sumC]; omega
/-- what is counted -/
def colI (g : List (List Int)) (k : Int) : Int := if gokB g = true ∧ 0 ≤ k ∧ k ≤ 4 then ((sumC g k.toNat g.length / g.length : Nat) : Int) else -1
structure ColOk (g : List (List Int)) : Prop where
  gr : GrpP g
  p : ∀ a, a < g.length → PermP (g.getD a [])
  c1 : ∀ a, a < g.length → (cycL (g.getD a [])).length ≤ 10
theorem col_ok {g : List (List Int)} (hg : gokB g = true) : ColOk g := by
  have hG := (gokB_iff g).1 hg
  have hp : ∀ a, a < g.length → PermP (g.getD a []) := fun a ha => (gok1_p (hG.o1 a ha)).1
  exact ⟨hG, hp, fun a ha => (cyc_small (hp a ha)).1⟩
/-- impl.CountColorings -/
theorem impl_CountColorings (sh : Bool) (g : List (List Int)) (k : Int) (hl : g.length ≤ 1048576) (hx : ∀ i, i < g.length → (g.getD i []).length ≤ 1048576) : AC Try.prog 12 [.d sh (.sl (.sl .int)) g, I k] [] [I (colI g k)] [] := by
  refine AC_of tauOk 36 0 [4] Try.func12 rfl (by kernel_rfl) rfl rfl rfl rfl rfl ?_
  refine ⟨[], false, _, _, impl_GroupOk sh g hl hx, List.nodup_nil, rfl, rfl, trivial, fun hg => ?_, fun hg => ?_⟩
  · refine ⟨fun hk => ?_, fun hk => ?_⟩
    · exact ⟨none, ⟨retI (by rw [colI, if_neg (fun e => by omega)]), trivial⟩, rfl, rfl⟩
    refine ⟨fun hk4 => ?_, fun hk4 => ?_⟩
    · exact ⟨none, ⟨retI (by rw [colI, if_neg (fun e => by omega)]), trivial⟩, rfl, rfl⟩
    have hk : 0 ≤ k ∧ k ≤ 4 := by omega
    obtain ⟨K, rfl⟩ : ∃ K : Nat, k = (K : Int) := ⟨k.toNat, by omega⟩
    have C := col_ok hg
    have hg1 := C.gr.l1
    have hg2 := C.gr.l2
    have hB := sumC_le g K (by omega) C.c1
    have eI : colI g (K : Int) = ((sumC g K g.length / g.length : Nat) : Int) := by rw [colI, if_pos ⟨hg, hk⟩, Int.toNat_natCast]
    rw [eI]
    refine ⟨Nat, fun a => ⟨[(0, .d sh (.sl (.sl .int)) g), (1, I (K : Nat)), (5, I (sumC g K a : Nat)), (19, .d sh (.sl (.sl .int)) g), (20, I g.length), (21, I (a : Nat))], []⟩, fun a => a ≤ g.length, fun a => g.length - a, 0, Nat.zero_le _,
      ⟨⟨rfl, rfl⟩, ⟨rfl, rfl, rfl, rfl, rfl, rfl, trivial⟩, trivial⟩, fun a ha => ?_⟩
    dsimp only at ha
    refine ⟨fun h2 => ?_, fun h2 => ?_⟩
    · have ha2 : a < g.length := by omega
      have hB1 := hB (a + 1) (by omega)
      refine ⟨a, rfl, ha2, [], false, _, _, impl_CountCycles sh (g.getD a []) (C.p a ha2), List.nodup_nil, rfl, rfl, trivial, [], false, _, _, impl_power K (cycL (g.getD a [])).length (by omega) (C.c1 a ha2), List.nodup_nil, rfl, rfl, trivial, ?_⟩
      refine ⟨((sumC g K (a + 1) : Nat) : Int), w64_eq (by rw [sumC]; omega) (by omega) (by omega), ?_⟩
      exact ⟨((a + 1 : Nat) : Int), w64_eq (by omega) (by omega) (by omega), a + 1, by dsimp only; omega, by dsimp only; omega, ⟨rfl, rfl⟩, ⟨rfl, rfl, rfl, rfl, rfl, rfl, trivial⟩, trivial⟩
    · obtain rfl : a = g.length := by omega
      have hBg := hB _ (Nat.le_refl _)
      have hd : sumC g K g.length / g.length ≤ sumC g K g.length := Nat.div_le_self _ _
      refine ⟨by omega, ((sumC g K g.length / g.length : Nat) : Int), w64_eq (Int.ofNat_tdiv _ _) (Int.le_trans (by decide) (Int.natCast_nonneg _)) (by omega), ?_⟩
      exact ⟨none, ⟨rfl, trivial⟩, rfl, rfl⟩
  · exact ⟨none, ⟨retI (by rw [colI, if_neg (fun e => by rw [hg] at e; cases e.1)]), trivial⟩, rfl, rfl⟩
theorem div_lt64 (x y B : Nat) (h : x ≤ B) (hB : B ≤ 9223372036854775807) : -9223372036854775808 ≤ ((x / y : Nat) : Int) ∧ ((x / y : Nat) : Int) ≤ 9223372036854775807 := by
  have : x / y ≤ x := Nat.div_le_self _ _
  exact ⟨Int.le_trans (by decide) (Int.natCast_nonneg _), by omega⟩
theorem colI_b (g : List (List Int)) (k : Int) : -9223372036854775808 ≤ colI g k ∧ colI g k ≤ 9223372036854775807 := by
  unfold colI
  split
  · rename_i h
    have C := col_ok h.1
    have hB := sumC_le g k.toNat (by omega) C.c1 g.length (Nat.le_refl _)
    exact div_lt64 _ _ 125829120 (by have := C.gr.l2; omega) (by omega)
  · omega
theorem cexI_b (g : List (List Int)) (k : Int) : -9223372036854775808 ≤ cexI g k ∧ cexI g k ≤ 9223372036854775807 := by
  unfold cexI
  split
  · rename_i h
    have C := cex_ok h.1 (k := k.toNat) (by omega) (by omega)
    have hB := sumG_le g (symL k.toNat) (fun b hb => by have := (C.s b hb).2; omega) C.sy.l2 C.c1 g.length (Nat.le_refl _)
    exact div_lt64 _ _ 15099494400 (by have := C.gr.l2; omega) (by omega)
  · omega
def clnS (g : List (List Int)) (k : Int) : List UInt8 := if gokB g = true ∧ 1 ≤ k ∧ k ≤ 4 then
  ((((([111, 114, 100, 101, 114, 32] ++ fmtI (g.length : Int)) ++ [32, 99, 111, 108, 111, 114, 105, 110, 103, 115, 32]) ++ fmtI (colI g k)) ++ [32, 101, 120, 99, 104, 97, 110, 103, 101, 100, 32]) ++ fmtI (cexI g k)) else [110, 111, 110, 101]
theorem fI_len (n : Int) (h : -9223372036854775808 ≤ n ∧ n ≤ 9223372036854775807) : (fmtI n).length ≤ 30 := Nat.le_trans (fmtI_len n h.1 h.2) (by decide)
end Go.Proofs.Ytbnonelkdgkpdaa
