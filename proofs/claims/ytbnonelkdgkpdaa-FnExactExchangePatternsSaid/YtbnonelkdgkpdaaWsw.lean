/-
  Contracts of the laws' own functions on lists of lists that keep the whole of their blocks.
-/
import Derived.Test.YtbnonelkdgkpdaaOv
import Derived.Test.YtbnonelkdgkpdaaWmat
set_option linter.unusedVariables false
namespace Go.Proofs.Ytbnonelkdgkpdaa
open Go Go.Proofs.Ytbnonelkdgkpdaa.Ow
/-- laws.toIntSS, each list in a block of its own -/
theorem laws_toIntSS_w (sh : Bool) (xss : List (List Int)) (hs : Short xss) : AC Try.prog 29 [.d sh (.sl (.sl .int)) xss] [] [.ow 0] [.sl 25 (.sw 3 true) xss] := by
  have hl := hs.1
  refine AC_of (tauSOk true) 23 0 [2] Try.func29 rfl (by kernel_rfl) rfl rfl rfl rfl rfl ?_
  refine ⟨xss.length, xss.length, rfl, rfl, Nat.le_refl _, by omega, ?_⟩
  refine ⟨Nat × List (List Int), fun i => ⟨[(0, .d sh (.sl (.sl .int)) xss), (3, .ow 0), (4, I (i.1 : Nat))], [.sl 25 (.sw 3 true) i.2]⟩, fun i => i.1 ≤ xss.length ∧ i.2.length = xss.length ∧ ∀ j, j < i.1 → i.2.getD j [] = xss.getD j [], fun i => xss.length - i.1, (0, _), ?inv,
    ⟨⟨rfl, rfl⟩, ⟨rfl, rfl, rfl, trivial⟩, rfl, trivial⟩, ?round⟩
  case inv => exact ⟨by omega, List.length_replicate .., fun j hj => by omega⟩
  rintro ⟨k, ys⟩ ⟨hk, hyl, hy⟩
  dsimp only at hk hyl hy
  refine ⟨fun h1 => ?_, fun h1 => ?_⟩
  · dsimp only at h1
    have hk2 : k < xss.length := by omega
    refine ⟨k, rfl, hk2, [], false, _, _, laws_toIntS sh (xss.getD k []) (hs.2 k hk2), List.nodup_nil, rfl, rfl, trivial, k, rfl, by dsimp only; omega, ?_⟩
    refine ⟨rfl, rfl, rfl, ?_⟩
    refine ⟨_, w64_in _ (by dsimp only; omega) (by dsimp only; omega), ?_⟩
    refine ⟨(k + 1, _), ?inv, by dsimp only; omega, ⟨rfl, rfl⟩, ⟨rfl, rfl, rfl, trivial⟩, rfl, trivial⟩
    refine ⟨by dsimp only; omega, (List.length_set ..).trans hyl, fun j hj => ?_⟩
    dsimp only at hj ⊢
    by_cases e : k = j
    · subst e; exact L_set_self _ _ _ _ (by omega)
    · exact (L_set_ne _ _ _ _ _ e).trans (hy j (by omega))
  · dsimp only at h1
    exact ⟨some 0, ⟨⟨rfl, rfl⟩, trivial⟩, ⟨rfl, rowsE (ext2 hyl (fun j hj => hy j (by dsimp only at hj; omega)))⟩, rfl⟩
/-- what marks leave -/
def mkSS (xss : List (List Int)) (k : Int) : List (List Int) := (List.range xss.length).map fun j => marks (k + (tot xss j : Nat)) (xss.getD j []).length
theorem mkSS_len (xss : List (List Int)) (k : Int) : (mkSS xss k).length = xss.length := by simp [mkSS]
theorem mkSS_at (xss : List (List Int)) (k : Int) {j : Nat} (hj : j < xss.length) : (mkSS xss k).getD j [] = marks (k + (tot xss j : Nat)) (xss.getD j []).length := by
  rw [getD_get _ _ _ (by rw [mkSS_len]; exact hj)]; simp [mkSS]
/-- laws.markIntS of no integers -/
theorem laws_markIntS_e (sh : Bool) (z : Int) (h0 : 0 ≤ z) (h1 : z ≤ 1099511627776) : AC Try.prog 34 [.d sh (.sl .int) [], I z] [] [I z] [] := by
  refine AC_of tauOk 19 0 [4] Try.func34 rfl (by kernel_rfl) rfl rfl rfl rfl rfl ?_
  refine ⟨Unit, fun _ => ⟨[(0, .d sh (.sl .int) []), (1, I z), (5, I 0)], []⟩, fun _ => True, fun _ => 0, (), trivial,
    ⟨⟨rfl, rfl⟩, ⟨rfl, rfl, rfl, trivial⟩, trivial⟩, fun _ _ => ?_⟩
  refine ⟨fun h2 => absurd h2 (by decide), fun _ => ?_⟩
  exact ⟨none, ⟨rfl, trivial⟩, rfl, rfl⟩
/-- laws.markIntSS -/
theorem laws_markIntSS (xss : List (List Int)) (k : Int) (hs : Short xss) (ht : tot xss xss.length ≤ 1048576) (h0 : 0 ≤ k) (h1 : k ≤ 1048577) : MC Try.prog 33 3 xss k (k + (tot xss xss.length : Nat)) (mkSS xss k) := by
  have hl := hs.1
  refine MC_of tauOk 19 4 Try.func33 rfl (by kernel_rfl) rfl rfl rfl ?_
  refine ⟨Nat × List (List Int), fun i => ⟨[(0, .p 0), (1, .f (I (k + (tot xss i.1 : Nat)))), (5, .f (I (i.1 : Nat)))], [⟨.sl (.sw 3 true), i.2⟩]⟩, fun i => i.1 ≤ xss.length ∧ i.2.length = xss.length ∧ (∀ j, j < i.1 → i.2.getD j [] = (mkSS xss k).getD j []) ∧ ∀ j, i.1 ≤ j → i.2.getD j [] = xss.getD j [], fun i => xss.length - i.1, (0, xss), ⟨Nat.zero_le _, rfl, fun j hj => by omega, fun j _ => rfl⟩,
    ⟨rfl, rfl, by rw [show k + ((tot xss 0 : Nat) : Int) = k from by simp [tot]]; exact ⟨rfl, rfl, trivial⟩⟩, ?_⟩
  rintro ⟨i, ys⟩ ⟨hi, hyl, hy1, hy2⟩
  dsimp only at hi hyl hy1 hy2
  refine ⟨fun h2 => ?_, fun h2 => ?_⟩
  · dsimp only at h2
    have hi2 : i < xss.length := by omega
    have htl := tot_le xss (i + 1) xss.length hi2
    have hts : tot xss (i + 1) = tot xss i + (xss.getD i []).length := rfl
    have hyi := hy2 i (Nat.le_refl _)
    have hsh := hs.2 i hi2
    refine ⟨i, rfl, by dsimp only; omega, ?_⟩
    have hz : ((i + 1 : Nat) : Int) = w64 ((i : Int) + 1) := w64_eq (by omega) (by omega) (by omega)
    have hkt : k + (tot xss (i + 1) : Nat) = k + (tot xss i : Nat) + (xss.getD i []).length := by omega
    by_cases he : ys.getD i [] = []
    · have e2 : ys[i]? = some [] := by
        rw [List.getElem?_eq_getElem (by omega)]
        rw [getD_get _ _ _ (by omega)] at he
        rw [he]
      have e3 : cvL [⟨.sl (.sw 3 true), ys⟩] (.pi 0 i) = .d false (.sl .int) [] := by simp only [cvL, List.getElem?_cons_zero, e2]
      have hM := laws_markIntS_e false (k + (tot xss i : Nat)) (by omega) (by omega)
      rw [← e3] at hM
      have hx0 : xss.getD i [] = [] := by rw [← hyi]; exact he
      have hkt2 : k + (tot xss (i + 1) : Nat) = k + (tot xss i : Nat) := by rw [hkt, hx0]; simp
      refine ⟨0, _, _, hM, ((i + 1 : Nat) : Int), hz, (i + 1, ys), ⟨by dsimp only; omega, hyl, fun j hj => ?_, fun j hj => hy2 j (by dsimp only at hj; omega)⟩, by dsimp only; omega, rfl, rfl, by dsimp only; rw [hkt2]; rfl, rfl, trivial⟩
      by_cases ej : j = i
      · subst ej; rw [mkSS_at xss k hi2, hx0]; exact he
      · exact hy1 j (by dsimp only at hj; omega)
    · have hM := laws_markIntS (ys.getD i []) (k + (tot xss i : Nat)) (by rw [hyi]; exact hsh) (by omega) (by omega)
      have hml := marks_len (k + (tot xss i : Nat)) (ys.getD i []).length
      refine ⟨3, k + (tot xss i : Nat) + (ys.getD i []).length, marks (k + (tot xss i : Nat)) (ys.getD i []).length, hM, hml, he, ((i + 1 : Nat) : Int), hz, (i + 1, ys.set i (marks (k + (tot xss i : Nat)) (ys.getD i []).length)), ⟨by dsimp only; omega, by dsimp only; rw [List.length_set]; exact hyl, fun j hj => ?_, fun j hj => ?_⟩, by dsimp only; omega, rfl, rfl, by dsimp only; rw [hkt, hyi]; rfl, rfl, trivial⟩
      · dsimp only at hj ⊢
        by_cases ej : j = i
        · subst ej
          rw [L_set_self _ _ _ _ (by omega), mkSS_at xss k hi2, hyi]
        · rw [L_set_ne _ _ _ _ _ (fun e => ej e.symm)]; exact hy1 j (by omega)
      · dsimp only at hj ⊢
        rw [L_set_ne _ _ _ _ _ (by omega)]; exact hy2 j (by omega)
  · dsimp only at h2
    obtain rfl : i = xss.length := by omega
    have e : ys = mkSS xss k := ext2 (by rw [mkSS_len]; exact hyl) fun j hj => hy1 j (by omega)
    exact ⟨rfl, by dsimp only; rw [e]⟩
/-- laws.heldIntSS -/
theorem laws_heldIntSS (sh : Bool) (xss : List (List Int)) (k : Int) (hs : Short xss) (ht : tot xss xss.length ≤ 1048576) (h0 : 0 ≤ k) (h1 : k ≤ 1048577) : AC Try.prog 37 [.d sh (.sl (.sl .int)) (mkSS xss k), I k] [] [I (k + (tot xss xss.length : Nat))] [] := by
  have hl := hs.1
  have hml := mkSS_len xss k
  refine AC_of tauOk 21 0 [4] Try.func37 rfl (by kernel_rfl) rfl rfl rfl rfl rfl ?_
  refine ⟨Nat, fun i => ⟨[(0, .d sh (.sl (.sl .int)) (mkSS xss k)), (1, I (k + (tot xss i : Nat))), (5, I (i : Nat))], []⟩, fun i => i ≤ xss.length, fun i => xss.length - i, 0, Nat.zero_le _,
    ⟨⟨rfl, rfl⟩, ⟨rfl, retI (by simp [tot]), rfl, trivial⟩, trivial⟩, fun i hi => ?_⟩
  dsimp only at hi
  refine ⟨fun h2 => ?_, fun h2 => ?_⟩
  · have hi2 : i < xss.length := by omega
    have htl := tot_le xss (i + 1) xss.length hi2
    have hts : tot xss (i + 1) = tot xss i + (xss.getD i []).length := rfl
    have hH := laws_heldIntS sh (xss.getD i []).length (k + (tot xss i : Nat)) (hs.2 i hi2) (by omega) (by omega)
    rw [← mkSS_at xss k hi2] at hH
    refine ⟨i, rfl, by omega, [], false, _, _, hH, List.nodup_nil, rfl, rfl, trivial, fun h3 => absurd h3 (by omega), fun _ => ?_⟩
    exact ⟨((i + 1 : Nat) : Int), w64_eq (by omega) (by omega) (by omega), i + 1, by dsimp only; omega, by dsimp only; omega, ⟨rfl, rfl⟩, ⟨rfl, retI (by rw [hts]; omega), rfl, trivial⟩, trivial⟩
  · obtain rfl : i = xss.length := by omega
    exact ⟨none, ⟨rfl, trivial⟩, rfl, rfl⟩
/-! nothing -/
theorem ac_nil1 {f : FuncId} {t : Ty} {r : List AV} {rr : List Row} (h : AC Try.prog f [.d false (.sl t) []] [] r rr) : AC Try.prog f [.nil] [] r rr := h.weak fun w bs A vs hv => by
  obtain ⟨v, l, rfl, h1, h2⟩ := hv
  exact ⟨v, l, rfl, V_nil h1, h2⟩
theorem ac_nil2 {f : FuncId} {t : Ty} {x : AV} {r : List AV} {rr : List Row} (h : AC Try.prog f [.d false (.sl t) [], x] [] r rr) : AC Try.prog f [.nil, x] [] r rr := h.weak fun w bs A vs hv => by
  obtain ⟨v, l, rfl, h1, h2⟩ := hv
  exact ⟨v, l, rfl, V_nil h1, h2⟩
theorem ac_nil3 {f : FuncId} {t : Ty} {x : AV} {r : List AV} {rr : List Row} (h : AC Try.prog f [x, .d false (.sl t) []] [] r rr) : AC Try.prog f [x, .nil] [] r rr := h.weak fun w bs A vs hv => by
  obtain ⟨v, l, rfl, h1, v2, l2, rfl, h2, h3⟩ := hv
  exact ⟨v, _, rfl, h1, v2, l2, rfl, V_nil h2, h3⟩
/-- laws.markIntSS of no lists -/
theorem laws_markIntSS_e (sh : Bool) (z : Int) : AC Try.prog 33 [.d sh (.sl (.sl .int)) [], I z] [] [I z] [] := by
  refine AC_of tauOk 19 0 [4] Try.func33 rfl (by kernel_rfl) rfl rfl rfl rfl rfl ?_
  refine ⟨Unit, fun _ => ⟨[(0, .d sh (.sl (.sl .int)) []), (1, I z), (5, I 0)], []⟩, fun _ => True, fun _ => 0, (), trivial,
    ⟨⟨rfl, rfl⟩, ⟨rfl, rfl, rfl, trivial⟩, trivial⟩, fun _ _ => ?_⟩
  refine ⟨fun h2 => absurd h2 (by decide), fun _ => ?_⟩
  exact ⟨none, ⟨rfl, trivial⟩, rfl, rfl⟩
/-- laws.heldIntSS of no lists -/
theorem laws_heldIntSS_e (sh : Bool) (z : Int) : AC Try.prog 37 [.d sh (.sl (.sl .int)) [], I z] [] [I z] [] := by
  refine AC_of tauOk 21 0 [4] Try.func37 rfl (by kernel_rfl) rfl rfl rfl rfl rfl ?_
  refine ⟨Unit, fun _ => ⟨[(0, .d sh (.sl (.sl .int)) []), (1, I z), (5, I 0)], []⟩, fun _ => True, fun _ => 0, (), trivial,
    ⟨⟨rfl, rfl⟩, ⟨rfl, rfl, rfl, trivial⟩, trivial⟩, fun _ _ => ?_⟩
  refine ⟨fun h2 => absurd h2 (by decide), fun _ => ?_⟩
  exact ⟨none, ⟨rfl, trivial⟩, rfl, rfl⟩
end Go.Proofs.Ytbnonelkdgkpdaa
