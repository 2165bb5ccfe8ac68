/-
  FnExactNewConsole: the program's NewConsole returns what the reference's returns.
-/
import Derived.Test.YtbnonelkdgkpdaaWgpw
import Derived.Test.YtbnonelkdgkpdaaWdrw
set_option linter.unusedVariables false
namespace Go.Proofs.Ytbnonelkdgkpdaa
open Go Go.Proofs.Ytbnonelkdgkpdaa.Ow
def cyR (n : Nat) : List (List Int) := (bfsI n [turnL n] 200 0 [idL n]).getD []
def cyB (n : Nat) : Bool := ((bfsI n [turnL n] 200 0 [idL n]).isSome && ((cycG n).isPerm (cyR n) && decide ((cycG n).Pairwise fun x y => ¬ cmpI y x < 0))) &&
  ((decide (1 ≤ (cycG n).length) && decide ((cycG n).length ≤ 120)) && ((cycG n).all (fun x => decide (x.length = n)) && (permB (turnL n) && decide ((turnL n).length = n))))
set_option maxRecDepth 100000 in
theorem cy_four : cyB 4 = true := by decide +kernel
structure CyOk (n : Nat) : Prop where
  r : bfsI n [turnL n] 200 0 [idL n] = some (cyR n)
  p : (cycG n).Perm (cyR n)
  so : (cycG n).Pairwise fun x y => ¬ cmpI y x < 0
  l1 : 1 ≤ (cycG n).length
  l2 : (cycG n).length ≤ 120
  el : ∀ x ∈ cycG n, x.length = n
  g : GenP n [turnL n]
theorem cy_ok {n : Nat} (h : cyB n = true) : CyOk n := by
  unfold cyB at h
  simp only [Bool.and_eq_true, decide_eq_true_eq, List.all_eq_true] at h
  obtain ⟨⟨h1, h2, h3⟩, ⟨h4, h5⟩, h6, h7, h8⟩ := h
  refine ⟨?_, List.isPerm_iff.1 h2, h3, h4, h5, h6, ⟨(by decide : 1 ≤ 1000), fun i hi => ?_⟩⟩
  · unfold cyR
    cases hb : bfsI n [turnL n] 200 0 [idL n] with
    | none => rw [hb] at h1; cases h1
    | some r => rfl
  · have hi0 : i = 0 := by simp at hi; omega
    subst hi0
    exact ⟨h7, h8⟩
/-- impl.CyclicGroup -/
theorem impl_CyclicGroup_w (n : Nat) (h1 : 1 ≤ n) (hn : n < 11) (hC : cyB n = true) : AC Try.prog 80 [I (n : Nat)] [] [.ow 0, .d true .bool true] [.sl 25 (.sw 3 true) (cycG n)] := by
  have C := cy_ok hC
  have hl1 := C.l1
  refine AC_of tauOk 11 0 [2, 3] Try.func80 rfl (by kernel_rfl) rfl rfl rfl rfl rfl ?_
  refine ⟨[], true, _, _, impl_turn n h1 hn, List.nodup_nil, rfl, rfl, trivial, rfl, by decide, false, ?_⟩
  refine ⟨[], false, _, _, impl_GroupOf_w true n [turnL n] (cyR n) (cycG n) h1 hn C.g C.r C.p C.so ⟨C.l2, fun e => by rw [e] at hl1; simp at hl1, fun x hx => ⟨fun e => by have := C.el x hx; rw [e] at this; simp at this; omega, by have := C.el x hx; omega⟩⟩, List.nodup_nil, rfl, rfl, trivial, fun _ => ?_, nofun⟩
  exact ⟨some 0, ⟨⟨rfl, rfl⟩, rfl, trivial⟩, ⟨rfl, rfl⟩, rfl⟩
/-- impl.NewConsole -/
theorem impl_NewConsole : AC Try.prog 39 [] [] [.ow 0] [.sl 25 (.sw 3 true) (cycG 4)] := by
  have hC := impl_CyclicGroup_w 4 (by decide) (by decide) cy_four
  refine AC_of tauOk 8 0 [0] Try.func39 rfl (by kernel_rfl) rfl rfl rfl rfl rfl ?_
  refine ⟨[], false, _, _, hC, List.nodup_nil, rfl, rfl, trivial, fun _ => ?_, nofun⟩
  exact ⟨some 0, ⟨⟨rfl, rfl⟩, trivial⟩, ⟨rfl, rfl⟩, rfl⟩
/-- spec.NewConsole -/
theorem spec_NewConsole : AC Try.prog 38 [] [] [.d true (.sl (.sl .int)) (cycG 4)] [] := by
  have hC := spec_CyclicGroup 4 (by decide) (by decide)
  refine AC_of tauOk 8 0 [0] Try.func38 rfl (by kernel_rfl) rfl rfl rfl rfl rfl ?_
  refine ⟨[], false, _, _, hC, List.nodup_nil, rfl, rfl, trivial, fun _ => ?_, nofun⟩
  exact ⟨none, ⟨rfl, trivial⟩, rfl, rfl⟩
theorem cyc4_tot : tot (cycG 4) (cycG 4).length ≤ 1000 ∧ (cycG 4).length ≤ 1000 ∧ (cycG 4).all (fun x => decide (x.length ≤ 10)) = true := by decide +kernel
/-- laws.FnExactNewConsole -/
theorem laws_FnExactNewConsole : LawC Try.prog 7 [] := by
  obtain ⟨h1, h2, h3⟩ := cyc4_tot
  rw [List.all_eq_true] at h3
  have hS : Short (cycG 4) := ⟨by omega, fun i hi => by
    have := of_decide_eq_true (h3 ((cycG 4).getD i []) (by rw [getD_get _ _ _ hi]; exact List.getElem_mem hi))
    omega⟩
  have hEw := laws_eqIntSS false false (cycG 4) hS
  have hMg := laws_markIntSS (cycG 4) 1 hS (by omega) (by decide) (by decide)
  have hMgl := mkSS_len (cycG 4) 1
  have hHe := laws_heldIntSS false (cycG 4) 1 hS (by omega) (by decide) (by decide)
  have hSp := spec_NewConsole
  have hIm := impl_NewConsole
  generalize cycG 4 = l at *
  refine LawC_of tauOk 36 0 Try.func7 rfl (by kernel_rfl) rfl rfl rfl ?_
  refine ⟨0, _, _, hSp, 0, _, _, hIm, 0, _, _, hEw, fun _ => ?_, nofun⟩
  refine ⟨1, _, _, hMg, hMgl, 0, _, _, hHe, ?_⟩
  refine ⟨fun h => absurd h (by omega), fun _ => ?_⟩
  refine ⟨fun h => (h rfl).elim, fun _ => ?_⟩
  refine ⟨0, _, _, hIm, 0, _, _, hEw, fun _ => ?_, nofun⟩
  refine ⟨0, _, _, hHe, ?_⟩
  refine ⟨fun h => absurd h (by omega), fun _ => ?_⟩
  refine ⟨fun h => (h rfl).elim, fun _ => ?_⟩
  exact ⟨rfl, trivial⟩
end Go.Proofs.Ytbnonelkdgkpdaa
