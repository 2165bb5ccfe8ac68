/-
  Contracts of slices.DeleteFunc over lists, and of RenamingsOf.
-/
import Derived.Test.YtbnonelkdgkpdaaPls
import Derived.Test.YtbnonelkdgkpdaaWcan
set_option linter.unusedVariables false
namespace Go.Proofs.Ytbnonelkdgkpdaa
open Go Go.Proofs.Ytbnonelkdgkpdaa.Ow
/-- slices.IndexFunc of lists, by a closure over two variables -/
theorem slices_IndexFunc_ints2 (F : Nat) (e1 e2 : TypeId) (z1 z2 : Int) (p : List Int → Bool) (sh : Bool) (xss : List (List Int)) (hl : xss.length ≤ 1048576)
    (hF : ∀ (s : Bool) i, i < xss.length → AC Try.prog F [.d s (.sl .int) (xss.getD i []), .ptr 0 0, .ptr 1 0] [.box e1 (I z1), .box e2 (I z2)] [.d true .bool (p (xss.getD i []))] [.box e1 (I z1), .box e2 (I z2)]) :
    AC Try.prog 98 [.d sh (.sl (.sl .int)) xss, .fn F [.ptr 0 0, .ptr 1 0]] [.box e1 (I z1), .box e2 (I z2)] [I (idxL p xss)] [.box e1 (I z1), .box e2 (I z2)] := by
  refine AC_of tauOk 19 2 [4] Try.func98 rfl (by kernel_rfl) rfl rfl rfl rfl rfl ?_
  refine ⟨Nat, fun k => ⟨[(0, .d sh (.sl (.sl .int)) xss), (1, .fn F [.ptr 0 0, .ptr 1 0]), (7, I xss.length), (8, I (k : Nat))], [.box e1 (I z1), .box e2 (I z2)]⟩, fun k => k ≤ xss.length ∧ ∀ j, j < k → p (xss.getD j []) = false, fun k => xss.length - k, 0, ⟨by omega, fun j hj => by omega⟩,
    ⟨⟨rfl, rfl⟩, ⟨rfl, rfl, rfl, rfl, trivial⟩, rfl, rfl, trivial⟩, fun k ⟨hk, hy⟩ => ?_⟩
  refine ⟨fun h1 => ?_, fun h1 => ?_⟩
  · have hk2 : k < xss.length := by omega
    refine ⟨k, rfl, hk2, [0, 1], false, _, _, hF sh k hk2, by decide, rfl, rfl, ⟨⟨rfl, trivial⟩, ⟨rfl, trivial⟩, trivial⟩, fun h2 => ?_, fun h2 => ?_⟩
    · exact ⟨none, ⟨retI (idxL_at hk2 h2 hy).symm, trivial⟩, rfl, rfl⟩
    · refine ⟨_, w64_in _ (by omega) (by omega), k + 1, ⟨by omega, fun i hi => ?_⟩, by dsimp only; omega, ⟨rfl, rfl⟩, ⟨rfl, rfl, rfl, rfl, trivial⟩, rfl, rfl, trivial⟩
      by_cases e : i = k
      · subst e; exact h2
      · exact hy i (by omega)
  · exact ⟨none, ⟨retI (idxL_no fun j hj => hy j (by omega)).symm, trivial⟩, rfl, rfl⟩
theorem idxL_cases (p : List Int → Bool) (xss : List (List Int)) : (idxL p xss = -1 ∧ ∀ j, j < xss.length → p (xss.getD j []) = false) ∨ ∃ i : Nat, idxL p xss = (i : Int) ∧ i < xss.length ∧ p (xss.getD i []) = true ∧ ∀ j, j < i → p (xss.getD j []) = false := by
  unfold idxL
  cases h : xss.findIdx? p with
  | none =>
    rw [List.findIdx?_eq_none_iff] at h
    exact .inl ⟨rfl, fun j hj => by rw [getD_get _ _ _ hj]; exact h _ (List.getElem_mem hj)⟩
  | some i =>
    rw [List.findIdx?_eq_some_iff_getElem] at h
    obtain ⟨hi, hp, h3⟩ := h
    exact .inr ⟨i, rfl, hi, by rw [getD_get _ _ _ hi]; exact hp, fun j hj => by have := h3 j hj; rw [getD_get _ _ _ (by omega)]; simpa using this⟩
/-- slices.DeleteFunc over a row of lists, by a closure over two variables: nothing is struck -/
theorem slices_DeleteFunc_none (F : Nat) (e e1 e2 : TypeId) (z1 z2 : Int) (p : List Int → Bool) (xss : List (List Int)) (hl : xss.length ≤ 1048576)
    (hF : ∀ (s : Bool) i, i < xss.length → AC Try.prog F [.d s (.sl .int) (xss.getD i []), .ptr 0 0, .ptr 1 0] [.box e1 (I z1), .box e2 (I z2)] [.d true .bool (p (xss.getD i []))] [.box e1 (I z1), .box e2 (I z2)])
    (hno : idxL p xss = -1) :
    AC Try.prog 70 [.ow 0, .fn F [.ptr 1 0, .ptr 2 0]] [.sl e (.sl .int) xss, .box e1 (I z1), .box e2 (I z2)] [.ow 0] [.sl e (.sl .int) xss, .box e1 (I z1), .box e2 (I z2)] := by
  refine AC_of tauOk 42 3 [4] Try.func70 rfl (by kernel_rfl) rfl rfl rfl rfl rfl ?_
  refine ⟨[1, 2], false, _, _, slices_IndexFunc_ints2 F e1 e2 z1 z2 p false xss hl hF, by decide, rfl, rfl, ⟨⟨rfl, trivial⟩, ⟨rfl, trivial⟩, trivial⟩, ?_⟩
  refine ⟨fun _ => ?_, fun h => (h hno).elim⟩
  exact ⟨none, ⟨rfl, trivial⟩, rfl, rfl⟩
/-- slices.DeleteFunc over a row of lists, by a closure over two variables -/
theorem slices_DeleteFunc_some (F : Nat) (e1 e2 : TypeId) (z1 z2 : Int) (p : List Int → Bool) (xss : List (List Int)) (hl : xss.length ≤ 1048576)
    (hF : ∀ (s : Bool) i, i < xss.length → AC Try.prog F [.d s (.sl .int) (xss.getD i []), .ptr 0 0, .ptr 1 0] [.box e1 (I z1), .box e2 (I z2)] [.d true .bool (p (xss.getD i []))] [.box e1 (I z1), .box e2 (I z2)])
    (i0 : Nat) (hi : idxL p xss = (i0 : Int)) (h0 : i0 < xss.length) :
    AC Try.prog 70 [.ow 0, .fn F [.ptr 1 0, .ptr 2 0]] [.sl 25 (.sl .int) xss, .box e1 (I z1), .box e2 (I z2)] [.x (.sb 0 0 (delS p xss i0 (xss.length - (i0 + 1))).2)]
      [.sl 25 (.sl .int) (delR p xss i0), .box e1 (I z1), .box e2 (I z2)] := by
  refine AC_of tauOk 42 3 [4] Try.func70 rfl (by kernel_rfl) rfl rfl rfl rfl rfl ?_
  refine ⟨[1, 2], false, _, _, slices_IndexFunc_ints2 F e1 e2 z1 z2 p false xss hl hF, by decide, rfl, rfl, ⟨⟨rfl, trivial⟩, ⟨rfl, trivial⟩, trivial⟩, ?_⟩
  rw [hi]
  refine ⟨fun h => by omega, fun _ => ?_⟩
  refine ⟨((i0 + 1 : Nat) : Int), w64_eq (by omega) (by omega) (by omega), ?_⟩
  refine ⟨Nat, fun k => ⟨[(0, .ow 0), (1, .fn F [.ptr 1 0, .ptr 2 0]), (5, I ((delS p xss i0 k).2 : Nat)), (6, I ((i0 + 1 + k : Nat)))], [.sl 25 (.sl .int) (delS p xss i0 k).1, .box e1 (I z1), .box e2 (I z2)]⟩,
    fun k => i0 + 1 + k ≤ xss.length, fun k => xss.length - k, 0, by omega,
    ⟨⟨rfl, rfl⟩, ⟨rfl, rfl, rfl, rfl, trivial⟩, rfl, rfl, rfl, trivial⟩, fun k hk => ?_⟩
  dsimp only at hk
  obtain ⟨hL, hK⟩ := delS_len p xss i0 k
  refine ⟨fun h1 => ?_, fun h1 => ?_⟩
  · have hj : i0 + 1 + k < xss.length := by omega
    have hrest := delS_rest p xss i0 k (i0 + 1 + k) (Nat.le_refl _)
    refine ⟨i0 + 1 + k, rfl, by rw [hL]; exact hj, ?_⟩
    have hc := hF true (i0 + 1 + k) hj
    rw [← hrest] at hc
    refine ⟨[1, 2], false, _, _, hc, by decide, rfl, rfl, ⟨⟨rfl, trivial⟩, ⟨rfl, trivial⟩, trivial⟩, fun h2 => ?_, fun h2 => ?_⟩
    · have e : delS p xss i0 (k + 1) = delS p xss i0 k := by rw [delS, if_pos h2]
      refine ⟨((i0 + 1 + (k + 1) : Nat) : Int), w64_eq (by omega) (by omega) (by omega), k + 1, by dsimp only; omega, by dsimp only; omega, ⟨rfl, rfl⟩, ⟨rfl, rfl, retI (by rw [e]), rfl, trivial⟩, rowE (by rw [e]), rfl, rfl, trivial⟩
    · have e : delS p xss i0 (k + 1) = ((delS p xss i0 k).1.set (delS p xss i0 k).2 ((delS p xss i0 k).1.getD (i0 + 1 + k) []), (delS p xss i0 k).2 + 1) := by rw [delS, if_neg (by rw [h2]; simp)]
      refine ⟨(delS p xss i0 k).2, rfl, by rw [hL]; omega, ?_⟩
      refine ⟨(((delS p xss i0 k).2 + 1 : Nat) : Int), w64_eq (by omega) (by omega) (by omega), ?_⟩
      refine ⟨((i0 + 1 + (k + 1) : Nat) : Int), w64_eq (by omega) (by omega) (by omega), k + 1, by dsimp only; omega, by dsimp only; omega, ⟨rfl, rfl⟩, ⟨rfl, rfl, retI (by rw [e]), rfl, trivial⟩, rowE (by rw [e]), rfl, rfl, trivial⟩
  · obtain rfl : k = xss.length - (i0 + 1) := by omega
    refine ⟨_, rfl, by rw [hL]; omega, Nat.le_refl _, rfl, rfl, ?_⟩
    have hlen : (List.take (delS p xss i0 (xss.length - (i0 + 1))).2 (delS p xss i0 (xss.length - (i0 + 1))).1 ++ List.replicate ((delS p xss i0 (xss.length - (i0 + 1))).1.length - (delS p xss i0 (xss.length - (i0 + 1))).2) ([] : List Int) ++ List.drop (delS p xss i0 (xss.length - (i0 + 1))).1.length (delS p xss i0 (xss.length - (i0 + 1))).1).length = xss.length := by
      simp; omega
    refine ⟨_, rfl, Nat.zero_le _, by rw [show (Ty.sl Ty.int).dflt = ([] : List Int) from rfl, hlen]; omega, ?_⟩
    exact ⟨none, ⟨rfl, trivial⟩, rfl, rfl⟩
/-- how many renamings keep a graph -/
def rnmN (n g : Nat) : Nat := cntF (fun p => decide (renN g p = g)) (symL n) (symL n).length
def rnmI (n g : Int) : Int := if graphB n g = true then (rnmN n.toNat g.toNat : Nat) else 0
/-- the closure of impl.RenamingsOf -/
theorem impl_RenamingsOf_1 (sh : Bool) (n g : Nat) (h1 : 1 ≤ n) (hn : n < 6) (hg : g < 1024) (p : List Int) (hP : PermP p) (hl : p.length = n) :
    AC Try.prog 71 [.d sh (.sl .int) p, .ptr 0 0, .ptr 1 0] [.box 3 (I (n : Nat)), .box 3 (I (g : Nat))] [.d true .bool (!decide (renN g p = g))] [.box 3 (I (n : Nat)), .box 3 (I (g : Nat))] := by
  refine AC_of tauOk 11 2 [4] Try.func71 rfl (by kernel_rfl) rfl rfl rfl rfl rfl ?_
  refine ⟨none, by kernel_rfl, rfl, rfl, _, _, impl_renamed_all sh n g h1 hn hg p hP hl, rfl, rfl, fun h => ?_, fun h => ?_⟩
  · exact ⟨none, ⟨retB (by rw [decide_eq_false (fun e => h (by rw [e]))]; rfl), trivial⟩, rfl, rfl⟩
  · exact ⟨none, ⟨retB (by rw [decide_eq_true (by omega)]; rfl), trivial⟩, rfl, rfl⟩
theorem kepC_rnm (n g : Nat) : kepC (fun p => !decide (renN g p = g)) (symL n) = rnmN n g := by
  unfold kepC rnmN cntF
  rw [List.take_length]
  simp
/-- impl.RenamingsOf -/
theorem impl_RenamingsOf (n g : Int) : AC Try.prog 26 [I n, I g] [] [I (rnmI n g)] [] := by
  unfold rnmI
  cases hB : graphB n g
  · rw [if_neg (by simp)]
    refine AC_of tauOk 14 0 [4] Try.func26 rfl (by kernel_rfl) rfl rfl rfl rfl rfl ?_
    have hGO := impl_GraphOk n g
    rw [hB] at hGO
    refine ⟨rfl, rfl, [], false, _, _, hGO, List.nodup_nil, rfl, rfl, trivial, nofun, fun _ => ?_⟩
    exact ⟨none, ⟨rfl, trivial⟩, rfl, rfl⟩
  · obtain ⟨m, k, rfl, rfl, h1, h5, hg⟩ := graphB_ok hB
    rw [if_pos rfl, Int.toNat_natCast, Int.toNat_natCast]
    have hS := sym_ok m h5 h1
    have hl2 := hS.l2
    have hl3 : (symL m).length ≤ 1048576 := by omega
    have hF : ∀ (s : Bool) i, i < (symL m).length → AC Try.prog 71 [.d s (.sl .int) ((symL m).getD i []), .ptr 0 0, .ptr 1 0] [.box 3 (I (m : Nat)), .box 3 (I (k : Nat))] [.d true .bool (!decide (renN k ((symL m).getD i []) = k))] [.box 3 (I (m : Nat)), .box 3 (I (k : Nat))] := fun s i hi => by
      obtain ⟨hP, hl⟩ := symL_get hS i hi
      exact impl_RenamingsOf_1 s m k h1 h5 hg _ hP hl
    refine AC_of tauOk 14 0 [4] Try.func26 rfl (by kernel_rfl) rfl rfl rfl rfl rfl ?_
    have hGO := impl_GraphOk (m : Nat) (k : Nat)
    rw [hB] at hGO
    refine ⟨rfl, rfl, [], false, _, _, hGO, List.nodup_nil, rfl, rfl, trivial, fun _ => ?_, nofun⟩
    refine ⟨rfl, [], false, _, _, impl_renamings m h1 h5, List.nodup_nil, rfl, rfl, trivial, rfl, ?_⟩
    rcases idxL_cases (fun p => !decide (renN k p = k)) (symL m) with ⟨e, hall⟩ | ⟨i0, e, hi0, hh, hb⟩
    · refine ⟨[2, 0, 1], false, _, _, slices_DeleteFunc_none 71 25 3 3 (m : Nat) (k : Nat) (fun p => !decide (renN k p = k)) (symL m) hl3 hF e, by decide, rfl, rfl, ⟨⟨rfl, rfl, rfl⟩, ⟨rfl, trivial⟩, ⟨rfl, trivial⟩, trivial⟩, ?_⟩
      refine ⟨none, ⟨retI ?_, trivial⟩, rfl, rfl⟩
      have : kepC (fun p => !decide (renN k p = k)) (symL m) = (symL m).length := by
        unfold kepC
        rw [List.filter_eq_self.2]
        intro x hx
        obtain ⟨j, hj, rfl⟩ := List.getElem_of_mem hx
        have := hall j hj
        rw [getD_get _ _ _ hj] at this
        simp at this ⊢; exact this
      rw [← kepC_rnm, this]
    · have hz : i0 + 1 + ((symL m).length - (i0 + 1)) = (symL m).length := Nat.add_sub_cancel' hi0
      have hc := delS_cnt (fun p => !decide (renN k p = k)) (symL m) i0 hi0 hh hb ((symL m).length - (i0 + 1)) (Nat.le_of_eq hz)
      rw [hz, List.take_length, kepC_rnm] at hc
      have hdl : (delR (fun p => !decide (renN k p = k)) (symL m) i0).length = (symL m).length := delR_len _ _ _ hi0
      refine ⟨[2, 0, 1], false, _, _, slices_DeleteFunc_some 71 3 3 (m : Nat) (k : Nat) (fun p => !decide (renN k p = k)) (symL m) hl3 hF i0 e hi0, by decide, rfl, rfl, ⟨⟨hdl, rfl, rfl⟩, ⟨rfl, trivial⟩, ⟨rfl, trivial⟩, trivial⟩, ?_⟩
      exact ⟨none, ⟨retI (by rw [hc]; rfl), trivial⟩, rfl, rfl⟩
end Go.Proofs.Ytbnonelkdgkpdaa
