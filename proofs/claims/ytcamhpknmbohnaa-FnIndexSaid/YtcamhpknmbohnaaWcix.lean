/-
  Contracts of CycleType, CycleIndex, IndexOrder, FormatTerm and IndexLine.
-/
import Derived.Test.YtcamhpknmbohnaaWst
import Derived.Test.YtcamhpknmbohnaaWgok
import Derived.Test.YtcamhpknmbohnaaWcyc
import Derived.Test.YtcamhpknmbohnaaWsort
import Derived.Test.YtcamhpknmbohnaaWmat
import Derived.Test.YtcamhpknmbohnaaWftm
set_option linter.unusedVariables false
set_option linter.unusedSimpArgs false
namespace Go.Proofs.Ytcamhpknmbohnaa
open Go Go.Proofs.Ytcamhpknmbohnaa.Ow
theorem tzE {e : Nat} {xs ys : List Tm} (h : xs = ys) : Row.tz e xs = .tz e ys := by rw [h]
/-- what is known of the cycles' lengths -/
theorem cyc_lens {p : List Int} (hP : PermP p) : (cycL p).length ≤ 10 ∧ ∀ k, k < (cycL p).length → 1 ≤ ((cycL p).getD k []).length ∧ ((cycL p).getD k []).length ≤ p.length := by
  obtain ⟨h1, h2, h3⟩ := cyc_ok p (permR hP) p.length (Nat.le_refl _)
  have hn := hP.1.2
  refine ⟨by show (cycS p p.length).2.length ≤ 10; omega, fun k hk => ?_⟩
  have hm : (cycL p).getD k [] ∈ (cycS p p.length).2 := by rw [getD_get _ _ _ hk]; exact List.getElem_mem _
  obtain ⟨g1, g2, g3⟩ := h3 _ hm
  exact ⟨g1, g2⟩
theorem typL_ok {p : List Int} (hP : PermP p) : (typL p).length = p.length ∧ ∀ j, 0 ≤ (typL p).getD j 0 ∧ (typL p).getD j 0 ≤ 10 := by
  have h1 := (cyc_lens hP).1
  refine ⟨typL_len p, fun j => ?_⟩
  have := typS_b p (cycL p).length j
  show 0 ≤ (typS p (cycL p).length).getD j 0 ∧ (typS p (cycL p).length).getD j 0 ≤ 10
  omega
theorem incT_at {t : List Int} {k : Nat} {c : List Int} (h : 1 ≤ c.length) : incT t c = t.set (c.length - 1) (t.getD (c.length - 1) 0 + 1) := rfl
/-- impl.CycleType -/
theorem impl_CycleType (sh : Bool) (p : List Int) (hP : PermP p) : AC Try.prog 118 [.d sh (.sl .int) p] [] [.ow 0] [.sl 3 .int (typL p)] := by
  have hlen := hP.1
  have hc := cyc_lens hP
  refine AC_of tauOk 29 0 [2] Try.func118 rfl (by kernel_rfl) rfl rfl rfl rfl rfl ?_
  refine ⟨[], false, _, _, impl_PermOk sh p (by omega), List.nodup_nil, rfl, rfl, trivial, fun _ => ?_, fun h => by rw [(permB_iff p).2 hP] at h; cases h⟩
  refine ⟨_, _, rfl, rfl, Nat.le_refl _, by omega, ?_⟩
  refine ⟨[], true, _, _, impl_CyclesOf sh p hP, List.nodup_nil, rfl, rfl, trivial, ?_⟩
  refine ⟨Nat, fun k => ⟨[(3, .ow 0), (13, .d true (.sl (.sl .int)) (cycL p)), (14, I (cycL p).length), (15, I (k : Nat))], [.sl 3 .int (typS p k)]⟩, fun k => k ≤ (cycL p).length, fun k => (cycL p).length - k, 0, Nat.zero_le _,
    ⟨⟨rfl, rfl⟩, ⟨rfl, rfl, rfl, rfl, trivial⟩, rfl, trivial⟩, fun k hk => ?_⟩
  dsimp only at hk
  refine ⟨fun h1 => ?_, fun h1 => ?_⟩
  · have hk2 : k < (cycL p).length := by omega
    obtain ⟨g1, g2⟩ := hc.2 k hk2
    have hb := typS_b p k (((cycL p).getD k []).length - 1)
    have hl := typS_len p k
    refine ⟨k, rfl, hk2, ?_⟩
    refine ⟨((((cycL p).getD k []).length - 1 : Nat) : Int), w64_eq (by omega) (by omega) (by omega), ((cycL p).getD k []).length - 1, rfl, by rw [hl]; omega, ?_⟩
    refine ⟨_, w64_in _ (by omega) (by omega), ((cycL p).getD k []).length - 1, rfl, by rw [hl]; omega, ?_⟩
    exact ⟨((k + 1 : Nat) : Int), w64_eq (by omega) (by omega) (by omega), k + 1, by dsimp only; omega, by dsimp only; omega, ⟨rfl, rfl⟩, ⟨rfl, rfl, rfl, rfl, trivial⟩, rowE rfl, trivial⟩
  · obtain rfl : k = (cycL p).length := by omega
    exact ⟨some 0, ⟨⟨rfl, rfl⟩, trivial⟩, ⟨rfl, rfl⟩, rfl⟩
/-- spec.CycleType -/
theorem spec_CycleType (sh : Bool) (p : List Int) (hP : PermP p) : AC Try.prog 163 [.d sh (.sl .int) p] [] [.ow 0] [.sl 3 .int (typL p)] := by
  have hlen := hP.1
  have hc := cyc_lens hP
  refine AC_of tauOk 29 0 [2] Try.func163 rfl (by kernel_rfl) rfl rfl rfl rfl rfl ?_
  refine ⟨[], false, _, _, spec_PermOk sh p (by omega), List.nodup_nil, rfl, rfl, trivial, fun _ => ?_, fun h => by rw [(permB_iff p).2 hP] at h; cases h⟩
  refine ⟨_, _, rfl, rfl, Nat.le_refl _, by omega, ?_⟩
  refine ⟨[], true, _, _, spec_CyclesOf sh p hP, List.nodup_nil, rfl, rfl, trivial, ?_⟩
  refine ⟨Nat, fun k => ⟨[(3, .ow 0), (13, .d true (.sl (.sl .int)) (cycL p)), (14, I (cycL p).length), (15, I (k : Nat))], [.sl 3 .int (typS p k)]⟩, fun k => k ≤ (cycL p).length, fun k => (cycL p).length - k, 0, Nat.zero_le _,
    ⟨⟨rfl, rfl⟩, ⟨rfl, rfl, rfl, rfl, trivial⟩, rfl, trivial⟩, fun k hk => ?_⟩
  dsimp only at hk
  refine ⟨fun h1 => ?_, fun h1 => ?_⟩
  · have hk2 : k < (cycL p).length := by omega
    obtain ⟨g1, g2⟩ := hc.2 k hk2
    have hb := typS_b p k (((cycL p).getD k []).length - 1)
    have hl := typS_len p k
    refine ⟨k, rfl, hk2, ?_⟩
    refine ⟨((((cycL p).getD k []).length - 1 : Nat) : Int), w64_eq (by omega) (by omega) (by omega), ((cycL p).getD k []).length - 1, rfl, by rw [hl]; omega, ?_⟩
    refine ⟨_, w64_in _ (by omega) (by omega), ((cycL p).getD k []).length - 1, rfl, by rw [hl]; omega, ?_⟩
    exact ⟨((k + 1 : Nat) : Int), w64_eq (by omega) (by omega) (by omega), k + 1, by dsimp only; omega, by dsimp only; omega, ⟨rfl, rfl⟩, ⟨rfl, rfl, rfl, rfl, trivial⟩, rowE rfl, trivial⟩
  · obtain rfl : k = (cycL p).length := by omega
    exact ⟨some 0, ⟨⟨rfl, rfl⟩, trivial⟩, ⟨rfl, rfl⟩, rfl⟩
/-- the closure that looks for a type -/
theorem impl_CycleIndex_1 (e : TypeId) (x : Tm) (t : List Int) (h1 : x.1.length ≤ 1048576) (h2 : t.length ≤ 1048576) : AC Try.prog 120 [.arr .mix [.ints x.1, .int x.2], .ptr 0 0] [.box e (.d true (.sl .int) t)] [.d true .bool (decide (x.1 = t))] [.box e (.d true (.sl .int) t)] := by
  refine AC_of tauOk 8 1 [3] Try.func120 rfl (by kernel_rfl) rfl rfl rfl rfl rfl ?_
  refine ⟨(by decide : 0 < 2), (by decide : 2 ≤ 1000), (by decide : 0 < 2), (by decide : 0 < 2), rfl, [], false, _, _, slices_Equal_int true true x.1 t h1 h2, List.nodup_nil, rfl, rfl, trivial, fun h => ?_, fun h => ?_⟩
  · exact ⟨none, ⟨retB h, trivial⟩, rfl, rfl⟩
  · exact ⟨none, ⟨retB h, trivial⟩, rfl, rfl⟩
/-- where a type is, or -1 -/
def posZ (l : List Tm) (t : List Int) : Int := if posT l t < l.length then (posT l t : Nat) else -1
theorem posT_is {l : List Tm} {t : List Int} {k : Nat} (hk : k < l.length) (h : (l.getD k ([], 0)).1 = t) (hy : ∀ j, j < k → (l.getD j ([], 0)).1 ≠ t) : posT l t = k := by
  unfold posT
  rw [List.findIdx_eq hk]
  rw [getD_get _ _ _ hk] at h
  refine ⟨decide_eq_true h, fun j hj => decide_eq_false ?_⟩
  have := hy j hj
  rwa [getD_get _ _ _ (by omega)] at this
theorem posT_none {l : List Tm} {t : List Int} (hy : ∀ j, j < l.length → (l.getD j ([], 0)).1 ≠ t) : ¬ posT l t < l.length := posT_no.2 fun x hx => by
  obtain ⟨j, hj, rfl⟩ := List.getElem_of_mem hx
  have := hy j hj
  rwa [getD_get _ _ _ hj] at this
/-- slices.IndexFunc of terms -/
theorem slices_IndexFunc_tm (e e2 : TypeId) (l : List Tm) (t : List Int) (hl : l.length ≤ 1048576) (h1 : ∀ x ∈ l, x.1.length ≤ 1048576) (h2 : t.length ≤ 1048576) :
    AC Try.prog 119 [.x (.oz 0), .fn 120 [.ptr 1 0]] [.tz e l, .box e2 (.d true (.sl .int) t)] [I (posZ l t)] [.tz e l, .box e2 (.d true (.sl .int) t)] := by
  refine AC_of tauOk 19 2 [4] Try.func119 rfl (by kernel_rfl) rfl rfl rfl rfl rfl ?_
  refine ⟨Nat, fun k => ⟨[(0, .x (.oz 0)), (1, .fn 120 [.ptr 1 0]), (7, I l.length), (8, I (k : Nat))], [.tz e l, .box e2 (.d true (.sl .int) t)]⟩, fun k => k ≤ l.length ∧ ∀ j, j < k → (l.getD j ([], 0)).1 ≠ t, fun k => l.length - k, 0, ⟨by omega, fun j hj => by omega⟩,
    ⟨⟨rfl, rfl⟩, ⟨rfl, rfl, rfl, rfl, trivial⟩, rfl, rfl, trivial⟩, fun k ⟨hk, hy⟩ => ?_⟩
  refine ⟨fun h3 => ?_, fun h3 => ?_⟩
  · have hk2 : k < l.length := by omega
    refine ⟨k, rfl, hk2, [1], false, _, _, impl_CycleIndex_1 e2 (l.getD k ([], 0)) t (by rw [getD_get _ _ _ hk2]; exact h1 _ (List.getElem_mem hk2)) h2, by decide, rfl, rfl, ⟨⟨rfl, trivial⟩, trivial⟩, fun h4 => ?_, fun h4 => ?_⟩
    · have hp := posT_is hk2 (of_decide_eq_true h4) hy
      exact ⟨none, ⟨retI (by rw [posZ, hp, if_pos hk2]), trivial⟩, rfl, rfl⟩
    · refine ⟨_, w64_in _ (by omega) (by omega), k + 1, ⟨by omega, fun i hi => ?_⟩, by dsimp only; omega, ⟨rfl, rfl⟩, ⟨rfl, rfl, rfl, rfl, trivial⟩, rfl, rfl, trivial⟩
      by_cases e : i = k
      · subst e; exact of_decide_eq_false h4
      · exact hy i (by omega)
  · exact ⟨none, ⟨retI (by rw [posZ, if_neg (posT_none fun j hj => hy j (by omega))]), trivial⟩, rfl, rfl⟩
/-- what is known of a group's terms on the way -/
theorem tms_ok {g : List (List Int)} (hG : GrpP g) : ∀ k, k ≤ g.length → TmsP (g.getD 0 []).length k (uS g k) ∧ TmsP (g.getD 0 []).length k (sS g k) := fun k hk => by
  have h := tms_u (n := (g.getD 0 []).length) g (fun i hi => by
    obtain ⟨h1, h2, _⟩ := gok1_p (hG.o1 i hi)
    have h3 := typL_ok h1
    exact ⟨h3.1.trans h2, h3.2⟩) k hk
  exact ⟨h, tms_perm h (s_perm g k)⟩
theorem cix_ne {g : List (List Int)} (h : 1 ≤ g.length) : cixL g ≠ [] := by
  have h1 := (s_perm g g.length).length_eq
  have h2 : 1 ≤ (uS g g.length).length := by
    obtain ⟨k, hk⟩ : ∃ k, g.length = k + 1 := ⟨g.length - 1, by omega⟩
    rw [hk, uS, addU]
    split
    next h => rw [incA, List.length_set]; omega
    next h => simp
  intro e
  rw [cixL] at e
  rw [e] at h1
  simp at h1
  omega
/-- impl.CycleIndex of a group -/
theorem impl_CycleIndex (sh : Bool) (g : List (List Int)) (hB : gokB g = true) (hl : g.length ≤ 1048576) (hx : ∀ i, i < g.length → (g.getD i []).length ≤ 1048576) : AC Try.prog 49 [.d sh (.sl (.sl .int)) g] [] [.x (.oz 0)] [.tz 58 (cixL g)] := by
  have hG := (gokB_iff g).1 hB
  have hl2 := hG.l2
  have hT := tms_ok hG
  refine AC_of tauOk 43 0 [2] Try.func49 rfl (by kernel_rfl) rfl rfl rfl rfl rfl ?_
  refine ⟨rfl, [], false, _, _, impl_GroupOk sh g hl hx, List.nodup_nil, rfl, rfl, trivial, fun _ => ?_, fun h => by rw [hB] at h; cases h⟩
  refine ⟨Nat, fun k => ⟨[(3, .x (.oz 0)), (13, .d sh (.sl (.sl .int)) g), (14, I g.length), (15, I (k : Nat))], [.tz 58 (uS g k)]⟩, fun k => k ≤ g.length, fun k => g.length - k, 0, Nat.zero_le _,
    ⟨⟨rfl, rfl⟩, ⟨rfl, rfl, rfl, rfl, trivial⟩, rfl, trivial⟩, fun k hk => ?_⟩
  dsimp only at hk
  refine ⟨fun h1 => ?_, fun h1 => ?_⟩
  · have hk2 : k < g.length := by omega
    obtain ⟨hP, he, _⟩ := gok1_p (hG.o1 k hk2)
    have ht := typL_ok hP
    have hU := (hT k hk).1
    have hpl := hP.1
    refine ⟨k, rfl, hk2, [], true, _, _, impl_CycleType sh (g.getD k []) hP, List.nodup_nil, rfl, rfl, trivial, ?_⟩
    refine ⟨rfl, rfl, [0, 1], false, _, _, slices_IndexFunc_tm 58 25 (uS g k) (typL (g.getD k [])) (by have := hU.n1; omega) (fun x hx => by have := hU.t x hx; omega) (by omega), by decide, rfl, rfl, ⟨⟨rfl, rfl⟩, ⟨rfl, trivial⟩, trivial⟩, ?_⟩
    by_cases hpos : posT (uS g k) (typL (g.getD k [])) < (uS g k).length
    · rw [show posZ (uS g k) (typL (g.getD k [])) = (posT (uS g k) (typL (g.getD k [])) : Nat) from if_pos hpos]
      refine ⟨fun h2 => by omega, fun h2 => ?_⟩
      have hc := hU.c _ (List.getElem_mem hpos)
      rw [← getD_get _ _ ([], 0) hpos] at hc
      refine ⟨_, rfl, hpos, rfl, (by decide : 1 < 2), ?_⟩
      refine ⟨_, w64_in _ (by omega) (by omega), _, rfl, hpos, rfl, (by decide : 1 < 2), ?_⟩
      exact ⟨((k + 1 : Nat) : Int), w64_eq (by omega) (by omega) (by omega), k + 1, by dsimp only; omega, by dsimp only; omega, ⟨rfl, rfl⟩, ⟨rfl, rfl, rfl, rfl, trivial⟩, tzE (by rw [uS, addU, if_pos hpos]; rfl), trivial⟩
    · rw [show posZ (uS g k) (typL (g.getD k [])) = -1 from if_neg hpos]
      refine ⟨fun h2 => ?_, fun h2 => by omega⟩
      refine ⟨rfl, rfl, Nat.zero_le _, rfl, by have := hU.n1; simp only [List.length_cons, List.length_nil]; omega, rfl, ?_⟩
      exact ⟨((k + 1 : Nat) : Int), w64_eq (by omega) (by omega) (by omega), k + 1, by dsimp only; omega, by dsimp only; omega, ⟨rfl, rfl⟩, ⟨rfl, rfl, rfl, rfl, trivial⟩, tzE (by rw [uS, addU, if_neg hpos]), trivial⟩
  · obtain rfl : k = g.length := by omega
    have hU := (hT g.length (Nat.le_refl _)).1
    have hl1 := hG.l1
    have hne : uS g g.length ≠ [] := fun e => cix_ne hl1 (by have := s_perm g g.length; rw [e] at this; exact this.eq_nil)
    refine ⟨[0], false, _, _, slices_SortFunc_tm 58 (uS g g.length) (cixL g) (by have := hU.n1; omega) hne (fun x hx => by
      have h := hU.t x hx
      have h2 := (gok1_p (hG.o1 0 (by omega))).1.1
      exact ⟨fun e => by have h3 := h.1; have h4 := congrArg List.length e; rw [List.length_nil] at h4; omega, by omega⟩) (s_perm g g.length) (sS_up g g.length), by decide, rfl, rfl, ⟨⟨(s_perm g g.length).length_eq, rfl⟩, trivial⟩, ?_⟩
    exact ⟨some 0, ⟨⟨rfl, rfl⟩, trivial⟩, ⟨rfl, rfl⟩, rfl⟩
theorem impl_CycleIndex_no (sh : Bool) (g : List (List Int)) (hB : gokB g = false) (hl : g.length ≤ 1048576) (hx : ∀ i, i < g.length → (g.getD i []).length ≤ 1048576) : AC Try.prog 49 [.d sh (.sl (.sl .int)) g] [] [.x (.oz 0)] [.tz 58 []] := by
  refine AC_of tauOk 43 0 [2] Try.func49 rfl (by kernel_rfl) rfl rfl rfl rfl rfl ?_
  refine ⟨rfl, [], false, _, _, impl_GroupOk sh g hl hx, List.nodup_nil, rfl, rfl, trivial, fun h => (nomatch hB.symm.trans h), fun _ => ?_⟩
  exact ⟨some 0, ⟨⟨rfl, rfl⟩, trivial⟩, ⟨rfl, rfl⟩, rfl⟩
theorem spec_CycleIndex_no (sh : Bool) (g : List (List Int)) (hB : gokB g = false) (hl : g.length ≤ 1048576) (hx : ∀ i, i < g.length → (g.getD i []).length ≤ 1048576) : AC Try.prog 112 [.d sh (.sl (.sl .int)) g] [] [.nil] [] := by
  refine AC_of tauOk 74 0 [2] Try.func112 rfl (by kernel_rfl) rfl rfl rfl rfl rfl ?_
  refine ⟨[], false, _, _, spec_GroupOk sh g hl hx, List.nodup_nil, rfl, rfl, trivial, fun h => (nomatch hB.symm.trans h), fun _ => ?_⟩
  exact ⟨none, ⟨rfl, trivial⟩, rfl, rfl⟩
theorem lowT_is {l : List Tm} {t : List Int} {k : Nat} (hk : k ≤ l.length) (hy : ∀ j, j < k → cmpI (l.getD j ([], 0)).1 t < 0) (h : k = l.length ∨ ¬ cmpI (l.getD k ([], 0)).1 t < 0) : lowT l t = k := by
  rcases Nat.lt_trichotomy (lowT l t) k with h1 | h1 | h1
  · have := hy _ h1
    exact (lowT_ge (by omega) this).elim
  · exact h1
  · have h2 := lowT_lt h1
    have h3 := lowT_le l t
    rcases h with h | h
    · omega
    · exact (h h2).elim
/-- spec.CycleIndex of a group -/
theorem spec_CycleIndex (sh : Bool) (g : List (List Int)) (hB : gokB g = true) (hl : g.length ≤ 1048576) (hx : ∀ i, i < g.length → (g.getD i []).length ≤ 1048576) : AC Try.prog 112 [.d sh (.sl (.sl .int)) g] [] [.x (.oz 0)] [.tz 58 (cixL g)] := by
  have hG := (gokB_iff g).1 hB
  have hl2 := hG.l2
  have hT := tms_ok hG
  refine AC_of tauOk 74 0 [2] Try.func112 rfl (by kernel_rfl) rfl rfl rfl rfl rfl ?_
  refine ⟨[], false, _, _, spec_GroupOk sh g hl hx, List.nodup_nil, rfl, rfl, trivial, fun _ => ?_, fun h => by rw [hB] at h; cases h⟩
  refine ⟨rfl, ?_⟩
  refine ⟨Nat, fun k => ⟨[(3, .x (.oz 0)), (13, .d sh (.sl (.sl .int)) g), (14, I g.length), (15, I (k : Nat))], [.tz 58 (sS g k)]⟩, fun k => k ≤ g.length, fun k => g.length - k, 0, Nat.zero_le _,
    ⟨⟨rfl, rfl⟩, ⟨rfl, rfl, rfl, rfl, trivial⟩, rfl, trivial⟩, fun k hk => ?_⟩
  dsimp only at hk
  refine ⟨fun h1 => ?_, fun h1 => ?_⟩
  · have hk2 : k < g.length := by omega
    obtain ⟨hP, he, _⟩ := gok1_p (hG.o1 k hk2)
    have ht := typL_ok hP
    have hU := (hT k hk).2
    have hpl := hP.1
    refine ⟨k, rfl, hk2, [], true, _, _, spec_CycleType sh (g.getD k []) hP, List.nodup_nil, rfl, rfl, trivial, ?_⟩
    refine ⟨Nat, fun j => ⟨[(3, .x (.oz 0)), (6, .d true (.sl .int) (typL (g.getD k []))), (7, I (j : Nat)), (13, .d sh (.sl (.sl .int)) g), (14, I g.length), (15, I (k : Nat))], [.tz 58 (sS g k)]⟩, fun j => j ≤ (sS g k).length ∧ ∀ i, i < j → cmpI ((sS g k).getD i ([], 0)).1 (typL (g.getD k [])) < 0, fun j => (sS g k).length - j, 0, ⟨Nat.zero_le _, fun i hi => by omega⟩,
      ⟨⟨rfl, rfl⟩, ⟨rfl, rfl, rfl, rfl, rfl, rfl, trivial⟩, rfl, trivial⟩, fun j ⟨hj, hy⟩ => ?_⟩
    have hU1 := hU.n1
    have hin : ∀ i, i < (sS g k).length → ((sS g k).getD i ([], 0)).1.length = (g.getD 0 []).length ∧ 0 ≤ ((sS g k).getD i ([], 0)).2 ∧ ((sS g k).getD i ([], 0)).2 ≤ (k : Int) := fun i hi => by
      rw [getD_get _ _ _ hi]
      have a1 := hU.t _ (List.getElem_mem hi)
      have a2 := hU.c _ (List.getElem_mem hi)
      exact ⟨a1.1, a2⟩
    have fin : (j = (sS g k).length ∨ ¬ cmpI ((sS g k).getD j ([], 0)).1 (typL (g.getD k [])) < 0) → lowT (sS g k) (typL (g.getD k [])) = j := fun h => lowT_is hj hy h
    refine ⟨fun h2 => ?_, fun h2 => ?_⟩
    · have hj2 : j < (sS g k).length := by omega
      have hj3 := hin j hj2
      refine ⟨j, rfl, hj2, rfl, (by decide : 0 < 2), [], false, _, _, spec_l03Less true true ((sS g k).getD j ([], 0)).1 (typL (g.getD k [])) (by omega) (by omega), List.nodup_nil, rfl, rfl, trivial, fun h3 => ?_, fun h3 => ?_⟩
      · refine ⟨_, w64_in _ (by omega) (by omega), j + 1, ⟨by omega, fun i hi => ?_⟩, by dsimp only; omega, ⟨rfl, rfl⟩, ⟨rfl, rfl, rfl, rfl, rfl, rfl, trivial⟩, rfl, trivial⟩
        by_cases e : i = j
        · subst e; exact of_decide_eq_true h3
        · exact hy i (by omega)
      · have hlow := fin (.inr (of_decide_eq_false h3))
        refine ⟨fun _ => ?_, fun h => (h (by omega)).elim⟩
        refine ⟨j, rfl, hj2, rfl, (by decide : 0 < 2), [], false, _, _, spec_l03Same true true ((sS g k).getD j ([], 0)).1 (typL (g.getD k [])) (by omega) (by omega), List.nodup_nil, rfl, rfl, trivial, fun h4 => ?_, fun h4 => ?_⟩
        · have e4 := of_decide_eq_true h4
          refine ⟨j, rfl, hj2, rfl, (by decide : 1 < 2), ?_⟩
          refine ⟨_, w64_in _ (by omega) (by omega), j, rfl, hj2, rfl, (by decide : 1 < 2), ?_⟩
          exact ⟨((k + 1 : Nat) : Int), w64_eq (by omega) (by omega) (by omega), k + 1, by dsimp only; omega, by dsimp only; omega, ⟨rfl, rfl⟩, ⟨rfl, rfl, rfl, rfl, trivial⟩, tzE (by rw [sS, addS, hlow, if_pos ⟨hj2, e4⟩]; rfl), trivial⟩
        · have e4 := of_decide_eq_false h4
          refine ⟨rfl, j, rfl, Nat.zero_le _, hj, ?_⟩
          refine ⟨Nat.zero_le _, rfl, by simp only [List.length_nil, List.length_drop, List.length_take]; omega, rfl, ?_⟩
          refine ⟨rfl, Nat.zero_le _, rfl, by simp only [List.length_append, List.length_nil, List.length_drop, List.length_take, List.length_cons]; omega, rfl, ?_⟩
          refine ⟨j, rfl, hj, Nat.le_refl _, ?_⟩
          refine ⟨Nat.zero_le _, rfl, by simp only [List.length_append, List.length_nil, List.length_drop, List.length_take, List.length_cons]; omega, rfl, ?_⟩
          refine ⟨Nat.zero_le _, Nat.zero_le _, rfl, rfl, ?_⟩
          exact ⟨((k + 1 : Nat) : Int), w64_eq (by omega) (by omega) (by omega), k + 1, by dsimp only; omega, by dsimp only; omega, ⟨rfl, rfl⟩, ⟨rfl, rfl, rfl, rfl, trivial⟩, tzE (by rw [sS, addS, hlow, if_neg (fun h => e4 h.2)]; simp), trivial⟩
    · obtain rfl : j = (sS g k).length := by omega
      have hlow := fin (.inl rfl)
      refine ⟨fun h => by omega, fun _ => ?_⟩
      refine ⟨rfl, (sS g k).length, rfl, Nat.zero_le _, Nat.le_refl _, ?_⟩
      refine ⟨Nat.zero_le _, rfl, by simp only [List.length_nil, List.length_drop, List.length_take]; omega, rfl, ?_⟩
      refine ⟨rfl, Nat.zero_le _, rfl, by simp only [List.length_append, List.length_nil, List.length_drop, List.length_take, List.length_cons]; omega, rfl, ?_⟩
      refine ⟨(sS g k).length, rfl, Nat.le_refl _, Nat.le_refl _, ?_⟩
      refine ⟨Nat.zero_le _, rfl, by simp only [List.length_append, List.length_nil, List.length_drop, List.length_take, List.length_cons]; omega, rfl, ?_⟩
      refine ⟨Nat.zero_le _, Nat.zero_le _, rfl, rfl, ?_⟩
      exact ⟨((k + 1 : Nat) : Int), w64_eq (by omega) (by omega) (by omega), k + 1, by dsimp only; omega, by dsimp only; omega, ⟨rfl, rfl⟩, ⟨rfl, rfl, rfl, rfl, trivial⟩, tzE (by rw [sS, addS, hlow, if_neg (fun h => absurd h.1 (by omega))]; simp), trivial⟩
  · obtain rfl : k = g.length := by omega
    exact ⟨some 0, ⟨⟨rfl, rfl⟩, trivial⟩, ⟨rfl, rfl⟩, rfl⟩
/-- how many elements the first k terms have -/
def ordT (l : List Tm) : Nat → Int
  | 0 => 0
  | k + 1 => ordT l k + (l.getD k ([], 0)).2
theorem ordT_b {l : List Tm} (h : ∀ i, i < l.length → 0 ≤ (l.getD i ([], 0)).2 ∧ (l.getD i ([], 0)).2 ≤ 120) : ∀ k, k ≤ l.length → 0 ≤ ordT l k ∧ ordT l k ≤ 120 * k
  | 0, _ => by simp [ordT]
  | k + 1, hk => by
    have h1 := ordT_b h k (by omega)
    have h2 := h k (by omega)
    rw [ordT]; omega
/-- impl.IndexOrder -/
theorem impl_IndexOrder (l : List Tm) (hl : l.length ≤ 120) (h : ∀ i, i < l.length → 0 ≤ (l.getD i ([], 0)).2 ∧ (l.getD i ([], 0)).2 ≤ 120) : AC Try.prog 50 [.x (.dz true l)] [] [I (ordT l l.length)] [] := by
  refine AC_of tauOk 18 0 [2] Try.func50 rfl (by kernel_rfl) rfl rfl rfl rfl rfl ?_
  refine ⟨Nat, fun k => ⟨[(3, I (ordT l k)), (6, .x (.dz true l)), (7, I l.length), (8, I (k : Nat))], []⟩, fun k => k ≤ l.length, fun k => l.length - k, 0, Nat.zero_le _,
    ⟨⟨rfl, rfl⟩, ⟨rfl, rfl, rfl, rfl, trivial⟩, trivial⟩, fun k hk => ?_⟩
  dsimp only at hk
  refine ⟨fun h1 => ?_, fun h1 => ?_⟩
  · have hk2 : k < l.length := by omega
    have h3 := ordT_b h k hk
    have h4 := h k hk2
    refine ⟨k, rfl, hk2, (by decide : 0 < 2), (by decide : 2 ≤ 1000), rfl, rfl, rfl, rfl, ?_⟩
    refine ⟨(by decide : 1 < 2), (by decide : 1 < 2), ?_⟩
    have e1 : ordT l (k + 1) = ordT l k + (l.getD k ([], 0)).2 := rfl
    refine ⟨ordT l (k + 1), w64_eq (by rw [ordT]) (by omega) (by omega), ?_⟩
    exact ⟨((k + 1 : Nat) : Int), w64_eq (by omega) (by omega) (by omega), k + 1, by dsimp only; omega, by dsimp only; omega, ⟨rfl, rfl⟩, ⟨rfl, rfl, rfl, rfl, trivial⟩, trivial⟩
  · obtain rfl : k = l.length := by omega
    exact ⟨none, ⟨rfl, trivial⟩, rfl, rfl⟩
/-- the text of a group's terms -/
def ixlS (g : List (List Int)) : List UInt8 := if gokB g = true then Lib.join ((cixL g).map fmtT).reverse [32, 43, 32] else [110, 111, 110, 101]
theorem cix_tm {g : List (List Int)} (hB : gokB g = true) : (cixL g).length ≤ 120 ∧ ∀ i, i < (cixL g).length → TmOk ((cixL g).getD i ([], 0)) := by
  have hG := (gokB_iff g).1 hB
  have h1 := hG.l1
  have h2 := hG.l2
  have hT := (tms_ok hG g.length (Nat.le_refl _)).2
  have hP := (gok1_p (hG.o1 0 (by omega))).1.1
  refine ⟨Nat.le_trans hT.n1 h2, fun i hi => ?_⟩
  rw [getD_get _ _ _ hi]
  have a1 := hT.t _ (List.getElem_mem hi)
  have a2 := hT.c _ (List.getElem_mem hi)
  exact ⟨by have := a1.1; omega, a1.2, a2.1, by omega⟩
theorem ixl_len {g : List (List Int)} (hB : gokB g = true) : (Lib.join ((cixL g).map fmtT).reverse [32, 43, 32]).length ≤ 100000 := by
  obtain ⟨h1, h2⟩ := cix_tm hB
  have h3 := join_len ((cixL g).map fmtT).reverse [32, 43, 32] 600 (fun s hs => by
    obtain ⟨x, hx, rfl⟩ := List.mem_map.1 (List.mem_reverse.1 hs)
    obtain ⟨i, hi, rfl⟩ := List.getElem_of_mem hx
    have := h2 i hi
    rw [getD_get _ _ _ hi] at this
    exact fmtT_len this)
  have h4 : ((cixL g).map fmtT).reverse.length * ([32, 43, 32].length + 600) ≤ 120 * 603 := Nat.mul_le_mul (by simp; omega) (Nat.le_refl _)
  omega
/-- impl.IndexLine -/
theorem impl_IndexLine (sh : Bool) (g : List (List Int)) (hl : g.length ≤ 1048576) (hx : ∀ i, i < g.length → (g.getD i []).length ≤ 1048576) : AC Try.prog 48 [.d sh (.sl (.sl .int)) g] [] [.d true .str (ixlS g)] [] := by
  cases hB : gokB g
  · have hGO := impl_GroupOk sh g hl hx
    rw [hB] at hGO
    refine AC_of tauOk 27 0 [2] Try.func48 rfl (by kernel_rfl) rfl rfl rfl rfl rfl ?_
    refine ⟨[], false, _, _, hGO, List.nodup_nil, rfl, rfl, trivial, nofun, fun _ => ?_⟩
    exact ⟨none, ⟨retS (by rw [ixlS, if_neg (by rw [hB]; decide)]), trivial⟩, rfl, rfl⟩
  · have hGO := impl_GroupOk sh g hl hx
    rw [hB] at hGO
    obtain ⟨h1, h2⟩ := cix_tm hB
    have hj := ixl_len hB
    refine AC_of tauOk 27 0 [2] Try.func48 rfl (by kernel_rfl) rfl rfl rfl rfl rfl ?_
    refine ⟨[], false, _, _, hGO, List.nodup_nil, rfl, rfl, trivial, fun _ => ?_, nofun⟩
    refine ⟨rfl, (by decide : 0 ≤ 1000), true, ?_⟩
    refine ⟨[], true, _, _, impl_CycleIndex sh g hB hl hx, List.nodup_nil, rfl, rfl, trivial, ?_⟩
    refine ⟨Nat, fun k => ⟨[(3, .ow 0), (11, .x (.dz true (cixL g))), (12, I (cixL g).length), (13, I (k : Nat))], [.sl 9 .str (((cixL g).take k).map fmtT)]⟩, fun k => k ≤ (cixL g).length, fun k => (cixL g).length - k, 0, Nat.zero_le _,
      ⟨⟨rfl, rfl⟩, ⟨rfl, rfl, rfl, rfl, trivial⟩, rfl, trivial⟩, fun k hk => ?_⟩
    dsimp only at hk
    refine ⟨fun h3 => ?_, fun h3 => ?_⟩
    · have hk2 : k < (cixL g).length := by omega
      refine ⟨k, rfl, hk2, (by decide : 0 < 2), (by decide : 2 ≤ 1000), rfl, rfl, rfl, rfl, ?_⟩
      refine ⟨rfl, [], false, _, _, impl_FormatTerm ((cixL g).getD k ([], 0)) (h2 k hk2), List.nodup_nil, rfl, rfl, trivial, ?_⟩
      refine ⟨rfl, by decide, false, ?_⟩
      refine ⟨rfl, Nat.zero_le _, rfl, by simp only [List.length_cons, List.length_nil, List.length_map, List.length_take]; omega, rfl, ?_⟩
      exact ⟨((k + 1 : Nat) : Int), w64_eq (by omega) (by omega) (by omega), k + 1, by dsimp only; omega, by dsimp only; omega, ⟨rfl, rfl⟩, ⟨rfl, rfl, rfl, rfl, trivial⟩, rowE (by rw [L_succ (cixL g) k ([], 0) hk2, List.map_append]; rfl), trivial⟩
    · obtain rfl : k = (cixL g).length := by omega
      dsimp only
      rw [List.take_length]
      refine ⟨[0], false, _, _, slices_Reverse_str 9 ((cixL g).map fmtT) (by simp; omega), by decide, rfl, rfl, ⟨⟨List.length_reverse, rfl, rfl⟩, trivial⟩, ?_⟩
      refine ⟨[], false, _, _, impl_Join false ((cixL g).map fmtT).reverse [32, 43, 32] (by simp; omega) (by omega), List.nodup_nil, rfl, rfl, trivial, ?_⟩
      exact ⟨none, ⟨retS (by rw [ixlS, if_pos hB]), trivial⟩, rfl, rfl⟩
/-- spec.IndexLine -/
theorem spec_IndexLine (sh : Bool) (g : List (List Int)) (hl : g.length ≤ 1048576) (hx : ∀ i, i < g.length → (g.getD i []).length ≤ 1048576) : AC Try.prog 47 [.d sh (.sl (.sl .int)) g] [] [.d true .str (ixlS g)] [] := by
  cases hB : gokB g
  · refine AC_of tauOk 29 0 [2] Try.func47 rfl (by kernel_rfl) rfl rfl rfl rfl rfl ?_
    refine ⟨[], true, _, _, spec_CycleIndex_no sh g hB hl hx, List.nodup_nil, rfl, rfl, trivial, ?_⟩
    refine ⟨rfl, (by decide : 0 ≤ 1000), true, ?_⟩
    refine ⟨-1, w64_eq (by decide) (by decide) (by decide), ?_⟩
    refine ⟨Nat, fun _ => ⟨[(3, .nil), (4, .ow 0), (5, I (-1))], [.sl 9 .str []]⟩, fun _ => True, fun _ => 0, 0, trivial,
      ⟨⟨rfl, rfl⟩, ⟨rfl, rfl, rfl, trivial⟩, rfl, trivial⟩, fun k _ => ?_⟩
    refine ⟨fun h => absurd h (by decide), fun _ => ?_⟩
    refine ⟨fun _ => ?_, fun h => (h rfl).elim⟩
    exact ⟨none, ⟨retS (by rw [ixlS, if_neg (by rw [hB]; decide)]), trivial⟩, rfl, rfl⟩
  · have hG := (gokB_iff g).1 hB
    obtain ⟨h1, h2⟩ := cix_tm hB
    have hj := ixl_len hB
    have hne := cix_ne hG.l1
    have h0 := List.length_pos_iff.2 hne
    refine AC_of tauOk 29 0 [2] Try.func47 rfl (by kernel_rfl) rfl rfl rfl rfl rfl ?_
    refine ⟨[], true, _, _, spec_CycleIndex sh g hB hl hx, List.nodup_nil, rfl, rfl, trivial, ?_⟩
    refine ⟨rfl, (by decide : 0 ≤ 1000), true, ?_⟩
    refine ⟨((cixL g).length - 1 : Int), w64_eq (by omega) (by omega) (by omega), ?_⟩
    refine ⟨Nat, fun k => ⟨[(3, .x (.dz true (cixL g))), (4, .ow 0), (5, I (((cixL g).length : Int) - 1 - (k : Nat)))], [.sl 9 .str (((cixL g).map fmtT).reverse.take k)]⟩, fun k => k ≤ (cixL g).length, fun k => (cixL g).length - k, 0, Nat.zero_le _,
      ⟨⟨rfl, rfl⟩, ⟨rfl, rfl, retI (by omega), trivial⟩, rfl, trivial⟩, fun k hk => ?_⟩
    dsimp only at hk
    refine ⟨fun h3 => ?_, fun h3 => ?_⟩
    · have hk2 : k < (cixL g).length := by omega
      refine ⟨(cixL g).length - 1 - k, (by show (((cixL g).length : Int) - 1 - (k : Nat)) = (((cixL g).length - 1 - k : Nat) : Int); omega), by omega, ?_⟩
      refine ⟨[], false, _, _, spec_FormatTerm ((cixL g).getD ((cixL g).length - 1 - k) ([], 0)) (h2 _ (by omega)), List.nodup_nil, rfl, rfl, trivial, ?_⟩
      refine ⟨rfl, by decide, false, ?_⟩
      refine ⟨rfl, Nat.zero_le _, rfl, by simp only [List.length_cons, List.length_nil, List.length_map, List.length_take, List.length_reverse]; omega, rfl, ?_⟩
      refine ⟨(((cixL g).length : Int) - 1 - ((k + 1 : Nat))), w64_eq (by omega) (by omega) (by omega), k + 1, by dsimp only; omega, by dsimp only; omega, ⟨rfl, rfl⟩, ⟨rfl, rfl, rfl, trivial⟩, rowE ?_, trivial⟩
      have hk3 : k < (((cixL g).map fmtT).reverse).length := by simpa using hk2
      rw [L_succ (((cixL g).map fmtT).reverse) k [] hk3, getD_get _ _ _ hk3, List.getElem_reverse, List.getElem_map, getD_get _ _ _ (by omega)]
      simp
    · obtain rfl : k = (cixL g).length := by omega
      have hl2 : (((cixL g).map fmtT).reverse).length = (cixL g).length := by simp
      dsimp only
      rw [← hl2, List.take_length, hl2]
      refine ⟨fun h => ?_, fun _ => ?_⟩
      · simp at h; exact absurd h hne
      refine ⟨[], false, _, _, spec_Join false ((cixL g).map fmtT).reverse [32, 43, 32] (by simp; omega) (by omega), List.nodup_nil, rfl, rfl, trivial, ?_⟩
      exact ⟨none, ⟨retS (by rw [ixlS, if_pos hB]), trivial⟩, rfl, rfl⟩
/-- laws.FnExactIndexLine -/
theorem laws_FnExactIndexLine (sh : Bool) (xss : List (List Int)) (hl : Lens xss) : AC Try.prog 9 [.d sh (.sl (.sl .int)) xss] [] [.d true .bool true] [] := by
  refine AC_of tauOk 27 0 [2] Try.func9 rfl (by kernel_rfl) rfl rfl rfl rfl rfl ?_
  refine ⟨[], false, _, _, laws_szIntSS sh xss 1048576 hl (by decide) (by decide), List.nodup_nil, rfl, rfl, trivial, fun h1 => ?_, fun h1 => ?_⟩
  · exact ⟨none, ⟨rfl, trivial⟩, rfl, rfl⟩
  have hs := short_of (xss := xss) (by omega)
  refine ⟨[], true, _, _, laws_toIntSS sh xss hs, List.nodup_nil, rfl, rfl, trivial, ?_⟩
  refine ⟨[], false, _, _, spec_IndexLine true xss hs.1 hs.2, List.nodup_nil, rfl, rfl, trivial, ?_⟩
  refine ⟨[], true, _, _, laws_toIntSS sh xss hs, List.nodup_nil, rfl, rfl, trivial, ?_⟩
  refine ⟨[], false, _, _, impl_IndexLine true xss hs.1 hs.2, List.nodup_nil, rfl, rfl, trivial, fun h2 => (h2 rfl).elim, fun h2 => ?_⟩
  refine ⟨[], true, _, _, laws_toIntSS sh xss hs, List.nodup_nil, rfl, rfl, trivial, ?_⟩
  refine ⟨[], false, _, _, laws_eqIntSS _ _ xss hs, List.nodup_nil, rfl, rfl, trivial, fun h5 => ?_, fun h5 => by simp at h5⟩
  exact ⟨none, ⟨rfl, trivial⟩, rfl, rfl⟩
end Go.Proofs.Ytcamhpknmbohnaa
