/-
  Contracts of the functions on exchanged colors.
-/
import Derived.Test.YtbnonelkdgkpdaaPls
import Derived.Test.YtbnonelkdgkpdaaWcol
set_option linter.unusedVariables false
namespace Go.Proofs.Ytbnonelkdgkpdaa
open Go Go.Proofs.Ytbnonelkdgkpdaa.Ow
/-- spec.PermOk -/
theorem spec_PermOk (sh : Bool) (xs : List Int) (hl : xs.length ≤ 1048576) : AC Try.prog 111 [.d sh (.sl .int) xs] [] [.d true .bool (permB xs)] [] := by
  refine AC_of tauOk 35 0 [2] Try.func111 rfl (by kernel_rfl) rfl rfl rfl rfl rfl ?_
  refine ⟨[], false, _, _, spec_l01In _ _ _, List.nodup_nil, rfl, rfl, trivial, fun h1 => ?_, fun h1 => ?_⟩
  · simp only [Bool.and_eq_true, decide_eq_true_eq] at h1
    refine ⟨xs.length, xs.length, rfl, rfl, Nat.le_refl _, by omega, ?_⟩
    refine ⟨Nat × List Bool, fun i => ⟨[(0, .d sh (.sl .int) xs), (3, .ow 0), (13, .d sh (.sl .int) xs), (14, I xs.length), (15, I (i.1 : Nat))], [.sl 4 .bool i.2]⟩, fun i => i.1 ≤ xs.length ∧ MetI xs i.1 xs.length i.2, fun i => xs.length - i.1, (0, _), ⟨Nat.zero_le _, metI0 xs xs.length⟩,
      ⟨⟨rfl, rfl⟩, ⟨rfl, rfl, rfl, rfl, rfl, trivial⟩, rfl, trivial⟩, ?_⟩
    rintro ⟨k, met⟩ ⟨hk, H⟩
    dsimp only at hk H
    have hml := H.l
    refine ⟨fun h2 => ?_, fun h2 => ?_⟩
    · dsimp only at h2
      have hk2 : k < xs.length := by omega
      refine ⟨k, rfl, hk2, ?_⟩
      refine ⟨(xs.length : Int) - 1, w64_eq rfl (by omega) (by omega), ?_⟩
      refine ⟨[], false, _, _, spec_l01In _ _ _, List.nodup_nil, rfl, rfl, trivial, fun h3 => ?_, fun h3 => ?_⟩
      · simp only [Bool.and_eq_true, decide_eq_true_eq] at h3
        obtain ⟨c, hcc⟩ : ∃ c : Nat, xs.getD k 0 = c := ⟨(xs.getD k 0).toNat, by omega⟩
        refine ⟨c, hcc, by dsimp only; omega, fun h4 => ?_, fun h4 => ?_⟩
        · exact ⟨none, ⟨retB (permB_false (metI_dup H hk2 hcc (by omega) h4)), trivial⟩, rfl, rfl⟩
        · refine ⟨c, hcc, by dsimp only; omega, ?_⟩
          exact ⟨((k + 1 : Nat) : Int), w64_eq (by dsimp only; omega) (by omega) (by omega), (k + 1, _), ⟨by dsimp only; omega, metI_step H hcc (by omega) (by omega) h4⟩, by dsimp only; omega, ⟨rfl, rfl⟩, ⟨rfl, rfl, rfl, rfl, rfl, trivial⟩, rfl, trivial⟩
      · simp only [Bool.and_eq_false_iff, decide_eq_false_iff_not] at h3
        refine ⟨none, ⟨retB (permB_false fun h => ?_), trivial⟩, rfl, rfl⟩
        have := (h.2 k hk2).1
        omega
    · dsimp only at h2
      exact ⟨none, ⟨retB ((permB_iff xs).2 ⟨⟨by omega, by omega⟩, fun i hi => H.ok i (by omega)⟩), trivial⟩, rfl, rfl⟩
  · simp only [Bool.and_eq_false_iff, decide_eq_false_iff_not] at h1
    exact ⟨none, ⟨retB (permB_false fun h => by have := h.1; omega), trivial⟩, rfl, rfl⟩

/-- impl.PermOk -/
theorem impl_PermOk (sh : Bool) (xs : List Int) (hl : xs.length ≤ 1048576) : AC Try.prog 58 [.d sh (.sl .int) xs] [] [.d true .bool (permB xs)] [] := by
  refine AC_of tauOk 37 0 [2] Try.func58 rfl (by kernel_rfl) rfl rfl rfl rfl rfl ?_
  refine ⟨fun h1 => ?_, fun h1 => ?_⟩
  · exact ⟨none, ⟨retB (permB_false fun h => by have := h.1; omega), trivial⟩, rfl, rfl⟩
  refine ⟨fun h2 => ?_, fun h2 => ?_⟩
  · exact ⟨none, ⟨retB (permB_false fun h => by have := h.1; omega), trivial⟩, rfl, rfl⟩
  refine ⟨by decide, by decide, rfl, rfl, rfl, rfl, ?_⟩
  refine ⟨Nat × List Bool, fun i => ⟨[(0, .d sh (.sl .int) xs), (3, .ptr 0 0), (15, .d sh (.sl .int) xs), (16, I xs.length), (17, I (i.1 : Nat))], [.sl 87 .bool i.2]⟩, fun i => i.1 ≤ xs.length ∧ MetI xs i.1 10 i.2, fun i => xs.length - i.1, (0, _), ⟨Nat.zero_le _, metI0 xs 10⟩,
    ⟨⟨rfl, rfl⟩, ⟨rfl, rfl, rfl, rfl, rfl, trivial⟩, rfl, trivial⟩, ?_⟩
  rintro ⟨k, met⟩ ⟨hk, H⟩
  dsimp only at hk H
  have hml := H.l
  refine ⟨fun h3 => ?_, fun h3 => ?_⟩
  · dsimp only at h3
    have hk2 : k < xs.length := by omega
    refine ⟨k, rfl, hk2, fun h4 => ?_, fun h4 => ?_⟩
    · refine ⟨none, ⟨retB (permB_false fun h => ?_), trivial⟩, rfl, rfl⟩
      have := (h.2 k hk2).1
      omega
    refine ⟨fun h5 => ?_, fun h5 => ?_⟩
    · refine ⟨none, ⟨retB (permB_false fun h => ?_), trivial⟩, rfl, rfl⟩
      have := (h.2 k hk2).1
      omega
    obtain ⟨c, hcc⟩ : ∃ c : Nat, xs.getD k 0 = c := ⟨(xs.getD k 0).toNat, by omega⟩
    refine ⟨c, hcc, by omega, by dsimp only; omega, fun h6 => ?_, fun h6 => ?_⟩
    · exact ⟨none, ⟨retB (permB_false (metI_dup H hk2 hcc (by omega) h6)), trivial⟩, rfl, rfl⟩
    · refine ⟨c, hcc, by omega, by dsimp only; omega, ?_⟩
      exact ⟨((k + 1 : Nat) : Int), w64_eq (by dsimp only; omega) (by omega) (by omega), (k + 1, _), ⟨by dsimp only; omega, metI_step H hcc (by omega) (by omega) h6⟩, by dsimp only; omega, ⟨rfl, rfl⟩, ⟨rfl, rfl, rfl, rfl, rfl, trivial⟩, rfl, trivial⟩
  · dsimp only at h3
    exact ⟨none, ⟨retB ((permB_iff xs).2 ⟨⟨by omega, by omega⟩, fun i hi => H.ok i (by omega)⟩), trivial⟩, rfl, rfl⟩

/-- spec.l07Below -/
theorem spec_l07Below (sh : Bool) (xs : List Int) (z : Int) (hl : xs.length ≤ 1048576) : AC Try.prog 73 [.d sh (.sl .int) xs, I z] [] [.d true .bool (belowB xs z && colB xs && (decide (1 ≤ z) && decide (z ≤ 4)))] [] := by
  refine AC_of tauOk 23 0 [4] Try.func73 rfl (by kernel_rfl) rfl rfl rfl rfl rfl ?_
  refine ⟨Nat, fun k => ⟨[(0, .d sh (.sl .int) xs), (1, I z), (7, .d sh (.sl .int) xs), (8, I xs.length), (9, I (k : Nat))], []⟩, fun k => k ≤ xs.length ∧ ∀ j, j < k → xs.getD j 0 < z, fun k => xs.length - k, 0, ⟨by omega, fun j hj => by omega⟩,
    ⟨⟨rfl, rfl⟩, ⟨rfl, rfl, rfl, rfl, rfl, trivial⟩, trivial⟩, fun k ⟨hk, hy⟩ => ?_⟩
  refine ⟨fun h1 => ?_, fun h1 => ?_⟩
  · refine ⟨k, rfl, by omega, fun h2 => ?_, fun h2 => ?_⟩
    · refine ⟨none, ⟨retB (by rw [belowB_false k (by omega) (by omega)]; rfl), trivial⟩, rfl, rfl⟩
    · refine ⟨_, w64_in _ (by omega) (by omega), k + 1, ⟨by omega, fun i hi => ?_⟩, by dsimp only; omega, ⟨rfl, rfl⟩, ⟨rfl, rfl, rfl, rfl, rfl, trivial⟩, trivial⟩
      by_cases e : i = k
      · subst e; omega
      · exact hy i (by omega)
  · have hb : belowB xs z = true := (belowB_iff xs z).2 fun i hi => hy i (by omega)
    refine ⟨[], false, _, _, spec_ColoringOk sh xs hl, List.nodup_nil, rfl, rfl, trivial, fun h2 => ?_, fun h2 => ?_⟩
    · refine ⟨[], false, _, _, spec_l01In _ _ _, List.nodup_nil, rfl, rfl, trivial, fun h3 => ?_, fun h3 => ?_⟩
      · exact ⟨none, ⟨retB (by rw [hb, h2, h3]; rfl), trivial⟩, rfl, rfl⟩
      · exact ⟨none, ⟨retB (by rw [hb, h2, h3]; rfl), trivial⟩, rfl, rfl⟩
    · exact ⟨none, ⟨retB (by rw [hb, h2]; rfl), trivial⟩, rfl, rfl⟩

/-- spec.l13Exchange -/
theorem spec_l13Exchange (s1 s2 : Bool) (xs h : List Int) (hl : xs.length ≤ 1048576) (hx : ∀ i, i < xs.length → 0 ≤ xs.getD i 0 ∧ xs.getD i 0 < (h.length : Int)) :
    AC Try.prog 104 [.d s1 (.sl .int) xs, .d s2 (.sl .int) h] [] [.ow 0] [.sl 3 .int (exL xs h)] := by
  refine AC_of tauOk 24 0 [4] Try.func104 rfl (by kernel_rfl) rfl rfl rfl rfl rfl ?_
  refine ⟨rfl, by decide, true, ?_⟩
  refine ⟨Nat, fun k => ⟨[(1, .d s2 (.sl .int) h), (5, .ow 0), (9, .d s1 (.sl .int) xs), (10, I xs.length), (11, I (k : Nat))], [.sl 3 .int (exL (xs.take k) h)]⟩, fun k => k ≤ xs.length, fun k => xs.length - k, 0, Nat.zero_le _,
    ⟨⟨rfl, rfl⟩, ⟨rfl, rfl, rfl, rfl, rfl, trivial⟩, rfl, trivial⟩, fun k hk => ?_⟩
  dsimp only at hk
  refine ⟨fun h2 => ?_, fun h2 => ?_⟩
  · have hk2 : k < xs.length := by omega
    have hb := hx k hk2
    have hs := exL_succ xs h k hk2
    have hle : (exL (xs.take k) h).length ≤ 1048576 := by rw [exL_len]; simp; omega
    refine ⟨k, rfl, by omega, ?_⟩
    refine ⟨(xs.getD k 0).toNat, (Int.toNat_of_nonneg hb.1).symm, by omega, ?_⟩
    refine ⟨rfl, by decide, false, ?_⟩
    refine ⟨rfl, Nat.zero_le _, rfl, by simp at hle ⊢; omega, rfl, ?_⟩
    exact ⟨((k + 1 : Nat) : Int), w64_eq (by omega) (by omega) (by omega), k + 1, by dsimp only; omega, by dsimp only; omega, ⟨rfl, rfl⟩, ⟨rfl, rfl, rfl, rfl, rfl, trivial⟩, rowE hs.symm, trivial⟩
  · obtain rfl : k = xs.length := by omega
    exact ⟨some 0, ⟨⟨rfl, rfl⟩, trivial⟩, ⟨rfl, rowsE (by rw [List.take_length])⟩, rfl⟩

/-- impl.exchanged -/
theorem impl_exchanged (s1 s2 : Bool) (xs h : List Int) (hl : xs.length ≤ 1048576) (hx : ∀ i, i < xs.length → 0 ≤ xs.getD i 0 ∧ xs.getD i 0 < (h.length : Int)) :
    AC Try.prog 60 [.d s1 (.sl .int) xs, .d s2 (.sl .int) h] [] [.ow 0] [.sl 3 .int (exL xs h)] := by
  refine AC_of tauOk 24 0 [4] Try.func60 rfl (by kernel_rfl) rfl rfl rfl rfl rfl ?_
  refine ⟨rfl, by decide, true, ?_⟩
  refine ⟨Nat, fun k => ⟨[(1, .d s2 (.sl .int) h), (5, .ow 0), (9, .d s1 (.sl .int) xs), (10, I xs.length), (11, I (k : Nat))], [.sl 3 .int (exL (xs.take k) h)]⟩, fun k => k ≤ xs.length, fun k => xs.length - k, 0, Nat.zero_le _,
    ⟨⟨rfl, rfl⟩, ⟨rfl, rfl, rfl, rfl, rfl, trivial⟩, rfl, trivial⟩, fun k hk => ?_⟩
  dsimp only at hk
  refine ⟨fun h2 => ?_, fun h2 => ?_⟩
  · have hk2 : k < xs.length := by omega
    have hb := hx k hk2
    have hs := exL_succ xs h k hk2
    have hle : (exL (xs.take k) h).length ≤ 1048576 := by rw [exL_len]; simp; omega
    refine ⟨k, rfl, by omega, ?_⟩
    refine ⟨(xs.getD k 0).toNat, (Int.toNat_of_nonneg hb.1).symm, by omega, ?_⟩
    refine ⟨rfl, by decide, false, ?_⟩
    refine ⟨rfl, Nat.zero_le _, rfl, by simp at hle ⊢; omega, rfl, ?_⟩
    exact ⟨((k + 1 : Nat) : Int), w64_eq (by omega) (by omega) (by omega), k + 1, by dsimp only; omega, by dsimp only; omega, ⟨rfl, rfl⟩, ⟨rfl, rfl, rfl, rfl, rfl, trivial⟩, rowE hs.symm, trivial⟩
  · obtain rfl : k = xs.length := by omega
    exact ⟨some 0, ⟨⟨rfl, rfl⟩, trivial⟩, ⟨rfl, rowsE (by rw [List.take_length])⟩, rfl⟩

/-- the closure of impl.below -/
theorem impl_below_1 (z x : Int) : AC Try.prog 93 [I x, .ptr 0 0] [.box 3 (I z)] [.d true .bool (decide (z ≤ x))] [.box 3 (I z)] := by
  refine AC_of tauOk 7 1 [3] Try.func93 rfl (by kernel_rfl) rfl rfl rfl rfl rfl ?_
  refine ⟨rfl, fun h1 => ?_, fun h1 => ?_⟩
  · exact ⟨none, ⟨retB (by rw [decide_eq_true]; exact h1), trivial⟩, rfl, rfl⟩
  · exact ⟨none, ⟨retB (by rw [decide_eq_false]; exact h1), trivial⟩, rfl, rfl⟩

/-- the first index at which p holds, or -1 -/
def idxF (p : Int → Bool) (xs : List Int) : Int := match xs.findIdx? p with | some i => (i : Int) | none => -1
theorem idxF_at {p : Int → Bool} {xs : List Int} {k : Nat} (hk : k < xs.length) (h : p (xs.getD k 0) = true) (h0 : ∀ j, j < k → p (xs.getD j 0) = false) : (k : Int) = idxF p xs := by
  have : xs.findIdx? p = some k := by
    rw [List.findIdx?_eq_some_iff_getElem]
    exact ⟨hk, by rw [getD_get _ _ _ hk] at h; exact h, fun j hj => by have := h0 j hj; rw [getD_get _ _ _ (by omega)] at this; simp [this]⟩
  rw [idxF, this]
theorem idxF_no {p : Int → Bool} {xs : List Int} (h0 : ∀ j, j < xs.length → p (xs.getD j 0) = false) : -1 = idxF p xs := by
  have : xs.findIdx? p = none := by
    rw [List.findIdx?_eq_none_iff]
    intro x hx
    obtain ⟨j, hj, rfl⟩ := List.getElem_of_mem hx
    have := h0 j hj; rwa [getD_get _ _ _ hj] at this
  rw [idxF, this]
/-- slices.IndexFunc of ints, by a closure over one variable -/
theorem slices_IndexFunc_int1 (F : Nat) (e : TypeId) (t : Ty) (v : t.T) (p : Int → Bool) (sh : Bool) (xs : List Int) (hl : xs.length ≤ 1048576)
    (hF : ∀ i, i < xs.length → AC Try.prog F [I (xs.getD i 0), .ptr 0 0] [.box e (.d true t v)] [.d true .bool (p (xs.getD i 0))] [.box e (.d true t v)]) :
    AC Try.prog 116 [.d sh (.sl .int) xs, .fn F [.ptr 0 0]] [.box e (.d true t v)] [I (idxF p xs)] [.box e (.d true t v)] := by
  refine AC_of tauOk 19 1 [4] Try.func116 rfl (by kernel_rfl) rfl rfl rfl rfl rfl ?_
  refine ⟨Nat, fun k => ⟨[(0, .d sh (.sl .int) xs), (1, .fn F [.ptr 0 0]), (7, I xs.length), (8, I (k : Nat))], [.box e (.d true t v)]⟩, fun k => k ≤ xs.length ∧ ∀ j, j < k → p (xs.getD j 0) = false, fun k => xs.length - k, 0, ⟨by omega, fun j hj => by omega⟩,
    ⟨⟨rfl, rfl⟩, ⟨rfl, rfl, rfl, rfl, trivial⟩, rfl, trivial⟩, fun k ⟨hk, hy⟩ => ?_⟩
  refine ⟨fun h1 => ?_, fun h1 => ?_⟩
  · have hk2 : k < xs.length := by omega
    refine ⟨k, rfl, hk2, [0], false, _, _, hF k hk2, by decide, rfl, rfl, ⟨⟨rfl, trivial⟩, trivial⟩, fun h2 => ?_, fun h2 => ?_⟩
    · exact ⟨none, ⟨retI (idxF_at hk2 h2 hy).symm, trivial⟩, rfl, rfl⟩
    · refine ⟨_, w64_in _ (by omega) (by omega), k + 1, ⟨by omega, fun i hi => ?_⟩, by dsimp only; omega, ⟨rfl, rfl⟩, ⟨rfl, rfl, rfl, rfl, trivial⟩, rfl, trivial⟩
      by_cases e : i = k
      · subst e; exact h2
      · exact hy i (by omega)
  · exact ⟨none, ⟨retI (idxF_no fun j hj => hy j (by omega)).symm, trivial⟩, rfl, rfl⟩

theorem idxF_any (p : Int → Bool) (xs : List Int) : (0 ≤ idxF p xs) ↔ xs.any p = true := by
  unfold idxF
  cases h : xs.findIdx? p with
  | none =>
    rw [List.findIdx?_eq_none_iff] at h
    simp only [List.any_eq_true]
    exact ⟨fun h => by omega, fun ⟨x, hx, hp⟩ => by rw [h x hx] at hp; cases hp⟩
  | some i =>
    rw [List.findIdx?_eq_some_iff_getElem] at h
    obtain ⟨hi, hp, _⟩ := h
    simp only [List.any_eq_true]
    exact ⟨fun _ => ⟨xs[i], List.getElem_mem hi, hp⟩, fun _ => by omega⟩
theorem slices_ContainsFunc_int1 (F : Nat) (e : TypeId) (t : Ty) (v : t.T) (p : Int → Bool) (sh : Bool) (xs : List Int) (hl : xs.length ≤ 1048576)
    (hF : ∀ i, i < xs.length → AC Try.prog F [I (xs.getD i 0), .ptr 0 0] [.box e (.d true t v)] [.d true .bool (p (xs.getD i 0))] [.box e (.d true t v)]) :
    AC Try.prog 92 [.d sh (.sl .int) xs, .fn F [.ptr 0 0]] [.box e (.d true t v)] [.d true .bool (xs.any p)] [.box e (.d true t v)] := by
  refine AC_of tauOk 9 1 [4] Try.func92 rfl (by kernel_rfl) rfl rfl rfl rfl rfl ?_
  refine ⟨[0], false, _, _, slices_IndexFunc_int1 F e t v p sh xs hl hF, by decide, rfl, rfl, ⟨⟨rfl, trivial⟩, trivial⟩, fun h1 => ?_, fun h1 => ?_⟩
  · exact ⟨none, ⟨retB ((idxF_any p xs).1 h1), trivial⟩, rfl, rfl⟩
  · exact ⟨none, ⟨retB (by cases h : xs.any p; rfl; exact (h1 ((idxF_any p xs).2 h)).elim), trivial⟩, rfl, rfl⟩

theorem belowB_any (xs : List Int) (z : Int) : belowB xs z = !xs.any (fun x => decide (z ≤ x)) := by
  unfold belowB
  induction xs with
  | nil => rfl
  | cons x xs ih => simp only [List.all_cons, List.any_cons, ih, Bool.not_or]; congr 1; by_cases h : x < z <;> simp [h] <;> omega
/-- impl.below -/
theorem impl_below (sh : Bool) (xs : List Int) (z : Int) (hl : xs.length ≤ 1048576) : AC Try.prog 59 [.d sh (.sl .int) xs, I z] [] [.d true .bool (belowB xs z)] [] := by
  refine AC_of tauOk 9 0 [4] Try.func59 rfl (by kernel_rfl) rfl rfl rfl rfl rfl ?_
  refine ⟨rfl, [0], false, _, _, slices_ContainsFunc_int1 93 3 .int z (fun x => decide (z ≤ x)) sh xs hl (fun i hi => impl_below_1 z _), by decide, rfl, rfl, ⟨⟨rfl, trivial⟩, trivial⟩, fun h1 => ?_, fun h1 => ?_⟩
  · exact ⟨none, ⟨retB (by rw [belowB_any, h1]), trivial⟩, rfl, rfl⟩
  · exact ⟨none, ⟨retB (by rw [belowB_any, h1]), trivial⟩, rfl, rfl⟩

theorem exB_yes {xs h : List Int} (e : exB xs h = true) : ColP xs ∧ PermP h ∧ h.length ≤ 4 ∧ (∀ i, i < xs.length → 0 ≤ xs.getD i 0 ∧ xs.getD i 0 < (h.length : Int)) := by
  unfold exB at e
  simp only [Bool.and_eq_true, decide_eq_true_eq] at e
  obtain ⟨⟨⟨h1, h2⟩, h3⟩, h4⟩ := e
  have hc := (colB_iff xs).1 h1
  exact ⟨hc, (permB_iff h).1 h2, h3, fun i hi => ⟨(hc.1 i hi).1, (belowB_iff _ _).1 h4 i hi⟩⟩

theorem impl_ExchangeColors_both (s1 s2 : Bool) (xs h : List Int) (hl : xs.length ≤ 1048576) (hl2 : h.length ≤ 1048576) (r : List AV) (rr : List Row)
    (hno : exB xs h = false → r = [.nil, .d true .bool false] ∧ rr = []) (hyes : exB xs h = true → r = [.ow 0, .d true .bool true] ∧ rr = [.sl 3 .int (exL xs h)]) :
    AC Try.prog 15 [.d s1 (.sl .int) xs, .d s2 (.sl .int) h] [] r rr := by
  refine AC_of tauOk 29 0 [4, 5] Try.func15 rfl (by kernel_rfl) rfl rfl rfl rfl rfl ?_
  refine ⟨[], false, _, _, impl_ColoringOk s1 xs hl, List.nodup_nil, rfl, rfl, trivial, fun h1 => ?_, fun h1 => ?_⟩
  · refine ⟨[], false, _, _, impl_PermOk s2 h hl2, List.nodup_nil, rfl, rfl, trivial, fun h2 => ?_, fun h2 => ?_⟩
    · refine ⟨fun h3 => ?_, fun h3 => ?_⟩
      · obtain ⟨rfl, rfl⟩ := hno (by rw [exB, show decide (h.length ≤ 4) = false from decide_eq_false (by omega)]; simp)
        exact ⟨none, ⟨rfl, rfl, trivial⟩, rfl, rfl⟩
      · refine ⟨[], false, _, _, impl_below s1 xs h.length hl, List.nodup_nil, rfl, rfl, trivial, fun h4 => ?_, fun h4 => ?_⟩
        · have he : exB xs h = true := by rw [exB, h1, h2, h4, decide_eq_true (by omega)]; rfl
          obtain ⟨rfl, rfl⟩ := hyes he
          refine ⟨[], false, _, _, impl_exchanged s1 s2 xs h hl (exB_yes he).2.2.2, List.nodup_nil, rfl, rfl, trivial, ?_⟩
          exact ⟨some 0, ⟨⟨rfl, rfl⟩, rfl, trivial⟩, ⟨rfl, rfl⟩, rfl⟩
        · obtain ⟨rfl, rfl⟩ := hno (by rw [exB, h4]; simp)
          exact ⟨none, ⟨rfl, rfl, trivial⟩, rfl, rfl⟩
    · obtain ⟨rfl, rfl⟩ := hno (by rw [exB, h2]; simp)
      exact ⟨none, ⟨rfl, rfl, trivial⟩, rfl, rfl⟩
  · obtain ⟨rfl, rfl⟩ := hno (by rw [exB, h1]; simp)
    exact ⟨none, ⟨rfl, rfl, trivial⟩, rfl, rfl⟩
theorem impl_ExchangeColors (s1 s2 : Bool) (xs h : List Int) (hl : xs.length ≤ 1048576) (hl2 : h.length ≤ 1048576) (hc : exB xs h = true) :
    AC Try.prog 15 [.d s1 (.sl .int) xs, .d s2 (.sl .int) h] [] [.ow 0, .d true .bool true] [.sl 3 .int (exL xs h)] :=
  impl_ExchangeColors_both s1 s2 xs h hl hl2 _ _ (fun h => by rw [hc] at h; cases h) (fun _ => ⟨rfl, rfl⟩)
theorem impl_ExchangeColors_no (s1 s2 : Bool) (xs h : List Int) (hl : xs.length ≤ 1048576) (hl2 : h.length ≤ 1048576) (hc : exB xs h = false) :
    AC Try.prog 15 [.d s1 (.sl .int) xs, .d s2 (.sl .int) h] [] [.nil, .d true .bool false] [] :=
  impl_ExchangeColors_both s1 s2 xs h hl hl2 _ _ (fun _ => ⟨rfl, rfl⟩) (fun h => by rw [hc] at h; cases h)


end Go.Proofs.Ytbnonelkdgkpdaa
