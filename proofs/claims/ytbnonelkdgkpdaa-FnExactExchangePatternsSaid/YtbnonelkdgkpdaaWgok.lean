/-
  Contracts of GroupOk, of whatever lists of lists.
-/
import Derived.Test.YtbnonelkdgkpdaaWsym
set_option linter.unusedVariables false
namespace Go.Proofs.Ytbnonelkdgkpdaa
open Go Go.Proofs.Ytbnonelkdgkpdaa.Ow
/-- place i of a group is as it must be -/
def gok1 (g : List (List Int)) (i : Nat) : Bool := permB (g.getD i []) && (decide ((g.getD i []).length = (g.getD 0 []).length) && (decide (i = 0) || decide (cmpI (g.getD (i - 1) []) (g.getD i []) < 0)))
def gok2 (g : List (List Int)) (i j : Nat) : Bool := decide (0 ≤ findI g (exL (g.getD i []) (g.getD j [])))
def gokB (g : List (List Int)) : Bool := (decide (1 ≤ g.length) && decide (g.length ≤ 120)) && ((List.range g.length).all (gok1 g) && (List.range g.length).all fun i => (List.range g.length).all (gok2 g i))
structure GrpP (g : List (List Int)) : Prop where
  l1 : 1 ≤ g.length
  l2 : g.length ≤ 120
  o1 : ∀ i, i < g.length → gok1 g i = true
  o2 : ∀ i, i < g.length → ∀ j, j < g.length → gok2 g i j = true
theorem gokB_iff (g : List (List Int)) : gokB g = true ↔ GrpP g := by
  unfold gokB
  simp only [Bool.and_eq_true, decide_eq_true_eq, List.all_eq_true, List.mem_range]
  exact ⟨fun ⟨⟨a, b⟩, c, d⟩ => ⟨a, b, c, d⟩, fun ⟨a, b, c, d⟩ => ⟨⟨a, b⟩, c, d⟩⟩
theorem gokB_no {g : List (List Int)} (h : ¬ GrpP g) : gokB g = false := by
  cases hb : gokB g
  · rfl
  · exact (h ((gokB_iff g).1 hb)).elim
theorem gok1_p {g : List (List Int)} {i : Nat} (h : gok1 g i = true) : PermP (g.getD i []) ∧ (g.getD i []).length = (g.getD 0 []).length ∧ (i = 0 ∨ cmpI (g.getD (i - 1) []) (g.getD i []) < 0) := by
  unfold gok1 at h
  simp only [Bool.and_eq_true, Bool.or_eq_true, decide_eq_true_eq] at h
  exact ⟨(permB_iff _).1 h.1, h.2.1, h.2.2⟩
theorem gok1_of {g : List (List Int)} {i : Nat} (h1 : permB (g.getD i []) = true) (h2 : (g.getD i []).length = (g.getD 0 []).length) (h3 : i = 0 ∨ cmpI (g.getD (i - 1) []) (g.getD i []) < 0) : gok1 g i = true := by
  unfold gok1
  simp only [Bool.and_eq_true, Bool.or_eq_true, decide_eq_true_eq]
  exact ⟨h1, h2, h3⟩
theorem gok_ext {g : List (List Int)} {k : Nat} (h : ∀ j, j < k → gok1 g j = true) (h2 : gok1 g k = true) : ∀ j, j < k + 1 → gok1 g j = true := fun j hj => by
  by_cases e : j = k
  · subst e; exact h2
  · exact h j (by omega)
theorem ext1 {p : Nat → Prop} {k : Nat} (h : ∀ j, j < k → p j) (h2 : p k) : ∀ j, j < k + 1 → p j := fun j hj => by
  by_cases e : j = k
  · subst e; exact h2
  · exact h j (by omega)
/-- a product of two elements is well formed -/
theorem gok_mul {g : List (List Int)} (h : ∀ i, i < g.length → gok1 g i = true) {a b : Nat} (ha : a < g.length) (hb : b < g.length) :
    (g.getD a []).length ≤ 10 ∧ (∀ i, i < (g.getD a []).length → 0 ≤ (g.getD a []).getD i 0 ∧ (g.getD a []).getD i 0 < ((g.getD b []).length : Int)) ∧
    ∀ i, i < g.length → (g.getD i []).length = (exL (g.getD a []) (g.getD b [])).length := by
  have h1 := gok1_p (h a ha)
  have h2 := gok1_p (h b hb)
  refine ⟨h1.1.1.2, fun i hi => ?_, fun i hi => ?_⟩
  · have := (h1.1.2 i hi).1
    omega
  · have h3 := gok1_p (h i hi)
    rw [exL_len]; omega
/-- spec.GroupOk -/
theorem spec_GroupOk (sh : Bool) (g : List (List Int)) (hl : g.length ≤ 1048576) (hx : ∀ i, i < g.length → (g.getD i []).length ≤ 1048576) : AC Try.prog 101 [.d sh (.sl (.sl .int)) g] [] [.d true .bool (gokB g)] [] := by
  refine AC_of tauOk 67 0 [2] Try.func101 rfl (by kernel_rfl) rfl rfl rfl rfl rfl ?_
  refine ⟨[], false, _, _, spec_l01In _ _ _, List.nodup_nil, rfl, rfl, trivial, fun h1 => ?_, fun h1 => ?_⟩
  · simp only [Bool.and_eq_true, decide_eq_true_eq] at h1
    refine ⟨Nat, fun k => ⟨[(0, .d sh (.sl (.sl .int)) g), (13, .d sh (.sl (.sl .int)) g), (14, I g.length), (15, I (k : Nat))], []⟩, fun k => k ≤ g.length ∧ ∀ j, j < k → gok1 g j = true, fun k => g.length - k, 0, ⟨Nat.zero_le _, fun j hj => by omega⟩,
      ⟨⟨rfl, rfl⟩, ⟨rfl, rfl, rfl, rfl, trivial⟩, trivial⟩, fun k ⟨hk, hy⟩ => ?_⟩
    refine ⟨fun h2 => ?_, fun h2 => ?_⟩
    · have hk2 : k < g.length := by omega
      refine ⟨k, rfl, hk2, [], false, _, _, spec_PermOk sh (g.getD k []) (hx k hk2), List.nodup_nil, rfl, rfl, trivial, fun h3 => ?_, fun h3 => ?_⟩
      · refine ⟨0, rfl, by omega, fun h4 => ?_, fun h4 => ?_⟩
        · exact ⟨none, ⟨retB (gokB_no fun h => h4 (by have := (gok1_p (h.o1 k hk2)).2.1; omega)), trivial⟩, rfl, rfl⟩
        · have h4 : (g.getD k []).length = (g.getD 0 []).length := by omega
          refine ⟨fun h5 => ?_, fun h5 => ?_⟩
          · have hk1 : k - 1 < g.length := by omega
            have hlt : (g.getD (k - 1) []).length = (g.getD 0 []).length := (gok1_p (hy (k - 1) (by omega))).2.1
            refine ⟨((k - 1 : Nat) : Int), w64_eq (by omega) (by omega) (by omega), k - 1, rfl, hk1, [], false, _, _, spec_l03Less sh sh (g.getD (k - 1) []) (g.getD k []) (hx _ hk1) (by omega), List.nodup_nil, rfl, rfl, trivial, fun h6 => ?_, fun h6 => ?_⟩
            · exact ⟨((k + 1 : Nat) : Int), w64_eq (by omega) (by omega) (by omega), k + 1, ⟨by omega, gok_ext hy (gok1_of h3 h4 (.inr (of_decide_eq_true h6)))⟩, by dsimp only; omega, ⟨rfl, rfl⟩, ⟨rfl, rfl, rfl, rfl, trivial⟩, trivial⟩
            · exact ⟨none, ⟨retB (gokB_no fun h => by
                rcases (gok1_p (h.o1 k hk2)).2.2 with e | e
                · omega
                · exact of_decide_eq_false h6 e), trivial⟩, rfl, rfl⟩
          · exact ⟨((k + 1 : Nat) : Int), w64_eq (by omega) (by omega) (by omega), k + 1, ⟨by omega, gok_ext hy (gok1_of h3 h4 (.inl (by omega)))⟩, by dsimp only; omega, ⟨rfl, rfl⟩, ⟨rfl, rfl, rfl, rfl, trivial⟩, trivial⟩
      · exact ⟨none, ⟨retB (gokB_no fun h => by have := (gok1_p (h.o1 k hk2)).1; rw [(permB_iff _).2 this] at h3; cases h3), trivial⟩, rfl, rfl⟩
    · obtain rfl : k = g.length := by omega
      clear h2
      refine ⟨Nat, fun a => ⟨[(0, .d sh (.sl (.sl .int)) g), (47, .d sh (.sl (.sl .int)) g), (48, I g.length), (49, I (a : Nat))], []⟩, fun a => a ≤ g.length ∧ ∀ i, i < a → ∀ j, j < g.length → gok2 g i j = true, fun a => g.length - a, 0, ⟨Nat.zero_le _, fun j hj => by omega⟩,
        ⟨⟨rfl, rfl⟩, ⟨rfl, rfl, rfl, rfl, trivial⟩, trivial⟩, fun a ⟨ha, hz⟩ => ?_⟩
      refine ⟨fun h2 => ?_, fun h2 => ?_⟩
      · have ha2 : a < g.length := by omega
        refine ⟨a, rfl, ha2, ?_⟩
        refine ⟨Nat, fun b => ⟨[(0, .d sh (.sl (.sl .int)) g), (47, .d sh (.sl (.sl .int)) g), (48, I g.length), (49, I (a : Nat)), (6, .d sh (.sl .int) (g.getD a [])), (53, .d sh (.sl (.sl .int)) g), (54, I g.length), (55, I (b : Nat))], []⟩, fun b => b ≤ g.length ∧ ∀ j, j < b → gok2 g a j = true, fun b => g.length - b, 0, ⟨Nat.zero_le _, fun j hj => by omega⟩,
          ⟨⟨rfl, rfl⟩, ⟨rfl, rfl, rfl, rfl, rfl, rfl, rfl, rfl, trivial⟩, trivial⟩, fun b ⟨hb, hw⟩ => ?_⟩
        refine ⟨fun h3 => ?_, fun h3 => ?_⟩
        · have hb2 : b < g.length := by omega
          have hm := gok_mul hy ha2 hb2
          have hel := exL_len (g.getD a []) (g.getD b [])
          refine ⟨b, rfl, hb2, ?_⟩
          refine ⟨[], true, _, _, spec_l02Compose sh sh (g.getD a []) (g.getD b []) (by omega) hm.2.1, List.nodup_nil, rfl, rfl, trivial, ?_⟩
          refine ⟨[], false, _, _, spec_l03Find sh true g (exL (g.getD a []) (g.getD b [])) hl (by omega) hm.2.2, List.nodup_nil, rfl, rfl, trivial, fun h4 => ?_, fun h4 => ?_⟩
          · exact ⟨none, ⟨retB (gokB_no fun h => by have := of_decide_eq_true (h.o2 a ha2 b hb2); omega), trivial⟩, rfl, rfl⟩
          · exact ⟨((b + 1 : Nat) : Int), w64_eq (by omega) (by omega) (by omega), b + 1, ⟨by omega, ext1 hw (decide_eq_true (by omega))⟩, by dsimp only; omega, ⟨rfl, rfl⟩, ⟨rfl, rfl, rfl, rfl, rfl, rfl, rfl, rfl, trivial⟩, trivial⟩
        · obtain rfl : b = g.length := by omega
          exact ⟨((a + 1 : Nat) : Int), w64_eq (by omega) (by omega) (by omega), a + 1, ⟨by omega, ext1 hz hw⟩, by dsimp only; omega, ⟨rfl, rfl⟩, ⟨rfl, rfl, rfl, rfl, trivial⟩, trivial⟩
      · obtain rfl : a = g.length := by omega
        exact ⟨none, ⟨retB ((gokB_iff g).2 ⟨by omega, by omega, hy, hz⟩), trivial⟩, rfl, rfl⟩
  · simp only [Bool.and_eq_false_iff, decide_eq_false_iff_not] at h1
    exact ⟨none, ⟨retB (gokB_no fun h => by have := h.l1; have := h.l2; omega), trivial⟩, rfl, rfl⟩
/-- impl.GroupOk -/
theorem impl_GroupOk (sh : Bool) (g : List (List Int)) (hl : g.length ≤ 1048576) (hx : ∀ i, i < g.length → (g.getD i []).length ≤ 1048576) : AC Try.prog 43 [.d sh (.sl (.sl .int)) g] [] [.d true .bool (gokB g)] [] := by
  refine AC_of tauOk 71 0 [2] Try.func43 rfl (by kernel_rfl) rfl rfl rfl rfl rfl ?_
  refine ⟨fun h1 => ?_, fun h1 => ?_⟩
  · exact ⟨none, ⟨retB (gokB_no fun h => by have := h.l1; omega), trivial⟩, rfl, rfl⟩
  refine ⟨fun h0 => ?_, fun h0 => ?_⟩
  · exact ⟨none, ⟨retB (gokB_no fun h => by have := h.l2; omega), trivial⟩, rfl, rfl⟩
  refine ⟨Nat, fun k => ⟨[(0, .d sh (.sl (.sl .int)) g), (17, .d sh (.sl (.sl .int)) g), (18, I g.length), (19, I (k : Nat))], []⟩, fun k => k ≤ g.length ∧ ∀ j, j < k → gok1 g j = true, fun k => g.length - k, 0, ⟨Nat.zero_le _, fun j hj => by omega⟩,
    ⟨⟨rfl, rfl⟩, ⟨rfl, rfl, rfl, rfl, trivial⟩, trivial⟩, fun k ⟨hk, hy⟩ => ?_⟩
  refine ⟨fun h2 => ?_, fun h2 => ?_⟩
  · have hk2 : k < g.length := by omega
    refine ⟨k, rfl, hk2, [], false, _, _, impl_PermOk sh (g.getD k []) (hx k hk2), List.nodup_nil, rfl, rfl, trivial, fun h3 => ?_, fun h3 => ?_⟩
    · refine ⟨0, rfl, by omega, fun h4 => ?_, fun h4 => ?_⟩
      · exact ⟨none, ⟨retB (gokB_no fun h => h4 (by have := (gok1_p (h.o1 k hk2)).2.1; omega)), trivial⟩, rfl, rfl⟩
      · have h4 : (g.getD k []).length = (g.getD 0 []).length := by omega
        refine ⟨fun h5 => ?_, fun h5 => ?_⟩
        · have hk1 : k - 1 < g.length := by omega
          refine ⟨((k - 1 : Nat) : Int), w64_eq (by omega) (by omega) (by omega), k - 1, rfl, hk1, [], false, _, _, slices_Compare_int sh sh (g.getD (k - 1) []) (g.getD k []) (hx _ hk1) (hx _ hk2), List.nodup_nil, rfl, rfl, trivial, fun h6 => ?_, fun h6 => ?_⟩
          · exact ⟨none, ⟨retB (gokB_no fun h => by
              rcases (gok1_p (h.o1 k hk2)).2.2 with e | e
              · omega
              · omega), trivial⟩, rfl, rfl⟩
          · exact ⟨((k + 1 : Nat) : Int), w64_eq (by omega) (by omega) (by omega), k + 1, ⟨by omega, gok_ext hy (gok1_of h3 h4 (.inr (by omega)))⟩, by dsimp only; omega, ⟨rfl, rfl⟩, ⟨rfl, rfl, rfl, rfl, trivial⟩, trivial⟩
        · exact ⟨((k + 1 : Nat) : Int), w64_eq (by omega) (by omega) (by omega), k + 1, ⟨by omega, gok_ext hy (gok1_of h3 h4 (.inl (by omega)))⟩, by dsimp only; omega, ⟨rfl, rfl⟩, ⟨rfl, rfl, rfl, rfl, trivial⟩, trivial⟩
    · exact ⟨none, ⟨retB (gokB_no fun h => by have := (gok1_p (h.o1 k hk2)).1; rw [(permB_iff _).2 this] at h3; cases h3), trivial⟩, rfl, rfl⟩
  · obtain rfl : k = g.length := by omega
    clear h2
    refine ⟨Nat, fun a => ⟨[(0, .d sh (.sl (.sl .int)) g), (51, .d sh (.sl (.sl .int)) g), (52, I g.length), (53, I (a : Nat))], []⟩, fun a => a ≤ g.length ∧ ∀ i, i < a → ∀ j, j < g.length → gok2 g i j = true, fun a => g.length - a, 0, ⟨Nat.zero_le _, fun j hj => by omega⟩,
      ⟨⟨rfl, rfl⟩, ⟨rfl, rfl, rfl, rfl, trivial⟩, trivial⟩, fun a ⟨ha, hz⟩ => ?_⟩
    refine ⟨fun h2 => ?_, fun h2 => ?_⟩
    · have ha2 : a < g.length := by omega
      refine ⟨a, rfl, ha2, ?_⟩
      refine ⟨Nat, fun b => ⟨[(0, .d sh (.sl (.sl .int)) g), (51, .d sh (.sl (.sl .int)) g), (52, I g.length), (53, I (a : Nat)), (6, .d sh (.sl .int) (g.getD a [])), (57, .d sh (.sl (.sl .int)) g), (58, I g.length), (59, I (b : Nat))], []⟩, fun b => b ≤ g.length ∧ ∀ j, j < b → gok2 g a j = true, fun b => g.length - b, 0, ⟨Nat.zero_le _, fun j hj => by omega⟩,
        ⟨⟨rfl, rfl⟩, ⟨rfl, rfl, rfl, rfl, rfl, rfl, rfl, rfl, trivial⟩, trivial⟩, fun b ⟨hb, hw⟩ => ?_⟩
      refine ⟨fun h3 => ?_, fun h3 => ?_⟩
      · have hb2 : b < g.length := by omega
        have hm := gok_mul hy ha2 hb2
        have hel := exL_len (g.getD a []) (g.getD b [])
        refine ⟨b, rfl, hb2, ?_⟩
        refine ⟨[], true, _, _, impl_compose sh sh (g.getD a []) (g.getD b []) (by omega) hm.2.1, List.nodup_nil, rfl, rfl, trivial, ?_⟩
        refine ⟨[], false, _, _, impl_indexOf sh true g (exL (g.getD a []) (g.getD b [])) hl hx (by omega), List.nodup_nil, rfl, rfl, trivial, fun h4 => ?_, fun h4 => ?_⟩
        · exact ⟨none, ⟨retB (gokB_no fun h => by have := of_decide_eq_true (h.o2 a ha2 b hb2); omega), trivial⟩, rfl, rfl⟩
        · exact ⟨((b + 1 : Nat) : Int), w64_eq (by omega) (by omega) (by omega), b + 1, ⟨by omega, ext1 hw (decide_eq_true (by omega))⟩, by dsimp only; omega, ⟨rfl, rfl⟩, ⟨rfl, rfl, rfl, rfl, rfl, rfl, rfl, rfl, trivial⟩, trivial⟩
      · obtain rfl : b = g.length := by omega
        exact ⟨((a + 1 : Nat) : Int), w64_eq (by omega) (by omega) (by omega), a + 1, ⟨by omega, ext1 hz hw⟩, by dsimp only; omega, ⟨rfl, rfl⟩, ⟨rfl, rfl, rfl, rfl, trivial⟩, trivial⟩
    · obtain rfl : a = g.length := by omega
      exact ⟨none, ⟨retB ((gokB_iff g).2 ⟨by omega, by omega, hy, hz⟩), trivial⟩, rfl, rfl⟩
end Go.Proofs.Ytbnonelkdgkpdaa
