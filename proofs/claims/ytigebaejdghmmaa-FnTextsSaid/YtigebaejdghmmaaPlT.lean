/-
  Plain facts about rooted trees whose vertices are called anew: codes, renamings and heights stay.
-/
import Derived.Test.YtigebaejdghmmaaPlS
set_option linter.unusedVariables false
set_option linter.unusedSimpArgs false
namespace Go.Proofs.Ytigebaejdghmmaa
open Go Go.Proofs.Ytigebaejdghmmaa.Ow
theorem iso_tree {xs u : List Int} {O : List Nat} (hT : TreeP xs) (h : IsoP xs u O) : TreeP u := by
  refine ⟨by rw [h.l2]; exact hT.1, h.r, fun j hj hl => ?_⟩
  obtain ⟨i, h1, h2, _⟩ := h.st j hj (by rw [← h.l2]; exact hl)
  omega
theorem getD_mem {O : List Nat} {j : Nat} (h : j < O.length) : O.getD j 0 ∈ O := by rw [getD_get _ _ _ h]; exact List.getElem_mem _
/-- the children, called anew -/
theorem iso_kids {xs u : List Int} {O : List Nat} (hT : TreeP xs) (h : IsoP xs u O) (hall : ∀ v, v < xs.length → v ∈ O) {j : Nat} (hj : j < xs.length) : ((kd u j).map fun i => O.getD i 0).Perm (kd xs (O.getD j 0)) := by
  have l1 := h.l1
  have l2 := h.l2
  refine (List.perm_ext_iff_of_nodup ?_ (kd_nodup _ _)).2 fun v => ?_
  · rw [List.nodup_iff_pairwise_ne, List.pairwise_map]
    have := kd_nodup u j
    rw [List.nodup_iff_pairwise_ne] at this
    refine List.Pairwise.imp_of_mem (fun {a b} ha hb hne e => hne ?_) this
    have ha := (mem_kd.1 ha).1
    have hb := (mem_kd.1 hb).1
    exact nodup_getD h.nd (by omega) (by omega) e
  rw [List.mem_map, mem_kd]
  constructor
  · rintro ⟨j2, hj2, rfl⟩
    obtain ⟨h1, h2⟩ := mem_kd.1 hj2
    have h3 : 1 ≤ j2 := by
      rcases Nat.eq_zero_or_pos j2 with h0 | h0
      · rw [h0, h.r] at h2; omega
      · exact h0
    obtain ⟨i, g1, g2, g3⟩ := h.st j2 h3 (by omega)
    have : i = j := by rw [h2] at g2; omega
    subst this
    exact ⟨h.lt _ (getD_mem (by omega)), g3⟩
  · rintro ⟨h1, h2⟩
    obtain ⟨j2, hj2, e⟩ := List.getElem_of_mem (hall v h1)
    have e : O.getD j2 0 = v := by rw [getD_get _ _ _ hj2]; exact e
    have h3 : 1 ≤ j2 := by
      rcases Nat.eq_zero_or_pos j2 with h0 | h0
      · rw [h0, h.z] at e; rw [← e, hT.2.1] at h2; omega
      · exact h0
    obtain ⟨i, g1, g2, g3⟩ := h.st j2 h3 (by omega)
    rw [e, h2] at g3
    have : i = j := nodup_getD h.nd (by omega) (by omega) (by omega)
    subst this
    exact ⟨j2, mem_kd.2 ⟨by omega, g2⟩, e⟩
theorem sortD_ext {l1 l2 : List (List UInt8)} (h : l1.Perm l2) : sortD l1 = sortD l2 :=
  List.Perm.eq_of_pairwise (le := fun a b => b ≤ a) (fun a b _ _ h1 h2 => List.le_antisymm h2 h1) (foldD_sorted l1 [] (by simp)) (foldD_sorted l2 [] (by simp)) ((sortD_perm l1).trans (h.trans (sortD_perm l2).symm))
theorem iso_code {xs u : List Int} {O : List Nat} (hT : TreeP xs) (h : IsoP xs u O) (hall : ∀ v, v < xs.length → v ∈ O) : ∀ b j, j < xs.length → codeF u b j = codeF xs b (O.getD j 0)
  | 0, j, hj => rfl
  | b + 1, j, hj => by
    rw [codeF_kd, codeF_kd]
    have e : (kd u j).map (codeF u b) = ((kd u j).map fun i => O.getD i 0).map (codeF xs b) := by
      rw [List.map_map]
      refine List.map_congr_left fun v hv => ?_
      have := (mem_kd.1 hv).1
      exact iso_code hT h hall b v (by have := h.l2; omega)
    rw [e, sortD_ext ((iso_kids hT h hall hj).map (codeF xs b))]
theorem iso_kidsF {xs u : List Int} {O : List Nat} (hT : TreeP xs) (h : IsoP xs u O) (hall : ∀ v, v < xs.length → v ∈ O) {j : Nat} (hj : j < xs.length) : kidsF u 11 j = kidsF xs 11 (O.getD j 0) := by
  show sortD ((kd u j).map (codeF u 11)) = sortD ((kd xs (O.getD j 0)).map (codeF xs 11))
  have e : (kd u j).map (codeF u 11) = ((kd u j).map fun i => O.getD i 0).map (codeF xs 11) := by
    rw [List.map_map]
    refine List.map_congr_left fun v hv => ?_
    have := (mem_kd.1 hv).1
    exact iso_code hT h hall 11 v (by have := h.l2; omega)
  rw [e, sortD_ext ((iso_kids hT h hall hj).map (codeF xs 11))]
/-! ### renamings -/
theorem w64_mod (a : Int) : w64 a % 18446744073709551616 = a % 18446744073709551616 := by
  show (if (true && decide (a % 18446744073709551616 ≥ 9223372036854775808)) = true then a % 18446744073709551616 - 18446744073709551616 else a % 18446744073709551616) % 18446744073709551616 = _
  split <;> omega
theorem w64_congr {a b : Int} (h : a % 18446744073709551616 = b % 18446744073709551616) : w64 a = w64 b := by
  show (if (true && decide (a % 18446744073709551616 ≥ 9223372036854775808)) = true then a % 18446744073709551616 - 18446744073709551616 else a % 18446744073709551616) = (if (true && decide (b % 18446744073709551616 ≥ 9223372036854775808)) = true then b % 18446744073709551616 - 18446744073709551616 else b % 18446744073709551616)
  rw [h]
theorem w64_mul (a b : Int) : w64 (w64 a * b) = w64 (a * b) := w64_congr (by rw [Int.mul_emod, w64_mod, ← Int.mul_emod])
def rpr (l : List (List UInt8)) : Nat → Int
  | 0 => 1
  | k + 1 => rpr l k * (rz l (k + 1) : Nat)
theorem pz_w (l : List (List UInt8)) (z : Int) : ∀ k, pz l (w64 z) k = w64 (z * rpr l k)
  | 0 => by rw [pz, rpr, Int.mul_one]
  | k + 1 => by rw [pz_s, pz_w l z k, w64_mul, rpr, Int.mul_assoc]
def prd (g : Nat → Int) : List Nat → Int
  | [] => 1
  | x :: l => g x * prd g l
theorem prd_app (g : Nat → Int) : ∀ l r, prd g (l ++ r) = prd g l * prd g r
  | [], r => by rw [List.nil_append, prd, Int.one_mul]
  | x :: l, r => by rw [List.cons_append, prd, prd, prd_app g l r, Int.mul_assoc]
theorem prd_perm (g : Nat → Int) {l r : List Nat} (h : l.Perm r) : prd g l = prd g r := by
  induction h with
  | nil => rfl
  | cons x _ ih => rw [prd, prd, ih]
  | swap x y l => rw [prd, prd, prd, prd, ← Int.mul_assoc, ← Int.mul_assoc, Int.mul_comm (g y)]
  | trans _ _ h1 h2 => exact h1.trans h2
theorem prd_map (g : Nat → Int) (f : Nat → Nat) : ∀ l, prd g (l.map f) = prd (fun i => g (f i)) l
  | [] => rfl
  | x :: l => by rw [List.map_cons, prd, prd, prd_map g f l]
theorem prd_congr {g g' : Nat → Int} : ∀ {l : List Nat}, (∀ x ∈ l, g x = g' x) → prd g l = prd g' l
  | [], _ => rfl
  | x :: l, h => by rw [prd, prd, h x (List.mem_cons_self ..), prd_congr fun y hy => h y (List.mem_cons_of_mem _ hy)]
def facR (xs : List Int) (i : Nat) : Int := rpr (kidsF xs 11 i) (kidsF xs 11 i).length
theorem tz_w (xs : List Int) : ∀ v, tz xs v = w64 (prd (facR xs) (List.range v))
  | 0 => rfl
  | v + 1 => by
    rw [tz, tz_w xs v, pz_w, List.range_succ, prd_app]
    show w64 (prd (facR xs) (List.range v) * facR xs v) = w64 (prd (facR xs) (List.range v) * (facR xs v * 1))
    rw [Int.mul_one]
theorem map_getD (O : List Nat) (n : Nat) (h : O.length = n) : (List.range n).map (fun i => O.getD i 0) = O := by
  apply List.ext_getElem
  · simp [h]
  intro i h1 h2
  rw [List.getElem_map, List.getElem_range, getD_get _ _ _ h2]
theorem iso_ren {xs u : List Int} {O : List Nat} (hT : TreeP xs) (h : IsoP xs u O) (hall : ∀ v, v < xs.length → v ∈ O) : treeRen u = treeRen xs := by
  have hperm : O.Perm (List.range xs.length) := (List.perm_ext_iff_of_nodup h.nd List.nodup_range).2 fun v => ⟨fun h2 => List.mem_range.2 (h.lt v h2), fun h2 => hall v (List.mem_range.1 h2)⟩
  unfold treeRen
  rw [if_pos ((treeB_iff _).2 (iso_tree hT h)), if_pos ((treeB_iff _).2 hT), tz_w, tz_w, h.l2]
  have e : prd (facR u) (List.range xs.length) = prd (fun i => facR xs (O.getD i 0)) (List.range xs.length) := prd_congr fun i hi => by
    unfold facR
    rw [iso_kidsF hT h hall (List.mem_range.1 hi)]
  rw [e, ← prd_map (facR xs) (fun i => O.getD i 0), map_getD O _ h.l1, prd_perm _ hperm]
/-! ### heights -/
/-- what is known of the heights of the first k vertices -/
structure HtP (xs : List Int) (k : Nat) : Prop where
  z : (htS xs k).1.getD 0 0 = 0
  s : ∀ i, 1 ≤ i → i < k → (htS xs k).1.getD i 0 = (htS xs k).1.getD (xs.getD i 0).toNat 0 + 1
  m : ∀ i, i < k → (htS xs k).1.getD i 0 ≤ (htS xs k).2
  e : ∃ i, (i < k ∨ i = 0) ∧ (htS xs k).1.getD i 0 = (htS xs k).2
  b : ∀ i, (htS xs k).1.getD i 0 ≤ (i : Int)
theorem ht_ok {xs : List Int} (hT : TreeP xs) : ∀ k, k ≤ xs.length → HtP xs k
  | 0, _ => ⟨rep_getD _ _, fun i h1 h2 => by omega, fun i h => by omega, ⟨0, .inr rfl, rep_getD _ _⟩, fun i => by rw [show (htS xs 0).1 = List.replicate xs.length 0 from rfl, rep_getD]; omega⟩
  | 1, _ => ⟨rep_getD _ _, fun i h1 h2 => by omega, fun i h => by rw [show (htS xs 1).1 = List.replicate xs.length 0 from rfl, rep_getD]; exact (by decide : (0 : Int) ≤ 0), ⟨0, .inr rfl, rep_getD _ _⟩, fun i => by rw [show (htS xs 1).1 = List.replicate xs.length 0 from rfl, rep_getD]; omega⟩
  | k + 2, hk => by
    have h := ht_ok hT (k + 1) (by omega)
    have hp := hT.2.2 (k + 1) (by omega) (by omega)
    have hl := htS_len xs (k + 1)
    rw [show k + 2 = (k + 1) + 1 from rfl]
    have e := htS_s xs (k + 1) (by omega)
    have e1 : (htS xs (k + 1 + 1)).1 = (htS xs (k + 1)).1.set (k + 1) ((htS xs (k + 1)).1.getD (xs.getD (k + 1) 0).toNat 0 + 1) := by rw [e]
    have e2 : (htS xs (k + 1 + 1)).2 = mx (htS xs (k + 1)).2 ((htS xs (k + 1)).1.getD (xs.getD (k + 1) 0).toNat 0 + 1) := by rw [e]
    have g1 : ∀ i, i ≠ k + 1 → (htS xs (k + 1 + 1)).1.getD i 0 = (htS xs (k + 1)).1.getD i 0 := fun i hi => by rw [e1, L_set_ne _ _ _ _ _ (fun e => hi e.symm)]
    have g2 : (htS xs (k + 1 + 1)).1.getD (k + 1) 0 = (htS xs (k + 1)).1.getD (xs.getD (k + 1) 0).toNat 0 + 1 := by rw [e1, L_set_self _ _ _ _ (by omega)]
    have hmx : (htS xs (k + 1)).2 ≤ (htS xs (k + 1 + 1)).2 ∧ (htS xs (k + 1)).1.getD (xs.getD (k + 1) 0).toNat 0 + 1 ≤ (htS xs (k + 1 + 1)).2 ∧ ((htS xs (k + 1 + 1)).2 = (htS xs (k + 1)).2 ∨ (htS xs (k + 1 + 1)).2 = (htS xs (k + 1)).1.getD (xs.getD (k + 1) 0).toNat 0 + 1) := by
      rw [e2, mx]; split <;> omega
    refine ⟨by rw [g1 0 (by omega)]; exact h.z, fun i h1 h2 => ?_, fun i hi => ?_, ?_, fun i => ?_⟩
    · rcases Nat.lt_or_eq_of_le (show i ≤ k + 1 by omega) with h3 | h3
      · have hpi := hT.2.2 i h1 (by omega)
        rw [g1 i (by omega), g1 _ (by omega)]
        exact h.s i h1 h3
      · rw [h3, g2, g1 _ (by omega)]
    · rcases Nat.lt_or_eq_of_le (show i ≤ k + 1 by omega) with h3 | h3
      · rw [g1 i (by omega)]; have := h.m i h3; omega
      · rw [h3, g2]; exact hmx.2.1
    · obtain ⟨i, h1, h2⟩ := h.e
      rcases hmx.2.2 with h3 | h3
      · exact ⟨i, by omega, by rw [g1 i (by omega), h2, h3]⟩
      · exact ⟨k + 1, by omega, by rw [g2, h3]⟩
    · by_cases hi : i = k + 1
      · rw [hi, g2]
        have := h.b (xs.getD (k + 1) 0).toNat
        omega
      · rw [g1 i hi]; exact h.b i
theorem height_lt {xs : List Int} (hT : TreeP xs) : heightV xs < (xs.length : Int) := by
  have h := ht_ok hT xs.length (Nat.le_refl _)
  unfold heightV
  rw [if_pos ((treeB_iff _).2 hT)]
  obtain ⟨i, h1, h2⟩ := h.e
  have := h.b i
  have := hT.1.1
  omega
theorem iso_height {xs u : List Int} {O : List Nat} (hT : TreeP xs) (h : IsoP xs u O) (hall : ∀ v, v < xs.length → v ∈ O) : heightV u = heightV xs := by
  have hU := iso_tree hT h
  have l1 := h.l1
  have l2 := h.l2
  have n1 := hT.1.1
  have a := ht_ok hT xs.length (Nat.le_refl _)
  have b := ht_ok hU u.length (Nat.le_refl _)
  have key : ∀ m j, j < m → j < xs.length → (htS u u.length).1.getD j 0 = (htS xs xs.length).1.getD (O.getD j 0) 0 := by
    intro m
    induction m with
    | zero => intro j h1; omega
    | succ m ih =>
      intro j h1 h2
      rcases Nat.eq_zero_or_pos j with h0 | h0
      · rw [h0, h.z, a.z, b.z]
      · obtain ⟨i, g1, g2, g3⟩ := h.st j h0 h2
        have hOj := h.lt _ (getD_mem (O := O) (j := j) (by omega))
        have hO1 : 1 ≤ O.getD j 0 := by
          rcases Nat.eq_zero_or_pos (O.getD j 0) with h4 | h4
          · rw [h4, hT.2.1] at g3; omega
          · exact h4
        rw [b.s j h0 (by omega), a.s _ hO1 hOj, g2, g3, Int.toNat_natCast, Int.toNat_natCast, ih i (by omega) (by omega)]
  unfold heightV
  rw [if_pos ((treeB_iff _).2 hU), if_pos ((treeB_iff _).2 hT)]
  obtain ⟨i, h1, h2⟩ := a.e
  obtain ⟨j, h3, h4⟩ := b.e
  have hi : i < xs.length := by omega
  have hj : j < xs.length := by omega
  obtain ⟨j2, hj2, e⟩ := List.getElem_of_mem (hall i hi)
  have e : O.getD j2 0 = i := by rw [getD_get _ _ _ hj2]; exact e
  have k1 := key (j2 + 1) j2 (by omega) (by omega)
  have k2 := key (j + 1) j (by omega) hj
  have k3 := b.m j2 (by omega)
  have k4 := a.m (O.getD j 0) (h.lt _ (getD_mem (by omega)))
  rw [e] at k1
  omega
/-- a tree's code is read back -/
theorem read_back {xs : List Int} (hT : TreeP xs) : readB (treeCode xs) = true ∧ TreeP (rdT (treeCode xs)).1 ∧ (rdT (treeCode xs)).1.length = xs.length ∧ treeCode (rdT (treeCode xs)).1 = treeCode xs ∧
    treeRen (rdT (treeCode xs)).1 = treeRen xs ∧ heightV (rdT (treeCode xs)).1 = heightV xs := by
  obtain ⟨O, h, hl, hall⟩ := read_iso hT
  have hB := (treeB_iff _).2 hT
  have e : treeCode xs = codeF xs 12 0 := by rw [treeCode, if_pos hB]
  have hn := hT.1
  rw [e]
  have hU := iso_tree hT h
  have hc : treeCode (rdT (codeF xs 12 0)).1 = codeF xs 12 0 := by
    rw [treeCode, if_pos ((treeB_iff _).2 hU), iso_code hT h hall 12 0 (by omega), h.z]
  refine ⟨?_, hU, h.l2, hc, iso_ren hT h hall, iso_height hT h hall⟩
  unfold readB
  rw [(treeB_iff _).2 hU, hc, hl, decide_eq_true (show 2 * xs.length ≤ 24 by omega)]
  simp
end Go.Proofs.Ytigebaejdghmmaa
