/-
  Plain facts about rooted trees: what is read out of a tree's code is the tree with its vertices called anew.
-/
import Derived.Test.YtigebaejdghmmaaPlS0
set_option linter.unusedVariables false
set_option linter.unusedSimpArgs false
namespace Go.Proofs.Ytigebaejdghmmaa
open Go Go.Proofs.Ytigebaejdghmmaa.Ow
theorem join_flat : ∀ l : List (List UInt8), Lib.join l [] = l.flatten := fun l => by
  rw [← jn_join]
  have key : ∀ k, k ≤ l.length → jn l [] k = (l.take k).flatten := by
    intro k
    induction k with
    | zero => intro _; simp [jn]
    | succ k ih =>
      intro hk
      rw [L_succ l k [] (by omega), List.flatten_append, List.flatten_cons, List.flatten_nil, List.append_nil]
      rcases Nat.eq_zero_or_pos k with rfl | h0
      · simp [jn]
      · rw [jn_s _ _ _ h0, ih (by omega), List.append_nil]
  rw [key l.length (Nat.le_refl _), List.take_length]
/-- the children of a vertex -/
def kd (xs : List Int) (at_ : Nat) : List Nat := (List.range xs.length).filter fun i => xs.getD i 0 == (at_ : Int)
theorem mem_kd {xs : List Int} {a v : Nat} : v ∈ kd xs a ↔ v < xs.length ∧ xs.getD v 0 = (a : Int) := by
  unfold kd
  rw [List.mem_filter, List.mem_range]
  constructor
  · rintro ⟨h1, h2⟩; exact ⟨h1, by simpa [-List.getD_eq_getElem?_getD] using h2⟩
  · rintro ⟨h1, h2⟩; exact ⟨h1, by simp [-List.getD_eq_getElem?_getD, h2]⟩
theorem kd_nodup (xs : List Int) (a : Nat) : (kd xs a).Nodup := List.nodup_range.sublist List.filter_sublist
theorem kd_gt {xs : List Int} (hT : TreeP xs) {a v : Nat} (h : v ∈ kd xs a) : a < v ∧ 1 ≤ v := by
  obtain ⟨h1, h2⟩ := mem_kd.1 h
  rcases Nat.eq_zero_or_pos v with h0 | h0
  · subst h0; rw [hT.2.1] at h2; omega
  · have := hT.2.2 v h0 h1; omega
theorem codeF_kd (xs : List Int) (b a : Nat) : codeF xs (b + 1) a = cdS (sortD ((kd xs a).map (codeF xs b))) := rfl
theorem fuel {xs : List Int} (hT : TreeP xs) : ∀ b a, xs.length - a ≤ b → codeF xs (b + 1) a = codeF xs b a
  | 0, a, h => by
    have e : kd xs a = [] := List.eq_nil_iff_forall_not_mem.2 fun v hv => by
      have := (mem_kd.1 hv).1
      have := kd_gt hT hv
      omega
    rw [codeF_kd, e]; rfl
  | b + 1, a, h => by
    rw [codeF_kd, codeF_kd]
    congr 2
    refine List.map_congr_left fun v hv => fuel hT b v ?_
    have := kd_gt hT hv
    omega
theorem fuel12 {xs : List Int} (hT : TreeP xs) (n : Nat) (hn : n = 12) (a : Nat) : codeF xs n a = cdS (sortD ((kd xs a).map (codeF xs n))) := by
  obtain ⟨m, rfl⟩ : ∃ m, n = m + 1 := ⟨n - 1, by omega⟩
  rw [codeF_kd xs m a]
  have h : (kd xs a).map (codeF xs m) = (kd xs a).map (codeF xs (m + 1)) := List.map_congr_left fun v hv => by
    have := kd_gt hT hv
    have := hT.1.2
    exact (fuel hT m v (by omega)).symm
  rw [h]
theorem code_kids {xs : List Int} (hT : TreeP xs) (a : Nat) : codeF xs 12 a = cdS (sortD ((kd xs a).map (codeF xs 12))) := fuel12 hT 12 rfl a
theorem perm_map_ex {β : Type} (f : Nat → β) : ∀ (m : List β) (l : List Nat), m.Perm (l.map f) → ∃ k : List Nat, k.Perm l ∧ k.map f = m
  | [], l, h => by
    have : l.map f = [] := h.nil_eq.symm ▸ rfl
    have e : l = [] := by simpa using h.length_eq.symm
    exact ⟨[], by rw [e], rfl⟩
  | y :: m, l, h => by
    obtain ⟨x, hx, rfl⟩ := List.mem_map.1 (h.mem_iff.1 (List.mem_cons_self ..))
    have h2 : (f x :: m).Perm (f x :: (l.erase x).map f) := h.trans ((List.perm_cons_erase hx).map f)
    obtain ⟨k, h3, h4⟩ := perm_map_ex f m (l.erase x) h2.cons_inv
    exact ⟨x :: k, (h3.cons x).trans (List.perm_cons_erase hx).symm, by rw [List.map_cons, h4]⟩
/-- a is v or above v -/
inductive Anc (xs : List Int) (a : Nat) : Nat → Prop
  | self : Anc xs a a
  | up {v p : Nat} : v < xs.length → xs.getD v 0 = (p : Int) → Anc xs a p → Anc xs a v
theorem anc_le {xs : List Int} (hT : TreeP xs) {a v : Nat} (h : Anc xs a v) : a ≤ v := by
  induction h with
  | self => exact Nat.le_refl _
  | up h1 h2 _ ih => have := kd_gt hT (mem_kd.2 ⟨h1, h2⟩); omega
theorem anc_trans {xs : List Int} {a k v : Nat} (h1 : Anc xs a k) (h2 : Anc xs k v) : Anc xs a v := by
  induction h2 with
  | self => exact h1
  | up g1 g2 _ ih => exact .up g1 g2 ih
theorem anc_lin {xs : List Int} {a b v : Nat} (h : Anc xs a v) (h2 : Anc xs b v) : Anc xs a b ∨ Anc xs b a := by
  induction h with
  | self => exact .inr h2
  | @up v p g1 g2 g3 ih =>
    cases h2 with
    | self => exact .inl (.up g1 g2 g3)
    | @up _ p2 e1 e2 e3 =>
      have : p = p2 := by rw [g2] at e2; omega
      subst this
      exact ih e3
theorem kids_apart {xs : List Int} (hT : TreeP xs) {a k1 k2 v : Nat} (h1 : k1 ∈ kd xs a) (h2 : k2 ∈ kd xs a) (hv1 : Anc xs k1 v) (hv2 : Anc xs k2 v) : k1 = k2 := by
  have key : ∀ k1 k2, k1 ∈ kd xs a → k2 ∈ kd xs a → Anc xs k1 k2 → k1 = k2 := fun k1 k2 h1 h2 h => by
    cases h with
    | self => rfl
    | @up _ p g1 g2 g3 =>
      have e : p = a := by have := (mem_kd.1 h2).2; rw [g2] at this; omega
      subst e
      have := anc_le hT g3
      have := kd_gt hT h1
      omega
  rcases anc_lin hv1 hv2 with h | h
  · exact key _ _ h1 h2 h
  · exact (key _ _ h2 h1 h).symm
/-- B holds the parents of the vertices O, called anew from base on -/
def GoodB (xs : List Int) (par : Int) (O : List Nat) (B : List Int) (base : Nat) (cur : Int) : Prop :=
  B.length = O.length ∧ ∀ j, j < O.length → (xs.getD (O.getD j 0) 0 = par ∧ B.getD j 0 = cur) ∨ ∃ i, i < j ∧ ((O.getD i 0 : Nat) : Int) = xs.getD (O.getD j 0) 0 ∧ B.getD j 0 = ((base + i : Nat) : Int)
theorem gd_left {α : Type} (l r : List α) (d : α) {j : Nat} (h : j < l.length) : (l ++ r).getD j d = l.getD j d := by
  rw [List.getD_eq_getElem?_getD, List.getElem?_append_left h, List.getD_eq_getElem?_getD]
theorem gd_right {α : Type} (l r : List α) (d : α) {j : Nat} (h : l.length ≤ j) : (l ++ r).getD j d = r.getD (j - l.length) d := by
  rw [List.getD_eq_getElem?_getD, List.getElem?_append_right h, List.getD_eq_getElem?_getD]
theorem good_app {xs : List Int} {par cur : Int} {O1 O2 : List Nat} {B1 B2 : List Int} {base : Nat} (h1 : GoodB xs par O1 B1 base cur) (h2 : GoodB xs par O2 B2 (base + B1.length) cur) :
    GoodB xs par (O1 ++ O2) (B1 ++ B2) base cur := by
  refine ⟨by rw [List.length_append, List.length_append, h1.1, h2.1], fun j hj => ?_⟩
  rw [List.length_append] at hj
  have e := h1.1
  by_cases hlt : j < O1.length
  · rw [gd_left _ _ _ hlt, gd_left _ _ _ (show j < B1.length by omega)]
    rcases h1.2 j hlt with h | ⟨i, h3, h4, h5⟩
    · exact .inl h
    · exact .inr ⟨i, h3, by rw [gd_left _ _ _ (show i < O1.length by omega)]; exact h4, h5⟩
  · rw [gd_right _ _ _ (show O1.length ≤ j by omega), gd_right _ _ _ (show B1.length ≤ j by omega), e]
    rcases h2.2 (j - O1.length) (by omega) with h | ⟨i, h3, h4, h5⟩
    · exact .inl h
    · refine .inr ⟨O1.length + i, by omega, by rw [gd_right _ _ _ (by omega), Nat.add_sub_cancel_left]; exact h4, ?_⟩
      rw [h5]; omega
theorem good_cons {xs : List Int} {cur : Int} {a : Nat} {O : List Nat} {B : List Int} {base : Nat} (h : GoodB xs (a : Int) O B (base + 1) (base : Int)) : GoodB xs (xs.getD a 0) (a :: O) (cur :: B) base cur := by
  refine ⟨by rw [List.length_cons, List.length_cons, h.1], fun j hj => ?_⟩
  cases j with
  | zero => exact .inl ⟨rfl, rfl⟩
  | succ j =>
    rw [List.getD_cons_succ, List.getD_cons_succ]
    rcases h.2 j (by simpa using hj) with ⟨h1, h2⟩ | ⟨i, h3, h4, h5⟩
    · exact .inr ⟨0, by omega, by rw [h1]; rfl, by rw [h2]; rfl⟩
    · exact .inr ⟨i + 1, by omega, by rw [List.getD_cons_succ]; exact h4, by rw [h5]; omega⟩
/-- what is known of the vertices below a, in the order in which they are read -/
structure SubP (xs : List Int) (a : Nat) (O : List Nat) : Prop where
  hd : ∃ r, O = a :: r
  nd : O.Nodup
  lt : ∀ v ∈ O, v < xs.length ∧ Anc xs a v
  cl : ∀ p ∈ O, ∀ v ∈ kd xs p, v ∈ O
  rd : ∀ (l : List Int) (cur : Int), ∃ B, (codeF xs 12 a).foldl rdStep (l, cur) = (l ++ B, cur) ∧ GoodB xs (xs.getD a 0) O B l.length cur
  len : (codeF xs 12 a).length = 2 * O.length
structure ForP (xs : List Int) (a : Nat) (ks : List Nat) (O : List Nat) : Prop where
  nd : O.Nodup
  lt : ∀ v ∈ O, v < xs.length ∧ ∃ k ∈ ks, Anc xs k v
  kin : ∀ k ∈ ks, k ∈ O
  cl : ∀ p ∈ O, ∀ v ∈ kd xs p, v ∈ O
  rd : ∀ (l : List Int) (cur : Int), ∃ B, ((ks.map (codeF xs 12)).flatten).foldl rdStep (l, cur) = (l ++ B, cur) ∧ GoodB xs (a : Int) O B l.length cur
  len : ((ks.map (codeF xs 12)).flatten).length = 2 * O.length
theorem forest {xs : List Int} (hT : TreeP xs) (a : Nat) : ∀ ks : List Nat, ks.Nodup → (∀ k ∈ ks, k ∈ kd xs a) → (∀ k ∈ ks, ∃ O, SubP xs k O) → ∃ O, ForP xs a ks O
  | [], _, _, _ => ⟨[], List.nodup_nil, fun v hv => by simp at hv, fun k hk => by simp at hk, fun p hp => by simp at hp, fun l cur => ⟨[], by simp, rfl, fun j hj => by simp at hj⟩, rfl⟩
  | k :: ks, hn, hk, hs => by
    obtain ⟨O1, S1⟩ := hs k (List.mem_cons_self ..)
    obtain ⟨O2, S2⟩ := forest hT a ks (List.nodup_cons.1 hn).2 (fun x hx => hk x (List.mem_cons_of_mem _ hx)) (fun x hx => hs x (List.mem_cons_of_mem _ hx))
    refine ⟨O1 ++ O2, ?_, fun v hv => ?_, fun x hx => ?_, fun p hp v hv => ?_, fun l cur => ?_, ?_⟩
    · rw [List.nodup_append]
      refine ⟨S1.nd, S2.nd, fun x hx y hy e => ?_⟩
      subst e
      obtain ⟨_, k2, hk2, h2⟩ := S2.lt x hy
      have := kids_apart hT (hk k (List.mem_cons_self ..)) (hk k2 (List.mem_cons_of_mem _ hk2)) (S1.lt x hx).2 h2
      subst this
      exact (List.nodup_cons.1 hn).1 hk2
    · rcases List.mem_append.1 hv with hv | hv
      · exact ⟨(S1.lt v hv).1, k, List.mem_cons_self .., (S1.lt v hv).2⟩
      · obtain ⟨h1, k2, hk2, h2⟩ := S2.lt v hv
        exact ⟨h1, k2, List.mem_cons_of_mem _ hk2, h2⟩
    · rcases List.mem_cons.1 hx with rfl | hx
      · obtain ⟨r, hr⟩ := S1.hd
        rw [hr]; exact List.mem_append_left _ (List.mem_cons_self ..)
      · exact List.mem_append_right _ (S2.kin x hx)
    · rcases List.mem_append.1 hp with hp | hp
      · exact List.mem_append_left _ (S1.cl p hp v hv)
      · exact List.mem_append_right _ (S2.cl p hp v hv)
    · obtain ⟨B1, e1, g1⟩ := S1.rd l cur
      obtain ⟨B2, e2, g2⟩ := S2.rd (l ++ B1) cur
      refine ⟨B1 ++ B2, ?_, ?_⟩
      · rw [List.map_cons, List.flatten_cons, List.foldl_append, e1, e2, List.append_assoc]
      · rw [(mem_kd.1 (hk k (List.mem_cons_self ..))).2] at g1
        rw [List.length_append] at g2
        exact good_app g1 g2
    · rw [List.map_cons, List.flatten_cons, List.length_append, S1.len, S2.len, List.length_append]; omega
theorem subtree {xs : List Int} (hT : TreeP xs) : ∀ b a, a < xs.length → xs.length - a ≤ b → ∃ O, SubP xs a O
  | 0, a, h, hb => by omega
  | b + 1, a, h, hb => by
    obtain ⟨ks, hp, hm⟩ := perm_map_ex (codeF xs 12) (sortD ((kd xs a).map (codeF xs 12))) (kd xs a) (sortD_perm _)
    have hkm : ∀ k ∈ ks, k ∈ kd xs a := fun k hk => hp.mem_iff.1 hk
    obtain ⟨O, S⟩ := forest hT a ks (hp.nodup_iff.2 (kd_nodup xs a)) hkm (fun k hk => by
      have h1 := kd_gt hT (hkm k hk)
      exact subtree hT b k (mem_kd.1 (hkm k hk)).1 (by omega))
    have ec : codeF xs 12 a = 40 :: ((ks.map (codeF xs 12)).flatten ++ [41]) := by
      rw [code_kids hT a, ← hm, cdS, join_flat]
    refine ⟨a :: O, ⟨O, rfl⟩, ?_, fun v hv => ?_, fun p hp2 v hv => ?_, fun l cur => ?_, ?_⟩
    · rw [List.nodup_cons]
      refine ⟨fun hm => ?_, S.nd⟩
      obtain ⟨_, k, hk, h2⟩ := S.lt a hm
      have := anc_le hT h2
      have := kd_gt hT (hkm k hk)
      omega
    · rcases List.mem_cons.1 hv with rfl | hv
      · exact ⟨h, .self⟩
      · obtain ⟨h1, k, hk, h2⟩ := S.lt v hv
        refine ⟨h1, ?_⟩
        exact anc_trans (.up (mem_kd.1 (hkm k hk)).1 (mem_kd.1 (hkm k hk)).2 .self) h2
    · rcases List.mem_cons.1 hp2 with rfl | hp2
      · exact List.mem_cons_of_mem _ (S.kin v (hp.mem_iff.2 hv))
      · exact List.mem_cons_of_mem _ (S.cl p hp2 v hv)
    · obtain ⟨B, e1, g1⟩ := S.rd (l ++ [cur]) (l.length : Nat)
      refine ⟨cur :: B, ?_, ?_⟩
      · rw [ec, List.foldl_cons, List.foldl_append]
        have e0 : rdStep (l, cur) 40 = (l ++ [cur], ((l.length : Nat) : Int)) := rfl
        rw [e0, e1]
        show rdStep (l ++ [cur] ++ B, ((l.length : Nat) : Int)) 41 = _
        have e41 : rdStep (l ++ [cur] ++ B, ((l.length : Nat) : Int)) 41 = if (0 : Int) ≤ ((l.length : Nat) : Int) then (l ++ [cur] ++ B, (l ++ [cur] ++ B).getD ((l.length : Nat) : Int).toNat 0) else (l ++ [cur] ++ B, ((l.length : Nat) : Int)) := rfl
        rw [e41, if_pos (by omega), Int.toNat_natCast]
        refine Prod.ext (by simp) ?_
        show (l ++ [cur] ++ B).getD l.length 0 = cur
        rw [gd_left _ _ _ (by simp), gd_right _ _ _ (Nat.le_refl _), Nat.sub_self]; rfl
      · rw [List.length_append, List.length_singleton] at g1
        exact good_cons g1
    · rw [ec, List.length_cons, List.length_append, S.len, List.length_cons]; simp; omega
/-- O calls the vertices of u by their names in xs -/
structure IsoP (xs u : List Int) (O : List Nat) : Prop where
  l1 : O.length = xs.length
  l2 : u.length = xs.length
  nd : O.Nodup
  lt : ∀ v ∈ O, v < xs.length
  z : O.getD 0 0 = 0
  st : ∀ j, 1 ≤ j → j < xs.length → ∃ i, i < j ∧ u.getD j 0 = (i : Int) ∧ xs.getD (O.getD j 0) 0 = ((O.getD i 0 : Nat) : Int)
  r : u.getD 0 0 = -1
theorem nodup_getD {O : List Nat} (h : O.Nodup) {i j : Nat} (hi : i < O.length) (hj : j < O.length) (e : O.getD i 0 = O.getD j 0) : i = j := by
  rw [getD_get _ _ _ hi, getD_get _ _ _ hj] at e
  rw [List.nodup_iff_pairwise_ne, List.pairwise_iff_getElem] at h
  rcases Nat.lt_trichotomy i j with h1 | h1 | h1
  · exact (h i j hi hj h1 e).elim
  · exact h1
  · exact (h j i hj hi h1 e.symm).elim
/-- what is read out of the code -/
theorem read_iso {xs : List Int} (hT : TreeP xs) : ∃ O, IsoP xs (rdT (codeF xs 12 0)).1 O ∧ (codeF xs 12 0).length = 2 * xs.length ∧ ∀ v, v < xs.length → v ∈ O := by
  obtain ⟨O, S⟩ := subtree hT xs.length 0 hT.1.1 (Nat.le_refl _)
  have hall : ∀ b v, v < b → v < xs.length → v ∈ O := by
    intro b
    induction b with
    | zero => intro v hv; omega
    | succ b ih =>
      intro v hv hl
      rcases Nat.eq_zero_or_pos v with h0 | h0
      · obtain ⟨r, hr⟩ := S.hd; rw [hr, h0]; exact List.mem_cons_self ..
      · have h1 := hT.2.2 v h0 hl
        have h2 := ih (xs.getD v 0).toNat (by omega) (by omega)
        exact S.cl _ h2 v (mem_kd.2 ⟨hl, by omega⟩)
  have hperm : O.Perm (List.range xs.length) := (List.perm_ext_iff_of_nodup S.nd List.nodup_range).2 fun v => ⟨fun h => List.mem_range.2 (S.lt v h).1, fun h => hall (v + 1) v (by omega) (List.mem_range.1 h)⟩
  have hlen : O.length = xs.length := by rw [hperm.length_eq, List.length_range]
  obtain ⟨B, e, g⟩ := S.rd [] (-1)
  have hu : (rdT (codeF xs 12 0)).1 = B := by unfold rdT; rw [e]; rfl
  obtain ⟨r, hr⟩ := S.hd
  have hz : O.getD 0 0 = 0 := by rw [hr]; rfl
  have h1 := hT.1.1
  refine ⟨O, ⟨hlen, by rw [hu, g.1, hlen], S.nd, fun v hv => (S.lt v hv).1, hz, fun j hj hjl => ?_, ?_⟩, by rw [S.len, hlen], fun v hv => hall (v + 1) v (by omega) hv⟩
  · rw [hu]
    rw [hT.2.1] at g
    rcases g.2 j (by omega) with ⟨h2, _⟩ | ⟨i, h2, h3, h4⟩
    · have hm : O.getD j 0 ∈ O := by rw [getD_get _ _ _ (show j < O.length by omega)]; exact List.getElem_mem _
      have hl := (S.lt _ hm).1
      rcases Nat.eq_zero_or_pos (O.getD j 0) with h0 | h0
      · have := nodup_getD S.nd (show j < O.length by omega) (show 0 < O.length by omega) (by rw [h0, hz])
        omega
      · have := (hT.2.2 _ h0 hl).1
        omega
    · refine ⟨i, h2, ?_, h3.symm⟩
      rw [h4]; simp
  · rw [hu]
    rcases g.2 0 (by omega) with ⟨_, h2⟩ | ⟨i, h2, _⟩
    · exact h2
    · omega
end Go.Proofs.Ytigebaejdghmmaa
