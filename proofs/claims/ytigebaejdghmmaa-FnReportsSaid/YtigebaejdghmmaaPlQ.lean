/-
  Plain facts about cycle types and tables of terms: no program in sight.
-/
import Derived.Test.YtigebaejdghmmaaPl9
import Derived.Test.YtigebaejdghmmaaPl8
import Derived.Test.YtigebaejdghmmaaPlA
set_option linter.unusedVariables false
namespace Go.Proofs.Ytigebaejdghmmaa
open Go Go.Proofs.Ytigebaejdghmmaa.Ow
/-- one more cycle -/
def incT (out c : List Int) : List Int := out.set (c.length - 1) (out.getD (c.length - 1) 0 + 1)
/-- the cycle type, behind the first k cycles -/
def typS (p : List Int) : Nat → List Int
  | 0 => List.replicate p.length 0
  | k + 1 => incT (typS p k) ((cycL p).getD k [])
def typL (p : List Int) : List Int := typS p (cycL p).length
theorem typS_len (p : List Int) : ∀ k, (typS p k).length = p.length
  | 0 => by simp [typS]
  | k + 1 => by rw [typS, incT, List.length_set, typS_len p k]
theorem typL_len (p : List Int) : (typL p).length = p.length := typS_len p _
theorem typS_b (p : List Int) : ∀ k i, 0 ≤ (typS p k).getD i 0 ∧ (typS p k).getD i 0 ≤ (k : Int)
  | 0, i => by
    rw [typS, List.getD_eq_getElem?_getD, List.getElem?_replicate]
    split <;> simp
  | k + 1, i => by
    have h := typS_b p k
    have h1 := h i
    have h2 := h (((cycL p).getD k []).length - 1)
    rw [typS, incT, List.getD_eq_getElem?_getD, List.getElem?_set]
    split
    · split
      · simp only [Option.getD_some]; omega
      · simp only [Option.getD_none]; omega
    · rw [← List.getD_eq_getElem?_getD]; omega
/-- the first term of this type -/
def posT (l : List Tm) (t : List Int) : Nat := l.findIdx fun x => decide (x.1 = t)
def incA (l : List Tm) (i : Nat) : List Tm := l.set i ((l.getD i ([], 0)).1, (l.getD i ([], 0)).2 + 1)
/-- one more element of type t: behind all -/
def addU (l : List Tm) (t : List Int) : List Tm := if posT l t < l.length then incA l (posT l t) else l ++ [(t, 1)]
def uS (g : List (List Int)) : Nat → List Tm
  | 0 => []
  | k + 1 => addU (uS g k) (typL (g.getD k []))
/-- the first term that is not less -/
def lowT (l : List Tm) (t : List Int) : Nat := l.findIdx fun x => !decide (cmpI x.1 t < 0)
/-- one more element of type t: in its place -/
def addS (l : List Tm) (t : List Int) : List Tm := if lowT l t < l.length ∧ (l.getD (lowT l t) ([], 0)).1 = t then incA l (lowT l t) else l.take (lowT l t) ++ [(t, 1)] ++ l.drop (lowT l t)
def sS (g : List (List Int)) : Nat → List Tm
  | 0 => []
  | k + 1 => addS (sS g k) (typL (g.getD k []))
/-- the terms of a group -/
def cixL (g : List (List Int)) : List Tm := sS g g.length
def bump (t : List Int) (l : List Tm) : List Tm := l.map fun x => if x.1 = t then (x.1, x.2 + 1) else x
/-- the types go up -/
def UpT (l : List Tm) : Prop := l.Pairwise fun x y => cmpI x.1 y.1 < 0
def NoD (l : List Tm) : Prop := (l.map fun x => x.1).Nodup
theorem up_nod {l : List Tm} (h : UpT l) : NoD l := by
  unfold NoD
  rw [List.nodup_iff_pairwise_ne, List.pairwise_map]
  refine h.imp fun {a b} h e => ?_
  rw [e, cmpI_refl] at h
  omega
theorem incA_bump {l : List Tm} {t : List Int} {i : Nat} (hn : NoD l) (hi : i < l.length) (ht : (l.getD i ([], 0)).1 = t) : incA l i = bump t l := by
  unfold incA bump
  rw [getD_get _ _ _ hi] at ht ⊢
  apply List.ext_getElem
  · simp
  intro j h1 h2
  have hj : j < l.length := by simpa using h2
  rw [List.getElem_set, List.getElem_map]
  by_cases e : i = j
  · subst e
    rw [if_pos rfl, if_pos ht]
  · rw [if_neg e, if_neg]
    intro h
    have h3 : (l.map fun x => x.1)[i]'(by simpa using hi) = (l.map fun x => x.1)[j]'(by simpa using hj) := by simp only [List.getElem_map]; rw [ht, h]
    unfold NoD at hn
    rw [List.nodup_iff_pairwise_ne, List.pairwise_iff_getElem] at hn
    rcases Nat.lt_or_gt_of_ne e with h4 | h4
    · exact hn i j _ _ h4 h3
    · exact hn j i _ _ h4 h3.symm
theorem bump_types (t : List Int) (l : List Tm) : (bump t l).map (fun x => x.1) = l.map fun x => x.1 := by
  unfold bump
  rw [List.map_map]
  refine List.map_congr_left fun x _ => ?_
  show (if x.1 = t then (x.1, x.2 + 1) else x).1 = x.1
  split <;> rfl
theorem posT_no {l : List Tm} {t : List Int} : ¬ posT l t < l.length ↔ ∀ x ∈ l, x.1 ≠ t := by
  unfold posT
  rw [List.findIdx_lt_length]
  constructor
  · intro h x hx e
    exact h ⟨x, hx, decide_eq_true e⟩
  · rintro h ⟨x, hx, e⟩
    exact h x hx (of_decide_eq_true e)
theorem posT_at {l : List Tm} {t : List Int} (h : posT l t < l.length) : (l.getD (posT l t) ([], 0)).1 = t := by
  rw [getD_get _ _ _ h]
  have := List.findIdx_getElem (xs := l) (p := fun x : Tm => decide (x.1 = t)) (w := h)
  exact of_decide_eq_true this
theorem lowT_ge {l : List Tm} {t : List Int} (h : lowT l t < l.length) : ¬ cmpI (l.getD (lowT l t) ([], 0)).1 t < 0 := by
  rw [getD_get _ _ _ h]
  have := List.findIdx_getElem (xs := l) (p := fun x : Tm => !decide (cmpI x.1 t < 0)) (w := h)
  intro h2
  rw [decide_eq_true (show cmpI (l[List.findIdx (fun x : Tm => !decide (cmpI x.1 t < 0)) l]'h).1 t < 0 from h2)] at this
  cases this
theorem lowT_lt {l : List Tm} {t : List Int} {i : Nat} (h : i < lowT l t) : cmpI (l.getD i ([], 0)).1 t < 0 := by
  have hl : i < l.length := Nat.lt_of_lt_of_le h List.findIdx_le_length
  rw [getD_get _ _ _ hl]
  have := List.not_of_lt_findIdx (xs := l) (p := fun x : Tm => !decide (cmpI x.1 t < 0)) h
  simpa using this
theorem lowT_le (l : List Tm) (t : List Int) : lowT l t ≤ l.length := List.findIdx_le_length
/-- the type is there exactly if it is at its place -/
theorem low_pos {l : List Tm} {t : List Int} (hu : UpT l) : (lowT l t < l.length ∧ (l.getD (lowT l t) ([], 0)).1 = t) ↔ posT l t < l.length := by
  constructor
  · intro ⟨h1, h2⟩
    refine Decidable.byContradiction fun h3 => ?_
    rw [getD_get _ _ _ h1] at h2
    exact posT_no.1 h3 _ (List.getElem_mem h1) h2
  · intro h
    have h1 := posT_at h
    have hk : ¬ posT l t < lowT l t := fun h2 => by
      have := lowT_lt h2
      rw [h1, cmpI_refl] at this
      omega
    have h3 : lowT l t < l.length := by omega
    refine ⟨h3, ?_⟩
    have h4 := lowT_ge h3
    rcases Nat.lt_or_eq_of_le (Nat.not_lt.1 hk) with h5 | h5
    · have h6 := List.pairwise_iff_getElem.1 hu (lowT l t) (posT l t) h3 h h5
      rw [getD_get _ _ _ h3] at h4
      rw [getD_get _ _ _ h] at h1
      rw [h1] at h6
      exact (h4 h6).elim
    · rw [h5]; exact h1
theorem bump_up {l : List Tm} (t : List Int) (hu : UpT l) : UpT (bump t l) := by
  have h : ((bump t l).map fun x => x.1).Pairwise fun x y => cmpI x y < 0 := by
    rw [bump_types, List.pairwise_map]; exact hu
  rw [List.pairwise_map] at h
  exact h
theorem addS_up {l : List Tm} (t : List Int) (hu : UpT l) : UpT (addS l t) := by
  unfold addS
  split
  next h => rw [incA_bump (up_nod hu) h.1 h.2]; exact bump_up t hu
  next h =>
    have hlt : ∀ x ∈ l.take (lowT l t), cmpI x.1 t < 0 := fun x hx => by
      obtain ⟨i, hi, rfl⟩ := List.getElem_of_mem hx
      have hi2 : i < lowT l t := by rw [List.length_take] at hi; omega
      have := lowT_lt hi2
      rw [getD_get _ _ _ (by have := lowT_le l t; omega)] at this
      rwa [List.getElem_take]
    have hge : ∀ x ∈ l.drop (lowT l t), cmpI t x.1 < 0 := fun x hx => by
      obtain ⟨i, hi, rfl⟩ := List.getElem_of_mem hx
      have hi2 : lowT l t + i < l.length := by rw [List.length_drop] at hi; omega
      rw [List.getElem_drop]
      have h3 : lowT l t < l.length := by omega
      have h4 := lowT_ge h3
      have h5 : (l.getD (lowT l t) ([], 0)).1 ≠ t := fun e => h ⟨h3, e⟩
      have h6 := cmpI_neg (l.getD (lowT l t) ([], 0)).1 t
      have h7 : cmpI t (l.getD (lowT l t) ([], 0)).1 < 0 := by
        have : cmpI (l.getD (lowT l t) ([], 0)).1 t ≠ 0 := fun e => h5 (cmpI_eq _ _ e)
        omega
      rw [getD_get _ _ _ h3] at h7
      rcases Nat.eq_zero_or_pos i with rfl | hp
      · exact h7
      · exact cmpI_trans _ _ _ h7 (List.pairwise_iff_getElem.1 hu _ _ h3 hi2 (by omega))
    unfold UpT
    rw [List.append_assoc, List.pairwise_append, List.singleton_append, List.pairwise_cons]
    refine ⟨hu.sublist (List.take_sublist _ _), ⟨fun x hx => hge x hx, hu.sublist (List.drop_sublist _ _)⟩, fun a ha b hb => ?_⟩
    rcases List.mem_cons.1 hb with rfl | hb
    · exact hlt a ha
    · exact cmpI_trans _ _ _ (hlt a ha) (hge b hb)
theorem sS_up (g : List (List Int)) : ∀ k, UpT (sS g k)
  | 0 => List.Pairwise.nil
  | k + 1 => addS_up _ (sS_up g k)
theorem add_perm {u s : List Tm} (t : List Int) (hu : UpT s) (hp : s.Perm u) : (addS s t).Perm (addU u t) := by
  have hnu : NoD u := (hp.map fun x : Tm => x.1).nodup_iff.1 (up_nod hu)
  have hiff : posT s t < s.length ↔ posT u t < u.length := by
    rw [← Decidable.not_iff_not, posT_no, posT_no]
    exact ⟨fun h x hx => h x (hp.mem_iff.2 hx), fun h x hx => h x (hp.mem_iff.1 hx)⟩
  unfold addS addU
  by_cases h : posT u t < u.length
  · have h1 := (low_pos hu).2 (hiff.2 h)
    rw [if_pos h1, if_pos h, incA_bump (up_nod hu) h1.1 h1.2, incA_bump hnu h (posT_at h)]
    exact hp.map _
  · rw [if_neg (fun h1 => h (hiff.1 ((low_pos hu).1 h1))), if_neg h]
    have e : s.Perm (s.take (lowT s t) ++ s.drop (lowT s t)) := by rw [List.take_append_drop]
    refine List.Perm.trans ?_ ((List.perm_append_comm (l₁ := [(t, 1)]) (l₂ := u)))
    rw [List.append_assoc, List.singleton_append]
    refine List.perm_middle.trans ?_
    exact (e.symm.trans hp).cons _
theorem s_perm (g : List (List Int)) : ∀ k, (sS g k).Perm (uS g k)
  | 0 => .nil
  | k + 1 => add_perm _ (sS_up g k) (s_perm g k)
/-- what is known of the terms on the way -/
structure TmsP (n k : Nat) (l : List Tm) : Prop where
  n1 : l.length ≤ k
  t : ∀ x : Tm, x ∈ l → x.1.length = n ∧ ∀ i, 0 ≤ x.1.getD i 0 ∧ x.1.getD i 0 ≤ 10
  c : ∀ x : Tm, x ∈ l → 0 ≤ x.2 ∧ x.2 ≤ (k : Int)
theorem tms_set {n k : Nat} {l : List Tm} (h : TmsP n k l) (i : Nat) (hi : i < l.length) : TmsP n (k + 1) (incA l i) := by
  unfold incA
  rw [getD_get _ _ _ hi]
  refine ⟨by rw [List.length_set]; have := h.n1; omega, fun x hx => ?_, fun x hx => ?_⟩
  · rcases List.mem_or_eq_of_mem_set hx with hx | rfl
    · exact h.t x hx
    · exact h.t l[i] (List.getElem_mem hi)
  · rcases List.mem_or_eq_of_mem_set hx with hx | rfl
    · have := h.c x hx; omega
    · have := h.c l[i] (List.getElem_mem hi)
      dsimp only; omega
theorem tms_ins {n k : Nat} {l l' : List Tm} {t : List Int} (h : TmsP n k l) (ht : t.length = n ∧ ∀ i, 0 ≤ t.getD i 0 ∧ t.getD i 0 ≤ 10) (hp : l'.Perm (l ++ [(t, 1)])) : TmsP n (k + 1) l' := by
  refine ⟨by rw [hp.length_eq, List.length_append, List.length_singleton]; have := h.n1; omega, fun x hx => ?_, fun x hx => ?_⟩
  · rcases List.mem_append.1 (hp.mem_iff.1 hx) with hx | hx
    · exact h.t x hx
    · obtain rfl := List.mem_singleton.1 hx; exact ht
  · rcases List.mem_append.1 (hp.mem_iff.1 hx) with hx | hx
    · have := h.c x hx; omega
    · obtain rfl := List.mem_singleton.1 hx
      dsimp only; omega
theorem tms_u {n : Nat} (g : List (List Int)) (hg : ∀ i, i < g.length → (typL (g.getD i [])).length = n ∧ ∀ j, 0 ≤ (typL (g.getD i [])).getD j 0 ∧ (typL (g.getD i [])).getD j 0 ≤ 10) : ∀ k, k ≤ g.length → TmsP n k (uS g k)
  | 0, _ => ⟨Nat.le_refl _, fun x hx => by simp [uS] at hx, fun x hx => by simp [uS] at hx⟩
  | k + 1, hk => by
    have h := tms_u g hg k (by omega)
    rw [uS, addU]
    split
    next h1 => exact tms_set h _ h1
    next h1 => exact tms_ins h (hg k (by omega)) (List.Perm.refl _)
theorem tms_perm {n k : Nat} {l l' : List Tm} (h : TmsP n k l) (hp : l'.Perm l) : TmsP n k l' :=
  ⟨by rw [hp.length_eq]; exact h.n1, fun x hx => h.t x (hp.mem_iff.1 hx), fun x hx => h.c x (hp.mem_iff.1 hx)⟩
theorem jn_app (xs : List (List UInt8)) (y sep : List UInt8) : ∀ k, k ≤ xs.length → jn (xs ++ [y]) sep k = jn xs sep k
  | 0, _ => rfl
  | 1, h => by
    match xs, h with
    | x :: r, _ => rfl
  | k + 2, h => by
    rw [jn_s _ _ (k + 1) (by omega), jn_s xs _ (k + 1) (by omega), jn_app xs y sep (k + 1) (by omega)]
    congr 1
    rw [List.getD_eq_getElem?_getD, List.getD_eq_getElem?_getD, List.getElem?_append_left (by omega)]
/-- a text more, joined -/
theorem join_snoc (xs : List (List UInt8)) (y sep : List UInt8) (h : xs ≠ []) : Lib.join (xs ++ [y]) sep = Lib.join xs sep ++ sep ++ y := by
  have h0 := List.length_pos_iff.2 h
  rw [← jn_join, List.length_append, List.length_singleton, jn_s _ _ _ h0, jn_app _ _ _ _ (Nat.le_refl _), jn_join]
  congr 1
  rw [List.getD_eq_getElem?_getD, List.getElem?_append_right (Nat.le_refl _)]
  simp
theorem join_one (y sep : List UInt8) : Lib.join [y] sep = y := by
  rw [← jn_join]; rfl
/-- the text of one kind of cycles -/
def partT (i : Nat) (n : Int) : List UInt8 := 115 :: fmtI ((i : Int) + 1) ++ (if n = 1 then [] else 94 :: fmtI n)
def parT (t : List Int) : Nat → List (List UInt8)
  | 0 => []
  | k + 1 => if t.getD k 0 = 0 then parT t k else parT t k ++ [partT k (t.getD k 0)]
def jnT (c : List UInt8) (ps : List (List UInt8)) : List UInt8 := if ps = [] then c else c ++ [42] ++ Lib.join ps [32]
/-- the text of a term -/
def fmtT (x : Tm) : List UInt8 := jnT (fmtI x.2) (parT x.1 x.1.length)
theorem jnT_snoc (c p : List UInt8) (ps : List (List UInt8)) : jnT c (ps ++ [p]) = if jnT c ps = c then c ++ [42] ++ p else jnT c ps ++ [32] ++ p := by
  unfold jnT
  rw [if_neg (by simp)]
  by_cases h : ps = []
  · subst h
    rw [if_pos rfl, if_pos rfl, List.nil_append, join_one]
  · rw [if_neg h, if_neg (by intro e; have := congrArg List.length e; simp at this), join_snoc _ _ _ h]
    simp
/-- a term that is short -/
structure TmOk (x : Tm) : Prop where
  n1 : x.1.length ≤ 10
  t : ∀ i, 0 ≤ x.1.getD i 0 ∧ x.1.getD i 0 ≤ 10
  c : 0 ≤ x.2 ∧ x.2 ≤ 120
theorem parT_le (t : List Int) : ∀ k, (parT t k).length ≤ k
  | 0 => Nat.le_refl _
  | k + 1 => by
    have := parT_le t k
    rw [parT]; split
    · omega
    · rw [List.length_append, List.length_singleton]; omega
end Go.Proofs.Ytigebaejdghmmaa
