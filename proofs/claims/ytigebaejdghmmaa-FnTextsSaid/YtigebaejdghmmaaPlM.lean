/-
  Plain facts about colorings carried by permutations, and the least ones up to exchanged colors: no program in sight.
-/
import Derived.Test.YtigebaejdghmmaaPl4
import Derived.Test.YtigebaejdghmmaaPl6
import Derived.Test.YtigebaejdghmmaaPlA
import Derived.Test.YtigebaejdghmmaaPlF
set_option linter.unusedVariables false
namespace Go.Proofs.Ytigebaejdghmmaa
open Go Go.Proofs.Ytigebaejdghmmaa.Ow
theorem pigeon : ∀ (m : Nat) (l : List Nat), l.Nodup → (∀ x ∈ l, x < m) → l.length ≤ m
  | 0, l, _, h => by
    cases l with
    | nil => simp
    | cons a l => exact absurd (h a (by simp)) (by omega)
  | m + 1, l, hn, h => by
    by_cases hm : m ∈ l
    · have h1 := pigeon m (l.erase m) (hn.erase m) (fun x hx => by
        have h2 := h x (List.mem_of_mem_erase hx)
        have h3 : x ≠ m := (hn.mem_erase_iff.1 hx).1
        omega)
      rw [List.length_erase_of_mem hm] at h1
      omega
    · have := pigeon m l hn fun x hx => by
        have h2 := h x hx
        have h3 : x ≠ m := fun e => hm (e ▸ hx)
        omega
      omega
theorem perm_inj {p : List Int} (h : PermP p) {i j : Nat} (hi : i < p.length) (hj : j < p.length) (e : (p.getD i 0).toNat = (p.getD j 0).toNat) : i = j := by
  have h1 := (h.2 i hi)
  have h2 := (h.2 j hj)
  have e2 : p.getD i 0 = p.getD j 0 := by omega
  rcases Nat.lt_trichotomy i j with h3 | h3 | h3
  · exact (h2.2 i h3 e2).elim
  · exact h3
  · exact (h1.2 j h3 e2.symm).elim
theorem perm_nodup {p : List Int} (h : PermP p) : (p.map Int.toNat).Nodup := by
  rw [List.Nodup, List.pairwise_iff_getElem]
  intro i j hi hj hij e
  simp only [List.length_map] at hi hj
  simp only [List.getElem_map] at e
  have := perm_inj h hi hj (by rw [getD_get _ _ _ hi, getD_get _ _ _ hj]; exact e)
  omega
theorem perm_surj {p : List Int} (h : PermP p) {j : Nat} (hj : j < p.length) : ∃ i, i < p.length ∧ (p.getD i 0).toNat = j := by
  apply Classical.byContradiction
  intro hn
  have hm : j ∉ p.map Int.toNat := fun hm => by
    obtain ⟨i, hi, e⟩ := List.getElem_of_mem hm
    simp only [List.length_map] at hi
    simp only [List.getElem_map] at e
    exact hn ⟨i, hi, by rw [getD_get _ _ _ hi]; exact e⟩
  have := pigeon p.length (j :: p.map Int.toNat) (List.nodup_cons.2 ⟨hm, perm_nodup h⟩) (fun x hx => by
    rcases List.mem_cons.1 hx with rfl | hx
    · exact hj
    · obtain ⟨i, hi, e⟩ := List.getElem_of_mem hx
      simp only [List.length_map] at hi
      simp only [List.getElem_map] at e
      have := (h.2 i hi).1
      rw [getD_get _ _ _ hi] at this
      omega)
  simp only [List.length_cons, List.length_map] at this
  omega
/-- what a permutation makes of a coloring, step by step -/
def actS (p xs : List Int) : Nat → List Int
  | 0 => List.replicate xs.length 0
  | k + 1 => (actS p xs k).set (p.getD k 0).toNat (xs.getD k 0)
def actL (p xs : List Int) : List Int := actS p xs xs.length
theorem actS_len (p xs : List Int) : ∀ k, (actS p xs k).length = xs.length
  | 0 => by simp [actS]
  | k + 1 => by rw [actS, List.length_set, actS_len p xs k]
theorem actL_len (p xs : List Int) : (actL p xs).length = xs.length := actS_len p xs _
theorem actS_get {p xs : List Int} (h : PermP p) (hl : p.length = xs.length) : ∀ k, k ≤ xs.length → ∀ i, i < k → (actS p xs k).getD (p.getD i 0).toNat 0 = xs.getD i 0
  | 0, _, i, hi => by omega
  | k + 1, hk, i, hi => by
    have h1 := (h.2 k (by omega)).1
    by_cases e : i = k
    · subst e
      rw [actS, L_set_self _ _ _ _ (by rw [actS_len]; omega)]
    · rw [actS, L_set_ne _ _ _ _ _ (fun e2 => e (perm_inj h (by omega) (by omega) e2).symm), actS_get h hl k (by omega) i (by omega)]
theorem actL_get {p xs : List Int} (h : PermP p) (hl : p.length = xs.length) (i : Nat) (hi : i < xs.length) : (actL p xs).getD (p.getD i 0).toNat 0 = xs.getD i 0 :=
  actS_get h hl _ (Nat.le_refl _) i hi
theorem act_ext {p ys zs : List Int} (h : PermP p) (hy : ys.length = p.length) (hz : zs.length = p.length) (he : ∀ i, i < p.length → ys.getD (p.getD i 0).toNat 0 = zs.getD (p.getD i 0).toNat 0) : ys = zs := by
  refine ext_getD 0 (by omega) fun j hj => ?_
  obtain ⟨i, hi, e⟩ := perm_surj h (j := j) (by omega)
  have := he i hi
  rwa [e] at this
theorem exL_at (xs h : List Int) (k : Nat) (hk : k < xs.length) : (exL xs h).getD k 0 = h.getD (xs.getD k 0).toNat 0 := by
  rw [getD_get _ _ _ (by rw [exL_len]; exact hk), getD_get _ _ _ hk]; simp [exL]
theorem act_exL {p xs : List Int} (h : PermP p) (hl : p.length = xs.length) (q : List Int) : exL (actL p xs) q = actL p (exL xs q) := by
  refine act_ext h (by rw [exL_len, actL_len, hl]) (by rw [actL_len, exL_len, hl]) fun i hi => ?_
  have h1 := (h.2 i hi).1
  rw [exL_at _ _ _ (by rw [actL_len]; omega), actL_get h hl i (by omega), actL_get h (by rw [exL_len]; exact hl) i (by rw [exL_len]; omega), exL_at _ _ _ (by omega)]
theorem act_all {p xs : List Int} (h : PermP p) (hl : p.length = xs.length) (Q : Int → Prop) (hQ : ∀ i, i < xs.length → Q (xs.getD i 0)) : ∀ i, i < (actL p xs).length → Q ((actL p xs).getD i 0) := fun j hj => by
  rw [actL_len] at hj
  obtain ⟨i, hi, e⟩ := perm_surj h (j := j) (by omega)
  rw [← e, actL_get h hl i (by omega)]
  exact hQ i (by omega)
theorem act_col {p xs : List Int} (h : PermP p) (hl : p.length = xs.length) (hx : ColP xs) : ColP (actL p xs) :=
  ⟨act_all h hl (fun z => 0 ≤ z ∧ z < 4) hx.1, by rw [actL_len]; exact hx.2.1, by rw [actL_len]; exact hx.2.2⟩
/-! ### least elements -/
theorem leI_trans {x y z : List Int} (h1 : cmpI x y ≤ 0) (h2 : cmpI y z ≤ 0) : cmpI x z ≤ 0 := by
  by_cases e1 : cmpI x y = 0
  · rw [cmpI_eq _ _ e1]; exact h2
  · by_cases e2 : cmpI y z = 0
    · rw [← cmpI_eq _ _ e2]; exact h1
    · have := cmpI_trans x y z (by omega) (by omega); omega
theorem leI_anti {x y : List Int} (h1 : cmpI x y ≤ 0) (h2 : cmpI y x ≤ 0) : x = y := by
  have := cmpI_neg x y
  exact cmpI_eq _ _ (by omega)
def bstF (f : List Int → List Int) (b : List Int) (g : List (List Int)) : Nat → List Int
  | 0 => b
  | k + 1 => if cmpI (f (g.getD k [])) (bstF f b g k) < 0 then f (g.getD k []) else bstF f b g k
theorem bst_step (f : List Int → List Int) (b : List Int) (g : List (List Int)) (k : Nat) : cmpI (bstF f b g (k + 1)) (bstF f b g k) ≤ 0 ∧ cmpI (bstF f b g (k + 1)) (f (g.getD k [])) ≤ 0 := by
  rw [bstF]
  split
  · rename_i h; exact ⟨by omega, by rw [cmpI_refl]; omega⟩
  · rename_i h; exact ⟨by rw [cmpI_refl]; omega, by have := cmpI_neg (f (g.getD k [])) (bstF f b g k); omega⟩
theorem bst_le0 (f : List Int → List Int) (b : List Int) (g : List (List Int)) : ∀ k, cmpI (bstF f b g k) b ≤ 0
  | 0 => by rw [bstF, cmpI_refl]; omega
  | k + 1 => leI_trans (bst_step f b g k).1 (bst_le0 f b g k)
theorem bst_le (f : List Int → List Int) (b : List Int) (g : List (List Int)) : ∀ k i, i < k → cmpI (bstF f b g k) (f (g.getD i [])) ≤ 0
  | 0, i, hi => by omega
  | k + 1, i, hi => by
    by_cases e : i = k
    · subst e; exact (bst_step f b g i).2
    · exact leI_trans (bst_step f b g k).1 (bst_le f b g k i (by omega))
theorem bst_mem (f : List Int → List Int) (b : List Int) (g : List (List Int)) : ∀ k, bstF f b g k = b ∨ ∃ i, i < k ∧ bstF f b g k = f (g.getD i [])
  | 0 => .inl rfl
  | k + 1 => by
    rw [bstF]
    split
    · exact .inr ⟨k, by omega, rfl⟩
    · rcases bst_mem f b g k with h | ⟨i, hi, h⟩
      · exact .inl h
      · exact .inr ⟨i, by omega, h⟩
/-- the least image -/
def canL (g : List (List Int)) (xs : List Int) : List Int := bstF (fun p => actL p xs) xs g g.length
/-- the least one up to exchanged colors: of the first colors of the images -/
def cexL (g : List (List Int)) (xs : List Int) : List Int := bstF (fun p => firstL (actL p xs)) (firstL xs) g g.length
/-- the same: of the least images of the exchanged -/
def cexS (g S : List (List Int)) (xs : List Int) : List Int := bstF (fun h => canL g (exL xs h)) xs S S.length
/-! ### first colors are the least exchange -/
def cntN (l : List Int) : Nat := (l.filter fun x => decide (0 ≤ x)).length
theorem cntN_set : ∀ (l : List Int) (c : Nat) (m : Int), c < l.length → l.getD c 0 < 0 → 0 ≤ m → cntN (l.set c m) = cntN l + 1
  | [], c, m, h, _, _ => by simp at h
  | x :: l, 0, m, _, h0, hm => by
    have h0 : x < 0 := h0
    simp [cntN, hm, show ¬ 0 ≤ x by omega]
  | x :: l, c + 1, m, h, h0, hm => by
    have := cntN_set l c m (by simpa using h) (by simpa using h0) hm
    unfold cntN at this ⊢
    rw [List.set_cons_succ, List.filter_cons, List.filter_cons]
    split
    · simp only [List.length_cons]; omega
    · exact this
structure FcJ (xs : List Int) (k : Nat) (s : (List Int × Int) × List Int) : Prop where
  ob : ∀ i, i < k → s.2.getD i 0 = s.1.1.getD (xs.getD i 0).toNat 0
  inj : ∀ c, c < 4 → ∀ d, d < 4 → 0 ≤ s.1.1.getD c 0 → s.1.1.getD c 0 = s.1.1.getD d 0 → c = d
  cnt : (cntN s.1.1 : Int) = s.1.2
theorem fcJ (xs : List Int) (hx : ∀ i, i < xs.length → 0 ≤ xs.getD i 0 ∧ xs.getD i 0 < 4) : ∀ k, k ≤ xs.length → FcJ xs k (fcS xs k)
  | 0, _ => ⟨fun i hi => by omega, by unfold fcS; decide, rfl⟩
  | k + 1, hk => by
    have H := fcJ xs hx k (by omega)
    have I := fcI xs hx k (by omega)
    have hxk := hx k (by omega)
    obtain ⟨c, hc⟩ : ∃ c : Nat, xs.getD k 0 = c := ⟨(xs.getD k 0).toNat, by omega⟩
    have hc4 : c < 4 := by omega
    have hl4 := I.l4
    have hlo := I.lo
    by_cases h0 : (fcS xs k).1.1.getD c 0 < 0
    · rw [fcS_new xs k c hc h0]
      refine ⟨fun i hi => ?_, fun d hd e he h1 h2 => ?_, ?_⟩
      · dsimp only
        by_cases ei : i = k
        · subst ei
          rw [L_app_r _ _ _ _ (by omega), hlo, Nat.sub_self, hc, Int.toNat_natCast]; rfl
        · rw [L_app_l _ _ _ _ (by omega), H.ob i (by omega)]
          have hne : c ≠ (xs.getD i 0).toNat := fun e => (I.fr c hc4).1 h0 i (by omega) (by have := hx i (by omega); omega)
          rw [L_set_ne _ _ _ _ _ hne]
      · dsimp only at h1 h2
        by_cases e1 : c = d
        · by_cases e2 : c = e
          · omega
          · subst e1
            rw [L_set_self _ _ _ _ (by omega), L_set_ne _ _ _ _ _ e2] at h2
            have := I.nm e he
            omega
        · by_cases e2 : c = e
          · subst e2
            rw [L_set_self _ _ _ _ (by omega), L_set_ne _ _ _ _ _ e1] at h2
            have := I.nm d hd
            omega
          · rw [L_set_ne _ _ _ _ _ e1] at h1 h2
            rw [L_set_ne _ _ _ _ _ e2] at h2
            exact H.inj d hd e he h1 h2
      · dsimp only
        have := H.cnt
        rw [cntN_set _ _ _ (by omega) h0 I.m0]
        omega
    · rw [fcS_old xs k c hc h0]
      refine ⟨fun i hi => ?_, H.inj, H.cnt⟩
      dsimp only
      by_cases ei : i = k
      · subst ei
        rw [L_app_r _ _ _ _ (by omega), hlo, Nat.sub_self, hc, Int.toNat_natCast]; rfl
      · rw [L_app_l _ _ _ _ (by omega), H.ob i (by omega)]
def validN (k : Nat) (nm : List Int) : Bool := (List.range 4).all fun c => (decide (nm.getD c 0 < 0) || (decide (nm.getD c 0 < (cntN nm : Int)) && decide (c < k))) && (List.range c).all fun d => decide (nm.getD c 0 < 0) || decide (nm.getD d 0 ≠ nm.getD c 0)
def extOk (k : Nat) (nm : List Int) : Bool := !validN k nm || ((symL k).any (fun h => (List.range k).all fun c => decide (nm.getD c 0 < 0) || decide (h.getD c 0 = nm.getD c 0)) && (List.range (cntN nm)).all fun v => nm.contains (v : Int))
def extAll (k : Nat) : Bool := (List.range 5).all fun a => (List.range 5).all fun b => (List.range 5).all fun c => (List.range 5).all fun d => extOk k [((a : Nat) : Int) - 1, ((b : Nat) : Int) - 1, ((c : Nat) : Int) - 1, ((d : Nat) : Int) - 1]
set_option maxRecDepth 100000 in
theorem ext_chk : ∀ k, k < 5 → 1 ≤ k → extAll k = true := by decide +kernel
theorem ext_all (k : Nat) (hk : k < 5) (h1 : 1 ≤ k) (a : Nat) (ha : a < 5) (b : Nat) (hb : b < 5) (c : Nat) (hc : c < 5) (d : Nat) (hd : d < 5) : extOk k [((a : Nat) : Int) - 1, ((b : Nat) : Int) - 1, ((c : Nat) : Int) - 1, ((d : Nat) : Int) - 1] = true := by
  have h := ext_chk k hk h1
  unfold extAll at h
  simp only [List.all_eq_true, List.mem_range] at h
  exact h a ha b hb c hc d hd
theorem fcS_pre (xs : List Int) (j : Nat) : ∀ k, j < k → (∀ m, m ≤ k → (fcS xs m).2.length = m) → (fcS xs k).2.getD j 0 = (fcS xs (j + 1)).2.getD j 0
  | 0, h, _ => by omega
  | k + 1, h, hl => by
    by_cases e : j = k
    · subst e; rfl
    · rw [← fcS_pre xs j k (by omega) fun m hm => hl m (by omega)]
      show ((fcS xs k).2 ++ _).getD j 0 = _
      rw [L_app_l _ _ _ _ (by rw [hl k (by omega)]; omega)]
theorem firstL_at {xs : List Int} (hx : ColP xs) {j : Nat} (hj : j < xs.length) : (firstL xs).getD j 0 = (fcS xs (j + 1)).2.getD j 0 :=
  fcS_pre xs j xs.length hj fun m hm => (fcI xs hx.1 m hm).lo
theorem cmp_le_of : ∀ (a b : List Int), a.length = b.length → (∀ j, j < a.length → (∀ i, i < j → a.getD i 0 = b.getD i 0) → a.getD j 0 ≤ b.getD j 0) → cmpI a b ≤ 0
  | [], [], _, _ => by rw [cmpI_refl]; omega
  | [], _ :: _, h, _ => by simp at h
  | _ :: _, [], h, _ => by simp at h
  | x :: a, y :: b, hl, h => by
    have h0 : x ≤ y := h 0 (by simp) fun i hi => by omega
    rw [cmpI]
    split
    · omega
    · split
      · omega
      · refine cmp_le_of a b (by simpa using hl) fun j hj hi => ?_
        refine h (j + 1) (by simpa using hj) fun i hi2 => ?_
        cases i with
        | zero => show x = y; omega
        | succ i => exact hi i (by omega)
/-- what is known of the names -/
structure Nms (k : Nat) (xs : List Int) (n : Nat) : Prop where
  ext : ∃ h ∈ symL k, ∀ c, c < k → 0 ≤ (fcS xs n).1.1.getD c 0 → h.getD c 0 = (fcS xs n).1.1.getD c 0
  all : ∀ v : Int, 0 ≤ v → v < (fcS xs n).1.2 → ∃ i, i < n ∧ (fcS xs n).2.getD i 0 = v
theorem nms {xs : List Int} {k : Nat} (hx : ColP xs) (h1 : 1 ≤ k) (h4 : k ≤ 4) (hb : ∀ i, i < xs.length → xs.getD i 0 < (k : Int)) (n : Nat) (hn : n ≤ xs.length) : Nms k xs n := by
  have I := fcI xs hx.1 n hn
  have J := fcJ xs hx.1 n hn
  have hpos : ∀ c, c < 4 → 0 ≤ (fcS xs n).1.1.getD c 0 → ∃ i, i < n ∧ xs.getD i 0 = (c : Int) := fun c hc h0 => by
    apply Classical.byContradiction
    intro hne
    have := (I.fr c hc).2 fun i hi e => hne ⟨i, hi, e⟩
    omega
  have hl4 := I.l4
  have hnm := I.nm
  have hcnt := J.cnt
  generalize hs : fcS xs n = s at *
  obtain ⟨⟨names, most⟩, out⟩ := s
  dsimp only at *
  have hinj : ∀ c, c < 4 → ∀ d, d < 4 → 0 ≤ names.getD c 0 → names.getD c 0 = names.getD d 0 → c = d := J.inj
  have hc4 : cntN names ≤ 4 := by rw [← hl4]; exact List.length_filter_le _ _
  have hv : validN k names = true := by
    unfold validN
    simp only [List.all_eq_true, List.mem_range, Bool.and_eq_true, Bool.or_eq_true, decide_eq_true_eq]
    refine fun c hc => ⟨?_, fun d hd => ?_⟩
    · by_cases h0 : names.getD c 0 < 0
      · exact .inl h0
      · obtain ⟨i, hi, e⟩ := hpos c hc (by omega)
        have := hb i (by omega)
        have := hnm c hc
        exact .inr ⟨by omega, by omega⟩
    · by_cases h0 : names.getD c 0 < 0
      · exact .inl h0
      · refine .inr fun e => ?_
        have := hinj c hc d (by omega) (by omega) e.symm
        omega
  obtain ⟨a, b, c, d, rfl⟩ : ∃ a b c d : Int, names = [a, b, c, d] := by
    match names, hl4 with
    | [a, b, c, d], _ => exact ⟨a, b, c, d, rfl⟩
  have ha := hnm 0 (by omega)
  have hb' := hnm 1 (by omega)
  have hc' := hnm 2 (by omega)
  have hd := hnm 3 (by omega)
  change -1 ≤ a ∧ a < most at ha
  change -1 ≤ b ∧ b < most at hb'
  change -1 ≤ c ∧ c < most at hc'
  change -1 ≤ d ∧ d < most at hd
  have hE := ext_all k (by omega) h1 (a + 1).toNat (by omega) (b + 1).toNat (by omega) (c + 1).toNat (by omega) (d + 1).toNat (by omega)
  rw [show (((a + 1).toNat : Nat) : Int) - 1 = a by omega, show (((b + 1).toNat : Nat) : Int) - 1 = b by omega, show (((c + 1).toNat : Nat) : Int) - 1 = c by omega, show (((d + 1).toNat : Nat) : Int) - 1 = d by omega] at hE
  unfold extOk at hE
  rw [hv] at hE
  simp only [Bool.not_true, Bool.false_or, Bool.and_eq_true, List.any_eq_true, List.all_eq_true, List.mem_range, Bool.or_eq_true, decide_eq_true_eq, List.contains_iff_mem] at hE
  obtain ⟨⟨h, hh, he⟩, hall⟩ := hE
  refine ⟨⟨h, hh, fun c' hc'' h0 => ?_⟩, fun v h0 hv2 => ?_⟩
  · rw [hs] at h0 ⊢
    dsimp only at h0 ⊢
    rcases he c' hc'' with h2 | h2
    · omega
    · exact h2
  · rw [hs] at hv2 ⊢
    dsimp only at hv2 ⊢
    have hm := hall v.toNat (by omega)
    rw [Int.toNat_of_nonneg h0] at hm
    obtain ⟨e, he4, hev⟩ := List.getElem_of_mem hm
    have hev : [a, b, c, d].getD e 0 = v := by rw [getD_get _ _ _ he4]; exact hev
    have he4' : e < 4 := he4
    obtain ⟨i, hi, hxi⟩ := hpos e he4' (by omega)
    refine ⟨i, hi, ?_⟩
    rw [J.ob i hi, hxi, Int.toNat_natCast]; exact hev
/-- some exchange makes the first colors -/
theorem first_ex {xs : List Int} {k : Nat} (hx : ColP xs) (h1 : 1 ≤ k) (h4 : k ≤ 4) (hb : ∀ i, i < xs.length → xs.getD i 0 < (k : Int)) : ∃ h ∈ symL k, exL xs h = firstL xs := by
  have I := fcI xs hx.1 xs.length (Nat.le_refl _)
  have J := fcJ xs hx.1 xs.length (Nat.le_refl _)
  obtain ⟨h, hh, he⟩ := (nms hx h1 h4 hb xs.length (Nat.le_refl _)).ext
  refine ⟨h, hh, ext_getD 0 (by rw [exL_len, firstL_len xs hx]) fun i hi => ?_⟩
  rw [exL_len] at hi
  have h0 := hx.1 i hi
  have h2 := hb i hi
  have h3 := J.ob i hi
  have h5 := I.ob i hi
  rw [exL_at _ _ _ hi, he _ (by omega) (by omega)]
  exact h3.symm
/-- no exchange makes less -/
theorem first_le {xs h : List Int} {k : Nat} (hx : ColP xs) (h1 : 1 ≤ k) (h4 : k ≤ 4) (hb : ∀ i, i < xs.length → xs.getD i 0 < (k : Int)) (hP : PermP h) (hl : h.length = k) : cmpI (firstL xs) (exL xs h) ≤ 0 := by
  refine cmp_le_of _ _ (by rw [exL_len, firstL_len xs hx]) fun j hj hi => ?_
  rw [firstL_len xs hx] at hj
  have I := fcI xs hx.1 j (by omega)
  have J := fcJ xs hx.1 j (by omega)
  have N := nms hx h1 h4 hb j (by omega)
  have hpre : ∀ i, i < j → (firstL xs).getD i 0 = (fcS xs j).2.getD i 0 := fun i hij => by
    rw [firstL_at hx (by omega), fcS_pre xs i j hij fun m hm => (fcI xs hx.1 m (by omega)).lo]
  have hxj := hx.1 j hj
  have hbj := hb j hj
  obtain ⟨c, hc⟩ : ∃ c : Nat, xs.getD j 0 = c := ⟨(xs.getD j 0).toNat, by omega⟩
  have hc4 : c < 4 := by omega
  have hhc := (hP.2 c (by omega)).1
  have hlo := I.lo
  rw [firstL_at hx hj, exL_at _ _ _ hj, hc, Int.toNat_natCast]
  have hex : ∀ i, i < j → (fcS xs j).2.getD i 0 = h.getD (xs.getD i 0).toNat 0 := fun i hij => by
    have := hi i hij
    rw [hpre i hij, exL_at _ _ _ (by omega)] at this
    exact this
  by_cases h0 : (fcS xs j).1.1.getD c 0 < 0
  · rw [fcS_new xs j c hc h0]
    dsimp only
    rw [L_app_r _ _ _ _ (by omega), hlo, Nat.sub_self]
    show (List.set _ c _).getD c 0 ≤ _
    rw [L_set_self _ _ _ _ (by rw [I.l4]; exact hc4)]
    apply Classical.byContradiction
    intro hlt
    obtain ⟨i, hij, hv⟩ := N.all (h.getD c 0) hhc.1 (by omega)
    rw [hex i hij] at hv
    have h2 := hx.1 i (by omega)
    have h3 := hb i (by omega)
    have := perm_inj hP (i := (xs.getD i 0).toNat) (j := c) (by omega) (by omega) (by rw [hv])
    exact (I.fr c hc4).1 h0 i hij (by omega)
  · rw [fcS_old xs j c hc h0]
    dsimp only
    rw [L_app_r _ _ _ _ (by omega), hlo, Nat.sub_self]
    show (fcS xs j).1.1.getD c 0 ≤ _
    obtain ⟨i, hij, e⟩ : ∃ i, i < j ∧ xs.getD i 0 = (c : Int) := by
      apply Classical.byContradiction
      intro hne
      exact h0 ((I.fr c hc4).2 fun i hi e => hne ⟨i, hi, e⟩)
    have h2 := J.ob i hij
    have h3 := hex i hij
    rw [e, Int.toNat_natCast] at h2 h3
    omega
theorem idP (k : Nat) (h1 : 1 ≤ k) (h4 : k ≤ 4) : PermP (idL k) ∧ (idL k).length = k := by
  have := (by decide : ∀ k, k < 5 → 1 ≤ k → permB (idL k) = true ∧ (idL k).length = k) k (by omega) h1
  exact ⟨(permB_iff _).1 this.1, this.2⟩
theorem idL_at (n k : Nat) (h : k < n) : (idL n).getD k 0 = (k : Int) := by
  rw [getD_get _ _ _ (by simp [idL]; exact h)]; simp [idL]
theorem exL_id {xs : List Int} {k : Nat} (hx : ColP xs) (hb : ∀ i, i < xs.length → xs.getD i 0 < (k : Int)) : exL xs (idL k) = xs := by
  refine ext_getD 0 (exL_len _ _) fun i hi => ?_
  rw [exL_len] at hi
  have h0 := hx.1 i hi
  have h2 := hb i hi
  rw [exL_at _ _ _ hi, idL_at _ _ (by omega)]
  omega
/-- the colorings that are carried: what is asked of the group and of the coloring -/
structure CxP (g : List (List Int)) (k : Nat) (xs : List Int) : Prop where
  g : ∀ i, i < g.length → PermP (g.getD i []) ∧ (g.getD i []).length = xs.length
  x : ColP xs
  h1 : 1 ≤ k
  h4 : k ≤ 4
  b : ∀ i, i < xs.length → xs.getD i 0 < (k : Int)
theorem sym_get {k : Nat} (h1 : 1 ≤ k) (h4 : k ≤ 4) {j : Nat} (hj : j < (symL k).length) : PermP ((symL k).getD j []) ∧ ((symL k).getD j []).length = k := by
  rw [getD_get _ _ _ hj]
  exact (sym_ok k (by omega) h1).el _ (List.getElem_mem hj)
theorem first_le2 {g : List (List Int)} {k : Nat} {xs : List Int} (H : CxP g k xs) {i : Nat} (hi : i < g.length) {q : List Int} (hq : PermP q) (hl : q.length = k) : cmpI (firstL (actL (g.getD i []) xs)) (actL (g.getD i []) (exL xs q)) ≤ 0 := by
  obtain ⟨h1, h2⟩ := H.g i hi
  rw [← act_exL h1 h2]
  exact first_le (act_col h1 h2 H.x) H.h1 H.h4 (act_all h1 h2 (fun z => z < (k : Int)) H.b) hq hl
theorem cex_same {g : List (List Int)} {k : Nat} {xs : List Int} (H : CxP g k xs) : cexS g (symL k) xs = cexL g xs := by
  have hS : ∀ h ∈ symL k, cmpI (cexS g (symL k) xs) (canL g (exL xs h)) ≤ 0 := fun h hh => by
    obtain ⟨j, hj, e⟩ := List.getElem_of_mem hh
    have := bst_le (fun h => canL g (exL xs h)) xs (symL k) (symL k).length j hj
    rw [getD_get _ _ _ hj, e] at this
    exact this
  have hid := idP k H.h1 H.h4
  have hfx := first_le H.x H.h1 H.h4 H.b hid.1 hid.2
  rw [exL_id H.x H.b] at hfx
  have h0 : cmpI (cexL g xs) (firstL xs) ≤ 0 := bst_le0 _ _ _ _
  refine leI_anti ?_ ?_
  · rcases bst_mem (fun p => firstL (actL p xs)) (firstL xs) g g.length with h | ⟨i, hi, h⟩
    · obtain ⟨q, hq, e⟩ := first_ex H.x H.h1 H.h4 H.b
      rw [show cexL g xs = firstL xs from h, ← e]
      exact leI_trans (hS q hq) (bst_le0 _ _ _ _)
    · obtain ⟨h1, h2⟩ := H.g i hi
      obtain ⟨q, hq, e⟩ := first_ex (act_col h1 h2 H.x) H.h1 H.h4 (act_all h1 h2 (fun z => z < (k : Int)) H.b)
      rw [show cexL g xs = firstL (actL (g.getD i []) xs) from h, ← e, act_exL h1 h2]
      exact leI_trans (hS q hq) (bst_le (fun p => actL p (exL xs q)) (exL xs q) g g.length i hi)
  · rcases bst_mem (fun h => canL g (exL xs h)) xs (symL k) (symL k).length with h | ⟨j, hj, h⟩
    · rw [show cexS g (symL k) xs = xs from h]
      exact leI_trans h0 hfx
    · obtain ⟨hq, hql⟩ := sym_get H.h1 H.h4 hj
      rw [show cexS g (symL k) xs = canL g (exL xs ((symL k).getD j [])) from h]
      rcases bst_mem (fun p => actL p (exL xs ((symL k).getD j []))) (exL xs ((symL k).getD j [])) g g.length with h | ⟨i, hi, h⟩
      · rw [show canL g (exL xs ((symL k).getD j [])) = exL xs ((symL k).getD j []) from h]
        exact leI_trans h0 (first_le H.x H.h1 H.h4 H.b hq hql)
      · rw [show canL g (exL xs ((symL k).getD j [])) = actL (g.getD i []) (exL xs ((symL k).getD j [])) from h]
        exact leI_trans (bst_le (fun p => firstL (actL p xs)) (firstL xs) g g.length i hi) (first_le2 H hi hq hql)
theorem cex_canon {g : List (List Int)} {k : Nat} {xs : List Int} (H : CxP g k xs) (h : cexL g xs = xs) : canL g xs = xs := by
  refine leI_anti (bst_le0 _ _ _ _) ?_
  rcases bst_mem (fun p => actL p xs) xs g g.length with e | ⟨i, hi, e⟩
  · rw [show canL g xs = xs from e, cmpI_refl]; omega
  · rw [show canL g xs = actL (g.getD i []) xs from e]
    have hid := idP k H.h1 H.h4
    have h2 := first_le2 H hi hid.1 hid.2
    rw [exL_id H.x H.b] at h2
    have h3 := bst_le (fun p => firstL (actL p xs)) (firstL xs) g g.length i hi
    change cmpI (cexL g xs) _ ≤ 0 at h3
    rw [h] at h3
    exact leI_trans h3 h2
end Go.Proofs.Ytigebaejdghmmaa
