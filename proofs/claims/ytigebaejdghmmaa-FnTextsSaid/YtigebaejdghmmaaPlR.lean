/-
  Plain facts about groups that are found step by step, whatever the generators: no program in sight.
-/
import Derived.Test.YtigebaejdghmmaaPlB
import Derived.Test.YtigebaejdghmmaaPlM
set_option linter.unusedVariables false
namespace Go.Proofs.Ytigebaejdghmmaa
open Go Go.Proofs.Ytigebaejdghmmaa.Ow
/-- strictly ascending -/
def AscL (xss : List (List Int)) : Prop := xss.Pairwise fun x y => cmpI x y < 0
theorem asc_get {xss : List (List Int)} (h : AscL xss) {i j : Nat} (hij : i < j) (hj : j < xss.length) : cmpI (xss.getD i []) (xss.getD j []) < 0 := by
  rw [getD_get _ _ _ (by omega), getD_get _ _ _ hj]
  exact List.pairwise_iff_getElem.1 h i j (by omega) hj hij
theorem bsI_ok (xss : List (List Int)) (p : List Int) (h : AscL xss) : ∀ f i j, i ≤ j → j ≤ xss.length → j - i ≤ f → (∀ k, k < i → cmpI (xss.getD k []) p < 0) → (∀ k, j ≤ k → k < xss.length → ¬ cmpI (xss.getD k []) p < 0) →
    (∀ k, k < bsI xss p f i j → cmpI (xss.getD k []) p < 0) ∧ (∀ k, bsI xss p f i j ≤ k → k < xss.length → ¬ cmpI (xss.getD k []) p < 0)
  | 0, i, j, h1, h2, h3, h4, h5 => by
    obtain rfl : i = j := by omega
    exact ⟨h4, h5⟩
  | f + 1, i, j, h1, h2, h3, h4, h5 => by
    rw [bsI]
    split
    next hlt =>
      split
      next hc =>
        refine bsI_ok xss p h f _ _ (by omega) h2 (by omega) (fun k hk => ?_) h5
        rcases Nat.lt_or_eq_of_le (show k ≤ (i + j) / 2 by omega) with h6 | h6
        · exact cmpI_trans _ _ _ (asc_get h h6 (by omega)) hc
        · rw [h6]; exact hc
      next hc =>
        refine bsI_ok xss p h f _ _ (by omega) (by omega) (by omega) h4 fun k hk hl hc2 => ?_
        rcases Nat.lt_or_eq_of_le hk with h6 | h6
        · exact hc (cmpI_trans _ _ _ (asc_get h h6 hl) hc2)
        · rw [← h6] at hc2; exact hc hc2
    next hlt =>
      obtain rfl : i = j := by omega
      exact ⟨h4, h5⟩
/-- in an ascending list a list is found exactly if it is there -/
theorem findI_mem {xss : List (List Int)} (h : AscL xss) (p : List Int) : 0 ≤ findI xss p ↔ p ∈ xss := by
  obtain ⟨h1, h2⟩ := bsI_ok xss p h xss.length 0 xss.length (Nat.zero_le _) (Nat.le_refl _) (by omega) (fun k hk => by omega) (fun k hk hl => by omega)
  change (∀ k, k < bsN xss p → _) at h1
  change (∀ k, bsN xss p ≤ k → _) at h2
  unfold findI
  constructor
  · intro h3
    split at h3
    next h4 => rw [← h4.2, getD_get _ _ _ h4.1]; exact List.getElem_mem _
    next => omega
  · intro hm
    obtain ⟨k, hk, rfl⟩ := List.getElem_of_mem hm
    have hb : bsN xss xss[k] = k := by
      rcases Nat.lt_trichotomy (bsN xss xss[k]) k with h3 | h3 | h3
      · have h4 := h2 (bsN xss xss[k]) (Nat.le_refl _) (by omega)
        have h5 := asc_get h h3 hk
        rw [getD_get _ _ _ hk] at h5
        exact (h4 h5).elim
      · exact h3
      · have h4 := h1 k h3
        rw [getD_get _ _ _ hk, cmpI_refl] at h4
        omega
    rw [if_pos ⟨by rw [hb]; exact hk, by rw [hb, getD_get _ _ _ hk]⟩]
    omega
theorem putN_ok (xss : List (List Int)) (p : List Int) : ∀ f k, k ≤ xss.length → xss.length < k + f → (∀ i, i < k → cmpI (xss.getD i []) p < 0) →
    putN xss p f k ≤ xss.length ∧ (∀ i, i < putN xss p f k → cmpI (xss.getD i []) p < 0) ∧ (putN xss p f k < xss.length → ¬ cmpI (xss.getD (putN xss p f k) []) p < 0)
  | 0, k, h1, h2, h3 => by omega
  | f + 1, k, h1, h2, h3 => by
    rw [putN]
    split
    next h4 =>
      refine putN_ok xss p f (k + 1) (by omega) (by omega) fun i hi => ?_
      rcases Nat.lt_or_eq_of_le (show i ≤ k by omega) with h5 | h5
      · exact h3 i h5
      · rw [h5]; exact h4.2
    next h4 => exact ⟨h1, h3, fun h5 h6 => h4 ⟨h5, h6⟩⟩
theorem putS_asc {xss : List (List Int)} (h : AscL xss) (hl : xss.length < 200) {p : List Int} (hp : p ∉ xss) : AscL (putS xss p) := by
  obtain ⟨h1, h2, h3⟩ := putN_ok xss p 200 0 (Nat.zero_le _) (by omega) (fun i hi => by omega)
  have hlt : ∀ x ∈ xss.take (putN xss p 200 0), cmpI x p < 0 := fun x hx => by
    obtain ⟨i, hi, rfl⟩ := List.getElem_of_mem hx
    have hi2 : i < putN xss p 200 0 := by rw [List.length_take] at hi; omega
    have := h2 i hi2
    rw [getD_get _ _ _ (by omega)] at this
    rwa [List.getElem_take]
  have hge : ∀ x ∈ xss.drop (putN xss p 200 0), cmpI p x < 0 := fun x hx => by
    obtain ⟨i, hi, rfl⟩ := List.getElem_of_mem hx
    have hi2 : putN xss p 200 0 + i < xss.length := by rw [List.length_drop] at hi; omega
    rw [List.getElem_drop]
    have h4 := h3 (by omega)
    rw [getD_get _ _ _ (by omega)] at h4
    have h5 : xss[putN xss p 200 0]'(by omega) ≠ p := fun e => hp (by rw [← e]; exact List.getElem_mem _)
    have h6 := cmpI_neg (xss[putN xss p 200 0]'(by omega)) p
    have h7 : cmpI p (xss[putN xss p 200 0]'(by omega)) < 0 := by
      have : cmpI (xss[putN xss p 200 0]'(by omega)) p ≠ 0 := fun e => h5 (cmpI_eq _ _ e)
      omega
    rcases Nat.eq_zero_or_pos i with rfl | hi0
    · exact h7
    · exact cmpI_trans _ _ _ h7 (List.pairwise_iff_getElem.1 h _ _ (by omega) hi2 (by omega))
  unfold AscL putS
  rw [List.append_assoc, List.pairwise_append, List.singleton_append, List.pairwise_cons]
  refine ⟨h.sublist (List.take_sublist _ _), ⟨fun x hx => hge x hx, h.sublist (List.drop_sublist _ _)⟩, fun a ha b hb => ?_⟩
  rcases List.mem_cons.1 hb with rfl | hb
  · exact hlt a ha
  · exact cmpI_trans _ _ _ (hlt a ha) (hge b hb)
theorem putS_perm (xss : List (List Int)) (p : List Int) : (putS xss p).Perm (p :: xss) := by
  unfold putS
  rw [List.append_assoc, List.singleton_append]
  refine List.perm_middle.trans ?_
  rw [List.take_append_drop]
/-- permutations of n points -/
def PnP (n : Nat) (x : List Int) : Prop := PermP x ∧ x.length = n
theorem perm_ex {n : Nat} {x y : List Int} (hx : PnP n x) (hy : PnP n y) : PnP n (exL x y) := by
  obtain ⟨hx1, hx2⟩ := hx
  obtain ⟨hy1, hy2⟩ := hy
  have hl := exL_len x y
  refine ⟨⟨by rw [hl]; exact hx1.1, fun i hi => ?_⟩, by rw [hl]; exact hx2⟩
  rw [hl] at hi
  have h1 := (hx1.2 i hi)
  rw [exL_at _ _ _ hi]
  have h2 := (hy1.2 (x.getD i 0).toNat (by omega)).1
  refine ⟨by omega, fun j hj e => ?_⟩
  rw [exL_at _ _ _ (by omega)] at e
  have h3 := (hx1.2 j (by omega)).1
  have h4 := perm_inj hy1 (i := (x.getD j 0).toNat) (j := (x.getD i 0).toNat) (by omega) (by omega) (by rw [e])
  exact h1.2 j hj (by omega)
theorem ex_assoc {n : Nat} {x y z : List Int} (hx : PnP n x) (hy : PnP n y) : exL x (exL y z) = exL (exL x y) z := by
  refine ext_getD 0 (by rw [exL_len, exL_len, exL_len]) fun i hi => ?_
  rw [exL_len] at hi
  have h1 := (hx.1.2 i hi).1
  rw [exL_at _ _ _ hi, exL_at y z _ (by have := hx.2; have := hy.2; omega), exL_at (exL x y) z _ (by rw [exL_len]; exact hi), exL_at x y _ hi]
theorem id_perm {n : Nat} (h1 : 1 ≤ n) (h2 : n ≤ 10) : PnP n (idL n) := by
  have hl : (idL n).length = n := by simp [idL]
  refine ⟨⟨by omega, fun i hi => ?_⟩, hl⟩
  rw [idL_at n i (by omega)]
  refine ⟨by omega, fun j hj => ?_⟩
  rw [idL_at n j (by omega)]
  omega
theorem ex_id {n : Nat} {x : List Int} (hx : PnP n x) : exL x (idL n) = x := by
  refine ext_getD 0 (exL_len _ _) fun i hi => ?_
  rw [exL_len] at hi
  have h1 := (hx.1.2 i hi).1
  rw [exL_at _ _ _ hi, idL_at _ _ (by have := hx.2; omega)]
  omega
theorem id_ex {n : Nat} {x : List Int} (hx : PnP n x) : exL (idL n) x = x := by
  have hl : (idL n).length = n := by simp [idL]
  refine ext_getD 0 (by rw [exL_len, hl, hx.2]) fun i hi => ?_
  rw [exL_len, hl] at hi
  rw [exL_at _ _ _ (by omega), idL_at _ _ hi, Int.toNat_natCast]
/-- products of generators -/
inductive Wd (n : Nat) (gens : List (List Int)) : List Int → Prop
  | one : Wd n gens (idL n)
  | mul {x s : List Int} : Wd n gens x → s ∈ gens → Wd n gens (exL x s)
/-- what generators are -/
def GenQ (n : Nat) (gens : List (List Int)) : Prop := ∀ s ∈ gens, PnP n s
theorem wd_perm {n : Nat} {gens : List (List Int)} (h1 : 1 ≤ n) (h2 : n ≤ 10) (hg : GenQ n gens) {x : List Int} (h : Wd n gens x) : PnP n x := by
  induction h with
  | one => exact id_perm h1 h2
  | mul _ hs ih => exact perm_ex ih (hg _ hs)
/-- what holds of the elements met -/
structure BfP (n : Nat) (gens out q : List (List Int)) : Prop where
  l : out.length ≤ 120
  p : out.Perm q
  a : AscL out
  w : ∀ x ∈ q, Wd n gens x
  id : idL n ∈ q
theorem bf_len {n : Nat} {gens out q : List (List Int)} (h : BfP n gens out q) : q.length = out.length := h.p.length_eq.symm
theorem okP_of {n : Nat} {x : List Int} (h : PnP n x) : okP n x = true := by
  unfold okP
  simp only [Bool.and_eq_true, decide_eq_true_eq, List.all_eq_true]
  refine ⟨h.2, fun a ha => ?_⟩
  obtain ⟨i, hi, rfl⟩ := List.getElem_of_mem ha
  have := (h.1.2 i hi).1
  rw [getD_get _ _ _ hi] at this
  have := h.2
  omega
/-- one generator met -/
theorem innS_step {n a : Nat} {gens out q gs : List (List Int)} {s : List Int} (h1 : 1 ≤ n) (h2 : n ≤ 10) (hg : GenQ n gens) (h : BfP n gens out q) (ha : a < q.length) :
    innS n a (s :: gs) out q = if exL (q.getD a []) s ∈ q then innS n a gs out q else if out.length = 120 then none else innS n a gs (putS out (exL (q.getD a []) s)) (q ++ [exL (q.getD a []) s]) := by
  have hl := bf_len h
  have hq : Wd n gens (q.getD a []) := by rw [getD_get _ _ _ ha]; exact h.w _ (List.getElem_mem ha)
  rw [innS, if_pos]
  · by_cases hm : exL (q.getD a []) s ∈ q
    · rw [if_pos hm, if_pos ((findI_mem h.a _).2 (h.p.mem_iff.2 hm))]
    · rw [if_neg hm, if_neg (fun h3 => hm (h.p.mem_iff.1 ((findI_mem h.a _).1 h3)))]
  · refine ⟨⟨h.l, by have := h.l; omega, ha⟩, okP_of (wd_perm h1 h2 hg hq), ?_⟩
    rw [List.all_eq_true]
    intro x hx
    exact decide_eq_true (wd_perm h1 h2 hg (h.w x (h.p.mem_iff.1 hx))).2
theorem bf_add {n a : Nat} {gens out q : List (List Int)} {s : List Int} (h : BfP n gens out q) (ha : a < q.length) (hs : s ∈ gens) (hm : exL (q.getD a []) s ∉ q) (h120 : out.length ≠ 120) :
    BfP n gens (putS out (exL (q.getD a []) s)) (q ++ [exL (q.getD a []) s]) := by
  have hq : Wd n gens (q.getD a []) := by rw [getD_get _ _ _ ha]; exact h.w _ (List.getElem_mem ha)
  have hl := h.l
  refine ⟨?_, ?_, ?_, fun x hx => ?_, List.mem_append_left _ h.id⟩
  · rw [(putS_perm _ _).length_eq, List.length_cons]; omega
  · refine (putS_perm _ _).trans (List.Perm.trans ?_ (List.perm_append_comm (l₁ := [exL (q.getD a []) s]) (l₂ := q)))
    exact (h.p.cons _)
  · exact putS_asc h.a (by omega) (fun h3 => hm (h.p.mem_iff.1 h3))
  · rcases List.mem_append.1 hx with hx | hx
    · exact h.w x hx
    · rw [List.mem_singleton.1 hx]; exact .mul hq hs
theorem innS_ok {n a : Nat} {gens : List (List Int)} (h1 : 1 ≤ n) (h2 : n ≤ 10) (hg : GenQ n gens) : ∀ (gs out q : List (List Int)) (o), (∀ s ∈ gs, s ∈ gens) → BfP n gens out q → a < q.length → innS n a gs out q = some o →
    BfP n gens o.1 o.2 ∧ (∃ r, o.2 = q ++ r) ∧ ∀ s ∈ gs, exL (q.getD a []) s ∈ o.2
  | [], out, q, o, _, h, ha, ho => by
    rw [innS] at ho
    cases ho
    exact ⟨h, ⟨[], by simp⟩, fun s hs => by simp at hs⟩
  | s :: gs, out, q, o, hgs, h, ha, ho => by
    rw [innS_step h1 h2 hg h ha] at ho
    have hs := hgs s (List.mem_cons_self ..)
    split at ho
    next hm =>
      obtain ⟨g1, ⟨r, g2⟩, g3⟩ := innS_ok h1 h2 hg gs out q o (fun x hx => hgs x (List.mem_cons_of_mem _ hx)) h ha ho
      refine ⟨g1, ⟨r, g2⟩, fun x hx => ?_⟩
      rcases List.mem_cons.1 hx with rfl | hx
      · rw [g2]; exact List.mem_append_left _ hm
      · exact g3 x hx
    next hm =>
      split at ho
      · cases ho
      next h120 =>
        have hb := bf_add h ha hs hm h120
        have e : (q ++ [exL (q.getD a []) s]).getD a [] = q.getD a [] := by
          rw [List.getD_eq_getElem?_getD, List.getElem?_append_left ha, List.getD_eq_getElem?_getD]
        obtain ⟨g1, ⟨r, g2⟩, g3⟩ := innS_ok h1 h2 hg gs _ _ o (fun x hx => hgs x (List.mem_cons_of_mem _ hx)) hb (by rw [List.length_append]; omega) ho
        rw [e] at g3
        refine ⟨g1, ⟨_, by rw [g2, List.append_assoc]⟩, fun x hx => ?_⟩
        rcases List.mem_cons.1 hx with rfl | hx
        · rw [g2]; exact List.mem_append_left _ (List.mem_append_right _ (List.mem_singleton.2 rfl))
        · exact g3 x hx
theorem bfsS_ok {n : Nat} {gens : List (List Int)} (h1 : 1 ≤ n) (h2 : n ≤ 10) (hg : GenQ n gens) : ∀ (f a : Nat) (out q R : List (List Int)), BfP n gens out q → (∀ i, i < a → i < q.length → ∀ s ∈ gens, exL (q.getD i []) s ∈ q) → bfsS n gens f a out q = some R →
    ∃ q', BfP n gens R q' ∧ ∀ i, i < q'.length → ∀ s ∈ gens, exL (q'.getD i []) s ∈ q'
  | 0, a, out, q, R, h, hc, hR => by cases hR
  | f + 1, a, out, q, R, h, hc, hR => by
    rw [bfsS] at hR
    split at hR
    next ha =>
      cases ho : innS n a gens out q with
      | none => rw [ho] at hR; cases hR
      | some o =>
        rw [ho] at hR
        obtain ⟨g1, ⟨r, g2⟩, g3⟩ := innS_ok h1 h2 hg gens out q o (fun _ hx => hx) h ha ho
        refine bfsS_ok h1 h2 hg f (a + 1) o.1 o.2 R g1 (fun i hi hl s hs => ?_) hR
        have e : ∀ i, i < q.length → o.2.getD i [] = q.getD i [] := fun i hi => by
          rw [g2, List.getD_eq_getElem?_getD, List.getElem?_append_left hi, List.getD_eq_getElem?_getD]
        rcases Nat.lt_or_eq_of_le (show i ≤ a by omega) with h3 | h3
        · rw [e i (by omega), g2]; exact List.mem_append_left _ (hc i h3 (by omega) s hs)
        · rw [h3, e a ha]; exact g3 s hs
    next ha =>
      cases hR
      exact ⟨q, h, fun i hi s hs => hc i (by omega) hi s hs⟩
theorem bf_start {n : Nat} (gens : List (List Int)) : BfP n gens [idL n] [idL n] :=
  ⟨(by decide : 1 ≤ 120), List.Perm.refl _, List.pairwise_singleton _ _, fun x hx => by rw [List.mem_singleton.1 hx]; exact .one, List.mem_singleton.2 rfl⟩
/-- what is found is closed -/
theorem bfs_closed {n : Nat} {gens R : List (List Int)} (h1 : 1 ≤ n) (h2 : n ≤ 10) (hg : GenQ n gens) (hR : bfsS n gens 200 0 [idL n] [idL n] = some R) :
    AscL R ∧ R.length ≤ 120 ∧ idL n ∈ R ∧ (∀ x ∈ R, PnP n x) ∧ ∀ x ∈ R, ∀ y ∈ R, exL x y ∈ R := by
  obtain ⟨q, h, hc⟩ := bfsS_ok h1 h2 hg 200 0 _ _ R (bf_start gens) (fun i hi => by omega) hR
  have hm : ∀ x, x ∈ R ↔ x ∈ q := fun x => h.p.mem_iff
  refine ⟨h.a, h.l, (hm _).2 h.id, fun x hx => wd_perm h1 h2 hg (h.w x ((hm x).1 hx)), fun x hx y hy => ?_⟩
  have hstep : ∀ x ∈ q, ∀ s ∈ gens, exL x s ∈ q := fun x hx s hs => by
    obtain ⟨i, hi, rfl⟩ := List.getElem_of_mem hx
    have := hc i hi s hs
    rwa [getD_get _ _ _ hi] at this
  have hxq := (hm x).1 hx
  have hpx := wd_perm h1 h2 hg (h.w x hxq)
  have key : ∀ y, Wd n gens y → exL x y ∈ q := fun y hw => by
    induction hw with
    | one => rw [ex_id hpx]; exact hxq
    | mul hw hs ih => rw [ex_assoc hpx (wd_perm h1 h2 hg hw)]; exact hstep _ ih _ hs
  exact (hm _).2 (key y (h.w y ((hm y).1 hy)))
/-- a permutation, k times over -/
def pwL (n : Nat) (p : List Int) : Nat → List Int
  | 0 => idL n
  | k + 1 => exL (pwL n p k) p
theorem pw_perm {n : Nat} {p : List Int} (h1 : 1 ≤ n) (h2 : n ≤ 10) (hp : PnP n p) : ∀ k, PnP n (pwL n p k)
  | 0 => id_perm h1 h2
  | k + 1 => perm_ex (pw_perm h1 h2 hp k) hp
theorem pw_add {n : Nat} {p : List Int} (h1 : 1 ≤ n) (h2 : n ≤ 10) (hp : PnP n p) (a : Nat) : ∀ b, pwL n p (a + b) = exL (pwL n p a) (pwL n p b)
  | 0 => (ex_id (pw_perm h1 h2 hp a)).symm
  | b + 1 => by
    show exL (pwL n p (a + b)) p = exL (pwL n p a) (exL (pwL n p b) p)
    rw [pw_add h1 h2 hp a b, ex_assoc (pw_perm h1 h2 hp a) (pw_perm h1 h2 hp b)]
theorem pw_at {n : Nat} {p : List Int} (h1 : 1 ≤ n) (h2 : n ≤ 10) (hp : PnP n p) (k : Nat) {x : Nat} (hx : x < n) : ((pwL n p k).getD x 0).toNat < n ∧ 0 ≤ (pwL n p k).getD x 0 := by
  have h := pw_perm h1 h2 hp k
  have := (h.1.2 x (by rw [h.2]; exact hx)).1
  have := h.2
  omega
theorem pw_at_add {n : Nat} {p : List Int} (h1 : 1 ≤ n) (h2 : n ≤ 10) (hp : PnP n p) (a b : Nat) {x : Nat} (hx : x < n) : (pwL n p (a + b)).getD x 0 = (pwL n p b).getD ((pwL n p a).getD x 0).toNat 0 := by
  rw [pw_add h1 h2 hp, exL_at _ _ _ (by rw [(pw_perm h1 h2 hp a).2]; exact hx)]
/-- a point comes back within n steps -/
theorem pw_back {n : Nat} {p : List Int} (h1 : 1 ≤ n) (h2 : n ≤ 10) (hp : PnP n p) {x : Nat} (hx : x < n) : ∃ d, 1 ≤ d ∧ d ≤ n ∧ (pwL n p d).getD x 0 = (x : Int) := by
  apply Classical.byContradiction
  intro hno
  have hinj : ∀ i j, i < j → j ≤ n → ((pwL n p i).getD x 0).toNat ≠ ((pwL n p j).getD x 0).toNat := fun i j hij hj e => by
    apply hno
    refine ⟨j - i, by omega, by omega, ?_⟩
    have e1 := pw_at_add h1 h2 hp (j - i) i hx
    rw [show j - i + i = j by omega] at e1
    have hpi := pw_perm h1 h2 hp i
    have b1 := pw_at h1 h2 hp (j - i) hx
    have b2 := pw_at h1 h2 hp i hx
    have b3 := pw_at h1 h2 hp j hx
    have e2 := perm_inj hpi.1 (i := ((pwL n p (j - i)).getD x 0).toNat) (j := x) (by rw [hpi.2]; exact b1.1) (by rw [hpi.2]; exact hx) (by rw [← e1]; exact e.symm)
    omega
  have hp2 := pigeon n ((List.range (n + 1)).map fun i => ((pwL n p i).getD x 0).toNat) (by
    rw [List.nodup_iff_pairwise_ne, List.pairwise_map, List.pairwise_iff_getElem]
    intro i j hi hj hij
    simp only [List.getElem_range]
    simp only [List.length_range] at hj
    exact hinj i j hij (by omega)) (fun y hy => by
    obtain ⟨i, _, rfl⟩ := List.mem_map.1 hy
    exact (pw_at h1 h2 hp i hx).1)
  simp at hp2
  omega
theorem pw_mul {n : Nat} {p : List Int} (h1 : 1 ≤ n) (h2 : n ≤ 10) (hp : PnP n p) {x : Nat} (hx : x < n) {d : Nat} (hd : (pwL n p d).getD x 0 = (x : Int)) : ∀ m, (pwL n p (d * m)).getD x 0 = (x : Int)
  | 0 => by rw [Nat.mul_zero, pwL, idL_at _ _ hx]
  | m + 1 => by
    rw [Nat.mul_succ, Nat.add_comm, pw_at_add h1 h2 hp d (d * m) hx, hd, Int.toNat_natCast]
    exact pw_mul h1 h2 hp hx hd m
theorem pw_60 {n : Nat} {p : List Int} (h1 : 1 ≤ n) (h2 : n ≤ 6) (hp : PnP n p) : pwL n p 60 = idL n := by
  have hpp := pw_perm h1 (by omega) hp 60
  refine ext_getD 0 (by rw [hpp.2]; simp [idL]) fun x hx => ?_
  rw [hpp.2] at hx
  obtain ⟨d, d1, d2, hd⟩ := pw_back h1 (by omega) hp hx
  rw [idL_at _ _ hx]
  obtain ⟨m, hm⟩ : ∃ m, 60 = d * m := (by decide : ∀ d, d < 7 → 1 ≤ d → d * (60 / d) = 60) d (by omega) d1 |>.symm |> fun e => ⟨_, e⟩
  rw [hm]
  exact pw_mul h1 (by omega) hp hx hd m
theorem wd_pw {n : Nat} {p : List Int} (h1 : 1 ≤ n) (h2 : n ≤ 6) (hp : PnP n p) {x : List Int} (h : Wd n [p] x) : ∃ k, k < 60 ∧ x = pwL n p k := by
  induction h with
  | one => exact ⟨0, by decide, rfl⟩
  | mul _ hs ih =>
    obtain ⟨k, hk, rfl⟩ := ih
    obtain rfl := List.mem_singleton.1 hs
    rcases Nat.lt_or_eq_of_le (show k + 1 ≤ 60 by omega) with h3 | h3
    · exact ⟨k + 1, h3, rfl⟩
    · refine ⟨0, by decide, ?_⟩
      show pwL n _ (k + 1) = idL n
      rw [h3]
      exact pw_60 h1 h2 hp
theorem asc_nodup {xss : List (List Int)} (h : AscL xss) : xss.Nodup := by
  rw [List.nodup_iff_pairwise_ne]
  refine h.imp fun {a b} h e => ?_
  rw [e, cmpI_refl] at h
  omega
theorem bf_60 {n : Nat} {p : List Int} {out q : List (List Int)} (h1 : 1 ≤ n) (h2 : n ≤ 6) (hp : PnP n p) (h : BfP n [p] out q) : out.length ≤ 60 := by
  have hk : ∀ x ∈ out, ∃ k, k < 60 ∧ x = pwL n p k := fun x hx => wd_pw h1 h2 hp (h.w x (h.p.mem_iff.1 hx))
  have hnd := asc_nodup h.a
  rw [List.nodup_iff_pairwise_ne, List.pairwise_iff_getElem] at hnd
  have hf : ∀ x ∈ out, (List.range 60).findIdx (fun k => decide (x = pwL n p k)) < 60 ∧ pwL n p ((List.range 60).findIdx (fun k => decide (x = pwL n p k))) = x := fun x hx => by
    obtain ⟨k, hk, e⟩ := hk x hx
    have hlt : (List.range 60).findIdx (fun k => decide (x = pwL n p k)) < (List.range 60).length := List.findIdx_lt_length.2 ⟨k, List.mem_range.2 hk, decide_eq_true e⟩
    have h3 := List.findIdx_getElem (xs := List.range 60) (p := fun k => decide (x = pwL n p k)) (w := hlt)
    simp only [List.getElem_range] at h3
    exact ⟨by simpa using hlt, (of_decide_eq_true h3).symm⟩
  have := pigeon 60 (out.map fun x => (List.range 60).findIdx fun k => decide (x = pwL n p k)) (by
    rw [List.nodup_iff_pairwise_ne, List.pairwise_map, List.pairwise_iff_getElem]
    intro i j hi hj hij e
    refine hnd i j hi hj hij ?_
    rw [← (hf _ (List.getElem_mem hi)).2, ← (hf _ (List.getElem_mem hj)).2, e]) (fun y hy => by
    obtain ⟨x, hx, rfl⟩ := List.mem_map.1 hy
    exact (hf x hx).1)
  simpa using this
/-- one generator of few points: the group is found -/
theorem innS_one {n a : Nat} {p : List Int} (h1 : 1 ≤ n) (h2 : n ≤ 6) (hp : PnP n p) {out q : List (List Int)} (h : BfP n [p] out q) (ha : a < q.length) : ∃ o, innS n a [p] out q = some o := by
  have hg : GenQ n [p] := fun s hs => by rw [List.mem_singleton.1 hs]; exact hp
  rw [innS_step h1 (by omega) hg h ha]
  split
  · exact ⟨_, rfl⟩
  · rw [if_neg (by have := bf_60 h1 h2 hp h; omega)]
    exact ⟨_, rfl⟩
theorem bfs_one {n : Nat} {p : List Int} (h1 : 1 ≤ n) (h2 : n ≤ 6) (hp : PnP n p) : ∀ (f a : Nat) (out q : List (List Int)), BfP n [p] out q → 61 ≤ a + f → a ≤ q.length → ∃ R, bfsS n [p] f a out q = some R
  | 0, a, out, q, h, hf, ha => by
    have := bf_60 h1 h2 hp h
    have := bf_len h
    omega
  | f + 1, a, out, q, h, hf, ha => by
    have hg : GenQ n [p] := fun s hs => by rw [List.mem_singleton.1 hs]; exact hp
    rw [bfsS]
    split
    next hlt =>
      obtain ⟨o, ho⟩ := innS_one h1 h2 hp h hlt
      rw [ho]
      obtain ⟨g1, ⟨r, g2⟩, _⟩ := innS_ok h1 (by omega) hg [p] out q o (fun _ hx => hx) h hlt ho
      exact bfs_one h1 h2 hp f (a + 1) o.1 o.2 g1 (by omega) (by rw [g2, List.length_append]; omega)
    next hlt => exact ⟨_, rfl⟩
end Go.Proofs.Ytigebaejdghmmaa
