/-
  Contract of slices.SortFunc over a row of terms, compared by the closure of impl.CycleIndex.
-/
import Derived.Test.YtcamhpknmbohnaaWsf
import Derived.Test.YtcamhpknmbohnaaShelfK
set_option linter.unusedVariables false
namespace Go.Proofs.Ytcamhpknmbohnaa
open Go Go.RowKit Go.Sort Go.Lib Go.Proofs.Ytcamhpknmbohnaa.Ow
set_option maxHeartbeats 2000000 in
set_option maxRecDepth 100000 in
/-- the closure that compares terms -/
theorem cix2_go (b1 o1 n c b2 o2 m d : Nat) (z1 z2 : Int) (r : Int) (W : World) (h1 : b1 < W.heap.size) (h2 : b2 < W.heap.size)
    (hcon : ∀ W' : World, (∀ k, k < W.heap.size → W'.heap[k]? = W.heap[k]?) → Calls Try.prog 123 #[.slice (some ⟨b1, o1, none⟩) n c, .slice (some ⟨b2, o2, none⟩) m d] W' fun e w' => e = .returned (.int .i64 r) ∧ w' = W') :
    Calls Try.prog 122 #[.agg #[.slice (some ⟨b1, o1, none⟩) n c, .int .i64 z1], .agg #[.slice (some ⟨b2, o2, none⟩) m d, .int .i64 z2]] W fun e w' => e = .returned (.int .i64 r) ∧ ∃ q os', w' = grow (W.drewN q) os' := by
  go_enter Try.func122, Try.ntmps122
  go_wp2_with (go_at_call 123; go_loud (refine (hcon _ (by intro k hk; rw [alloc_eq_grow, alloc_eq_grow, grow_grow, heap_grow_old _ _ hk])).mono ?_); rintro e w' ⟨rfl, rfl⟩)
  go_ret
  exact ⟨rfl, 0, _, by rw [alloc_eq_grow, alloc_eq_grow, grow_grow]; rfl⟩
/-- a term that lies in memory -/
def Et (w : World) (A : Nat → Prop) : Type := { p : Value × Tm // (p.2.1 ≠ [] ∧ p.2.1.length ≤ 1048576) ∧ RdI w A .i64 p.2.1 p.1 }
def enT {w : World} {A : Nat → Prop} (x : Et w A) : List Value := [x.1.1, .int .i64 x.1.2.2]
def cfT {w : World} {A : Nat → Prop} (x y : Et w A) : Int := cmpI x.1.2.1 y.1.2.1
theorem et_cells {w : World} {A : Nat → Prop} (x : Et w A) : ∃ b o cap, x.1.1 = .slice (some ⟨b, o, none⟩) x.1.2.1.length cap ∧ A b ∧ b < w.heap.size ∧ ∀ j, j < x.1.2.1.length → w.cell? ⟨b, o + j, none⟩ = some (.int .i64 (x.1.2.1.getD j 0)) := by
  obtain ⟨a, cap, hv, hcap, hnn, hc⟩ := x.2.2
  rcases hc with h | ⟨b, o, rfl, hS, hc⟩
  · exact (x.2.1.1 h).elim
  · have h0 : 0 < x.1.2.1.length := List.length_pos_iff.2 x.2.1.1
    obtain ⟨cv, h1, _⟩ := hc 0 h0
    refine ⟨b, o, cap, hv, hS, cell_lt h1, fun j hj => ?_⟩
    obtain ⟨cv, h1, h2⟩ := hc j hj
    rw [h1, getD_get _ _ _ hj]
    exact congrArg some h2
theorem enT_one {w : World} {A : Nat → Prop} (x : Et w A) : ∀ v ∈ enT x, v.oneCell' = true := fun v hv => by
  obtain ⟨a, cap, hv1, _⟩ := x.2.2
  unfold enT at hv
  rw [hv1] at hv
  simp at hv
  rcases hv with rfl | rfl <;> rfl
theorem swoT2 {w : World} {A : Nat → Prop} : SWO (ltOf (cfT (w := w) (A := A))) where
  irrefl := fun x => decide_eq_false (by show ¬ cmpI x.1.2.1 x.1.2.1 < 0; rw [cmpI_refl]; decide)
  trans := fun x y z h1 h2 => decide_eq_true (cmpI_trans x.1.2.1 y.1.2.1 z.1.2.1 (of_decide_eq_true h1) (of_decide_eq_true h2))
  ntrans := fun x y z h1 h2 => by
    have h1 : ¬ cmpI x.1.2.1 y.1.2.1 < 0 := of_decide_eq_false h1
    have h2 : ¬ cmpI y.1.2.1 z.1.2.1 < 0 := of_decide_eq_false h2
    refine decide_eq_false fun h3 => ?_
    have h3 : cmpI x.1.2.1 z.1.2.1 < 0 := h3
    have e1 := cmpI_neg x.1.2.1 y.1.2.1
    by_cases h4 : cmpI y.1.2.1 x.1.2.1 < 0
    · exact h2 (cmpI_trans _ _ _ h4 h3)
    · have e : x.1.2.1 = y.1.2.1 := cmpI_eq _ _ (by omega)
      rw [e] at h3
      exact h2 h3
theorem swK_heap {α : Type} [Inhabited α] (enc : α → List Value) (w : World) (b m k : Nat) (dk : Array α) (os : Array Obj) (hk : k < w.heap.size) (hb : k ≠ b) : (sortWorldK enc 2 w b 0 m dk os).heap[k]? = w.heap[k]? := by
  unfold sortWorldK putRowK
  rw [heap_grow_old _ _ (by simpa using hk), putRow_other _ _ _ _ _ hb]
  rfl
theorem swK_size {α : Type} [Inhabited α] (enc : α → List Value) (w : World) (b m : Nat) (dk : Array α) (os : Array Obj) : w.heap.size ≤ (sortWorldK enc 2 w b 0 m dk os).heap.size := by
  simp [sortWorldK, putRowK]
theorem cmpLaysT2 {w : World} {A : Nat → Prop} [Inhabited (Et w A)] (b n : Nat) (hA : ¬ A b) : CmpLays Try.prog 122 #[] (enT (w := w) (A := A)) 2 cfT b 0 n w := by
  intro m os dk hdk x y
  obtain ⟨b1, o1, c1, e1, hS1, hl1, hc1⟩ := et_cells x
  obtain ⟨b2, o2, c2, e2, hS2, hl2, hc2⟩ := et_cells y
  have n1 : b1 ≠ b := fun e => hA (e ▸ hS1)
  have n2 : b2 ≠ b := fun e => hA (e ▸ hS2)
  have hsz := swK_size enT w b m dk os
  have key := cix2_go b1 o1 x.1.2.1.length c1 b2 o2 y.1.2.1.length c2 x.1.2.2 y.1.2.2 (cfT x y) (sortWorldK enT 2 w b 0 m dk os) (by omega) (by omega) fun W' hW =>
    compare_go b1 o1 x.1.2.1.length c1 b2 o2 y.1.2.1.length c2 x.1.2.1 y.1.2.1 W' rfl rfl x.2.1.2 y.2.1.2
      (fun j hj => (cell_of_block ((hW b1 (by omega)).trans (swK_heap enT w b m b1 dk os hl1 n1))).trans (hc1 j hj))
      (fun j hj => (cell_of_block ((hW b2 (by omega)).trans (swK_heap enT w b m b2 dk os hl2 n2))).trans (hc2 j hj))
  rw [← e1, ← e2] at key
  exact key
theorem run_cix2 (args : Array Value) (w : World) : (callFunc 122 args).run Try.prog w = .ok (.enter 122 args) w :=
  run_callFunc_enter ⟨_, _, Try.func122, rfl, by kernel_rfl⟩ args w
/-- slices.SortFunc over a row of terms: what it leaves is whatever sorted list has the same elements -/
theorem slices_SortFunc_tm (e : Nat) (xss yss : List Tm) (hl : xss.length ≤ 1048576) (h0 : xss ≠ []) (hne : ∀ x ∈ xss, x.1 ≠ [] ∧ x.1.length ≤ 1048576) (hp : yss.Perm xss) (hs : yss.Pairwise fun x y => cmpI x.1 y.1 < 0) :
    AC Try.prog 121 [.x (.oz 0), .fn 122 []] [.tz e xss] [] [.tz e yss] := by
  refine ⟨⟨_, _, Try.func121, rfl, by kernel_rfl⟩, fun w bs A vs hok hvs => ?_⟩
  obtain ⟨v, r, rfl, ⟨b, e', xs', cur, hb, hx, hc, rfl⟩, ⟨v2, r2, rfl, ⟨vs2, rfl, hvs2⟩, h3⟩⟩ := hvs
  cases h3
  cases hvs2
  cases hx
  have hrow := hok.row 0 b _ hb rfl
  obtain ⟨hA, cur2, c1, c2, c3, c4⟩ := hrow
  rw [hc] at c1; cases c1
  have hbl := hok.lt b (List.mem_of_getElem? hb)
  have hbs : bs = [b] := by
    have hlen := hok.len
    match bs, hb, hlen with
    | [x], hb, _ => simp at hb; rw [hb]
  subst hbs
  obtain ⟨l, hll, hlp⟩ := exList (α := Et w A) xss.length (fun j x => cur[2 * j]? = some x.1.1 ∧ cur[2 * j + 1]? = some (.int .i64 x.1.2.2) ∧ xss[j]? = some x.1.2) (fun j hj => by
    obtain ⟨cv, cv2, g1, g2, g3, rfl⟩ := c4 j hj
    rw [Nat.zero_add, cell_of_row w b _ cur e (0, 0) hc] at g1
    rw [Nat.zero_add, cell_of_row w b _ cur e (0, 0) hc] at g2
    exact ⟨⟨(cv, xss[j]), hne _ (List.getElem_mem hj), g3⟩, g1, g2, List.getElem?_eq_getElem hj⟩)
  have hl0 : 0 < l.length := by rw [hll]; exact List.length_pos_iff.2 h0
  haveI : Inhabited (Et w A) := ⟨l[0]⟩
  have hmap : l.map (fun x => x.1.2) = xss := by
    apply List.ext_getElem?
    intro j
    rw [List.getElem?_map]
    by_cases hj : j < l.length
    · rw [List.getElem?_eq_getElem hj, (hlp j hj).2.2]; rfl
    · rw [List.getElem?_eq_none (by omega), List.getElem?_eq_none (by omega)]; rfl
  have flat : ∀ (d : Array (Et w A)) (j : Nat) (hj : j < d.size), (flatK enT 2 d)[2 * j]! = d[j].1.1 ∧ (flatK enT 2 d)[2 * j + 1]! = .int .i64 d[j].1.2.2 := fun d j hj => by
    refine ⟨?_, ?_⟩
    · rw [get_flatK _ _ _ _ (by omega), show 2 * j / 2 = j by omega, show 2 * j % 2 = 0 by omega, getElem!_pos d j hj]; rfl
    · rw [get_flatK _ _ _ _ (by omega), show (2 * j + 1) / 2 = j by omega, show (2 * j + 1) % 2 = 1 by omega, getElem!_pos d j hj]; rfl
  have hH : HoldsK enT 2 w b 0 l.toArray := by
    intro t ht
    have ht' : t < l.length * 2 := by simpa using ht
    refine ⟨?_, frozen_row w b _ cur e hc⟩
    rw [Nat.zero_add, cell_of_row w b t cur e (0, 0) hc]
    have hj : t / 2 < l.length := by omega
    have hf := flat l.toArray (t / 2) (by simpa using hj)
    have hg := hlp (t / 2) hj
    rcases (by omega : t = 2 * (t / 2) ∨ t = 2 * (t / 2) + 1) with ht2 | ht2
    · rw [ht2, hf.1, hg.1]; simp
    · rw [ht2, hf.2, hg.2.1]; simp
  have key := AnyQ.slices_SortFunc Try.laysTm 2 Try.isAgg58 Try.sizeOf58 enT (fun _ => rfl) enT_one cfT swoT2 122 #[] b 0 (cur.size / 2) l.toArray w run_cix2 (cmpLaysT2 b _ hA) hH hbl (by simp; omega)
  change Calls Try.prog 121 _ _ _ at key
  rw [List.size_toArray, hll] at key
  refine key.mono ?_
  rintro ex w' ⟨rfl, d', n, os, hperm, hsort, rfl⟩
  have hsz' : d'.size = xss.length := by have := hperm.1; simpa [hll] using this
  have hys : d'.toList.map (fun x => x.1.2) = yss := by
    have hpp : d'.toList.Perm l := by
      have h1 := hperm.2.2
      have e1 : d'.extract 0 xss.length = d' := by rw [← hsz']; exact Array.extract_size
      have e2 : l.toArray.extract 0 xss.length = l.toArray := by rw [← hll, ← List.size_toArray]; exact Array.extract_size
      rw [e1, e2] at h1
      simpa using h1
    have hpm : (d'.toList.map (fun x : Et w A => x.1.2)).Perm yss := by
      have h1 := hpp.map (fun x : Et w A => x.1.2)
      rw [hmap] at h1
      exact h1.trans hp.symm
    refine List.Perm.eq_of_pairwise (le := fun x y => ¬ cmpI y.1 x.1 < 0) (fun a b ha hb h1 h2 => ?_) ?_ (hs.imp fun {a b} h => by have := cmpI_neg a.1 b.1; omega) hpm
    · have h3 := cmpI_neg a.1 b.1
      have h4 : cmpI a.1 b.1 = 0 := by omega
      obtain ⟨i, hi, rfl⟩ := List.getElem_of_mem (hpm.subset ha)
      obtain ⟨j, hj, rfl⟩ := List.getElem_of_mem hb
      rcases Nat.lt_trichotomy i j with h | h | h
      · have := List.pairwise_iff_getElem.1 hs i j hi hj h; omega
      · subst h; rfl
      · have := List.pairwise_iff_getElem.1 hs j i hj hi h; omega
    · rw [List.pairwise_map, List.pairwise_iff_getElem]
      intro i j hi hj hij
      have hi' : i < d'.size := by simpa using hi
      have hj' : j < d'.size := by simpa using hj
      have := hsort i j (Nat.zero_le _) hij (by omega)
      rw [getElem!_pos d' j hj', getElem!_pos d' i hi'] at this
      have this : ¬ cmpI d'[j].1.2.1 d'[i].1.2.1 < 0 := of_decide_eq_false this
      simpa using this
  have hyl : yss.length = xss.length := hp.length_eq
  have hold : ∀ k, k < w.heap.size → k ≠ b → (sortWorldK enT 2 w b 0 n d' os).heap[k]? = w.heap[k]? := fun k hk hkb => swK_heap enT w b n k d' os hk hkb
  have hnew : (sortWorldK enT 2 w b 0 n d' os).heap[b]? = some (.cells (putCells id 0 (flatK enT 2 d') cur) e (0, 0)) := by
    unfold sortWorldK putRowK
    rw [heap_grow_old _ _ (by simpa using hbl)]
    exact putRow_block id (Go.Sort.ahead w n) b _ cur e hc
  have hsz : (putCells id 0 (flatK enT 2 d') cur).size = cur.size := by simp [putCells]
  have hws := swK_size enT w b n d' os
  refine ⟨.tuple #[], [b], A, rfl, ⟨rfl, hok.nodup, fun x hx => ?_, fun x hx => ?_, ?_⟩, ⟨[], rfl, rfl⟩, ⟨rfl, rfl, rfl, hws, ?_, fun x hx => .inl hx, fun x hx => .inl hx⟩, ⟨[], rfl⟩, ?_, fun x hx => hx⟩
  · have := hok.lt x hx; omega
  · have := hok.old x hx; omega
  · intro i b2 r hb2 hr2
    match i, hb2, hr2 with
    | 0, hb2, hr2 =>
      simp at hb2 hr2
      subst hb2; subst hr2
      refine ⟨hA, _, hnew, by rw [hsz, hyl]; exact c2, by rw [hsz]; exact c3, fun j hj => ?_⟩
      have hj' : j < d'.size := by omega
      have hf := flat d' j hj'
      refine ⟨d'[j].1.1, .int .i64 d'[j].1.2.2, ?_, ?_, ?_⟩
      · rw [Nat.zero_add, cell_of_row _ _ _ _ e (0, 0) hnew, putCells_get _ _ _ _ (by simp; omega) (by simp; omega), hf.1]; rfl
      · rw [Nat.zero_add, cell_of_row _ _ _ _ e (0, 0) hnew, putCells_get _ _ _ _ (by simp; omega) (by simp; omega), hf.2]; rfl
      · have e3 : yss[j] = d'[j].1.2 := by simp [← hys]
        rw [e3]
        exact ⟨RdI.ext (fun k hk hlt => ⟨hold k hlt (fun e => hA (e ▸ hk)), hk⟩) d'[j].2.2, rfl⟩
    | i + 1, hb2, _ => simp at hb2
  · intro k hk hkb
    exact hold k hk (by simpa using hkb)
  · intro x hx cur2 e2 hc2
    simp at hx; subst hx
    rw [hc] at hc2; cases hc2
    exact ⟨_, hnew, hsz⟩
end Go.Proofs.Ytcamhpknmbohnaa
