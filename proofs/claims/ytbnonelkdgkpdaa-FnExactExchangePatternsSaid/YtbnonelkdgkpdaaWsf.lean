/-
  Contract of slices.SortFunc over a row of lists of integers, compared by slices.Compare.
-/
import Derived.Test.YtbnonelkdgkpdaaWcmp
set_option linter.unusedVariables false
namespace Go.Proofs.Ytbnonelkdgkpdaa
open Go Go.RowKit Go.Sort Go.Lib Go.Proofs.Ytbnonelkdgkpdaa.Ow
/-- a list of integers that lies in memory, at least one -/
def El (w : World) (A : Nat → Prop) : Type := { p : Value × List Int // (p.2 ≠ [] ∧ p.2.length ≤ 1048576) ∧ Rd w A (.sl .int) p.2 p.1 }
def enE {w : World} {A : Nat → Prop} (x : El w A) : Value := x.1.1
def cfE {w : World} {A : Nat → Prop} (x y : El w A) : Int := cmpI x.1.2 y.1.2
theorem enE_one {w : World} {A : Nat → Prop} : OneCell (enE (w := w) (A := A)) := fun x => Rd.one x.2.2
theorem el_cells {w : World} {A : Nat → Prop} (x : El w A) : ∃ b o cap, x.1.1 = .slice (some ⟨b, o, none⟩) x.1.2.length cap ∧ A b ∧ b < w.heap.size ∧ ∀ j, j < x.1.2.length → w.cell? ⟨b, o + j, none⟩ = some (.int .i64 (x.1.2.getD j 0)) := by
  obtain ⟨a, cap, hv, hcap, hnn, hc⟩ := x.2.2
  rcases hc with h | ⟨b, o, rfl, hS, hc⟩
  · exact (x.2.1.1 h).elim
  · have h0 : 0 < x.1.2.length := List.length_pos_iff.2 x.2.1.1
    obtain ⟨cv, h1, _⟩ := hc 0 h0
    refine ⟨b, o, cap, hv, hS, cell_lt h1, fun j hj => ?_⟩
    obtain ⟨cv, h1, h2⟩ := hc j hj
    rw [h1, getD_get _ _ _ hj]
    exact congrArg some h2
theorem swoE {w : World} {A : Nat → Prop} : SWO (ltOf (cfE (w := w) (A := A))) where
  irrefl := fun x => decide_eq_false (by show ¬ cmpI x.1.2 x.1.2 < 0; rw [cmpI_refl]; decide)
  trans := fun x y z h1 h2 => decide_eq_true (cmpI_trans x.1.2 y.1.2 z.1.2 (of_decide_eq_true h1) (of_decide_eq_true h2))
  ntrans := fun x y z h1 h2 => by
    have h1 : ¬ cmpI x.1.2 y.1.2 < 0 := of_decide_eq_false h1
    have h2 : ¬ cmpI y.1.2 z.1.2 < 0 := of_decide_eq_false h2
    refine decide_eq_false fun h3 => ?_
    have h3 : cmpI x.1.2 z.1.2 < 0 := h3
    have e1 := cmpI_neg x.1.2 y.1.2
    by_cases h4 : cmpI y.1.2 x.1.2 < 0
    · exact h2 (cmpI_trans _ _ _ h4 h3)
    · have e : x.1.2 = y.1.2 := cmpI_eq _ _ (by omega)
      rw [e] at h3
      exact h2 h3
theorem sw_cell {α : Type} [Inhabited α] (enc : α → Value) (w : World) (b m k j : Nat) (dk : Array α) (os : Array Obj) (hk : k < w.heap.size) (hb : k ≠ b) : (sortWorld enc w b 0 m dk os).cell? ⟨k, j, none⟩ = w.cell? ⟨k, j, none⟩ := by
  unfold sortWorld
  refine cell_of_block ?_
  rw [heap_grow_old _ _ (by simpa using hk), putRow_other _ _ _ _ _ hb]
  rfl
theorem cmpLaysE {w : World} {A : Nat → Prop} [Inhabited (El w A)] (b n : Nat) (hA : ¬ A b) : CmpLays1 Try.prog 85 #[] (enE (w := w) (A := A)) cfE b 0 n w := by
  intro m os dk hdk x y
  obtain ⟨b1, o1, c1, e1, hS1, hl1, hc1⟩ := el_cells x
  obtain ⟨b2, o2, c2, e2, hS2, hl2, hc2⟩ := el_cells y
  have n1 : b1 ≠ b := fun e => hA (e ▸ hS1)
  have n2 : b2 ≠ b := fun e => hA (e ▸ hS2)
  have key := compare_go b1 o1 x.1.2.length c1 b2 o2 y.1.2.length c2 x.1.2 y.1.2 (sortWorld enE w b 0 m dk os) rfl rfl x.2.1.2 y.2.1.2
    (fun j hj => (sw_cell enE w b m b1 (o1 + j) dk os hl1 n1).trans (hc1 j hj)) (fun j hj => (sw_cell enE w b m b2 (o2 + j) dk os hl2 n2).trans (hc2 j hj))
  rw [← e1, ← e2] at key
  refine key.mono ?_
  rintro e w' ⟨he, hw⟩
  exact ⟨he, 0, #[], by rw [hw, grow_empty]; rfl⟩
theorem run_cmp (args : Array Value) (w : World) : (callFunc 85 args).run Try.prog w = .ok (.enter 85 args) w :=
  run_callFunc_enter ⟨_, _, Try.func85, rfl, by kernel_rfl⟩ args w
/-- slices.SortFunc over a row of lists: what it leaves is whatever sorted list has the same elements -/
theorem slices_SortFunc_ints (e : Nat) (xss yss : List (List Int)) (hl : xss.length ≤ 1048576) (h0 : xss ≠ []) (hne : ∀ xs ∈ xss, xs ≠ [] ∧ xs.length ≤ 1048576) (hp : yss.Perm xss) (hs : yss.Pairwise fun x y => ¬ cmpI y x < 0) :
    AC Try.prog 118 [.ow 0, .fn 85 []] [.sl e (.sl .int) xss] [] [.sl e (.sl .int) yss] := by
  refine ⟨⟨_, _, Try.func118, rfl, by kernel_rfl⟩, fun w bs A vs hok hvs => ?_⟩
  obtain ⟨v, r, rfl, ⟨b, e', t, xs', cur, hb, hx, hc, rfl⟩, ⟨v2, r2, rfl, ⟨vs2, rfl, hvs2⟩, h3⟩⟩ := hvs
  cases h3
  cases hvs2
  cases hx
  have hrow := hok.row 0 b _ hb rfl
  obtain ⟨hA, cur2, c1, c2, c3, c4⟩ := hrow
  rw [hc] at c1; cases c1
  have hbl := hok.lt b (List.mem_of_getElem? hb)
  have hbs : bs = [b] := by
    have hlen := hok.len
    match bs, hb, hlen with
    | [x], hb, _ => simp at hb; rw [hb]
  subst hbs
  obtain ⟨l, hll, hlp⟩ := exList (α := El w A) xss.length (fun j x => cur[j]? = some (enE x) ∧ xss[j]? = some x.1.2) (fun j hj => by
    obtain ⟨cv, g1, g2⟩ := c4 j hj
    exact ⟨⟨(cv, xss[j]), hne _ (List.getElem_mem hj), g2⟩, g1, List.getElem?_eq_getElem hj⟩)
  have hl0 : 0 < l.length := by rw [hll]; exact List.length_pos_iff.2 h0
  haveI : Inhabited (El w A) := ⟨l[0]⟩
  have hmap : l.map (fun x => x.1.2) = xss := by
    apply List.ext_getElem?
    intro j
    rw [List.getElem?_map]
    by_cases hj : j < l.length
    · rw [List.getElem?_eq_getElem hj, (hlp j hj).2]; rfl
    · rw [List.getElem?_eq_none (by omega), List.getElem?_eq_none (by omega)]; rfl
  have hH : Holds enE w b 0 l.toArray := by
    intro j hj
    have hj' : j < l.length := by simpa using hj
    refine ⟨?_, frozen_row w b _ cur e hc⟩
    rw [Nat.zero_add, cell_of_row w b j cur e (0, 0) hc, (hlp j hj').1]
    simp [hj']
  have key := Try.slices_SortFunc enE enE_one cfE swoE 85 #[] b 0 cur.size l.toArray w run_cmp (cmpLaysE b _ hA) hH hbl (by simp; omega)
  rw [List.size_toArray, hll] at key
  refine key.mono ?_
  rintro ex w' ⟨rfl, d', n, os, hperm, hsort, rfl⟩
  have hsz' : d'.size = xss.length := by have := hperm.1; simpa [hll] using this
  have hys : d'.toList.map (fun x => x.1.2) = yss := by
    have hpp : d'.toList.Perm l := by
      have h1 := hperm.2.2
      have e1 : d'.extract 0 xss.length = d' := by rw [← hsz']; exact Array.extract_size
      have e2 : l.toArray.extract 0 xss.length = l.toArray := by rw [← hll, ← List.size_toArray]; exact Array.extract_size
      rw [e1, e2] at h1
      simpa using h1
    refine List.Perm.eq_of_pairwise (le := fun x y => ¬ cmpI y x < 0) (fun a b _ _ h1 h2 => ?_) ?_ hs ?_
    · have := cmpI_neg a b
      exact cmpI_eq _ _ (by omega)
    · rw [List.pairwise_map, List.pairwise_iff_getElem]
      intro i j hi hj hij
      have hi' : i < d'.size := by simpa using hi
      have hj' : j < d'.size := by simpa using hj
      have := hsort i j (Nat.zero_le _) hij (by omega)
      rw [getElem!_pos d' j hj', getElem!_pos d' i hi'] at this
      have this : ¬ cmpI d'[j].1.2 d'[i].1.2 < 0 := of_decide_eq_false this
      simpa using this
    · have h1 := hpp.map (fun x : El w A => x.1.2)
      rw [hmap] at h1
      exact h1.trans hp.symm
  have hyl : yss.length = xss.length := hp.length_eq
  have hold : ∀ k, k < w.heap.size → k ≠ b → (sortWorld enE w b 0 n d' os).heap[k]? = w.heap[k]? := by
    intro k hk hkb
    unfold sortWorld
    rw [heap_grow_old _ _ (by simpa using hk), putRow_other _ _ _ _ _ hkb]; rfl
  have hnew : (sortWorld enE w b 0 n d' os).heap[b]? = some (.cells (putCells enE 0 d' cur) e (0, 0)) := by
    unfold sortWorld
    rw [heap_grow_old _ _ (by simpa using hbl)]
    exact putRow_block enE (Go.Sort.ahead w n) b _ cur e hc
  have hsz : (putCells enE 0 d' cur).size = cur.size := by simp [putCells]
  have hws : w.heap.size ≤ (sortWorld enE w b 0 n d' os).heap.size := by simp [sortWorld]
  refine ⟨.tuple #[], [b], A, rfl, ⟨rfl, hok.nodup, fun x hx => ?_, fun x hx => ?_, ?_⟩, ⟨[], rfl, rfl⟩, ⟨rfl, rfl, rfl, hws, ?_, fun x hx => .inl hx, fun x hx => .inl hx⟩, ⟨[], rfl⟩, ?_, fun x hx => hx⟩
  · have := hok.lt x hx; omega
  · have := hok.old x hx; omega
  · intro i b2 r hb2 hr2
    match i, hb2, hr2 with
    | 0, hb2, hr2 =>
      simp at hb2 hr2
      subst hb2; subst hr2
      refine ⟨hA, _, hnew, by rw [hsz, hyl]; exact c2, by rw [hsz]; exact c3, fun j hj => ?_, trivial⟩
      have hj' : j < d'.size := by omega
      refine ⟨enE d'[j], ?_, ?_⟩
      · rw [putCells_get _ _ _ _ hj' (by omega), getElem!_pos d' j hj']
      · have e3 : yss[j] = d'[j].1.2 := by simp [← hys]
        rw [e3]
        exact Rd.ext (fun k hk hlt => ⟨hold k hlt (fun e => hA (e ▸ hk)), hk⟩) (.sl .int) _ _ d'[j].2.2
    | i + 1, hb2, _ => simp at hb2
  · intro k hk hkb
    exact hold k hk (by simpa using hkb)
  · intro x hx cur2 e2 hc2
    simp at hx; subst hx
    rw [hc] at hc2; cases hc2
    exact ⟨_, hnew, hsz⟩
end Go.Proofs.Ytbnonelkdgkpdaa
