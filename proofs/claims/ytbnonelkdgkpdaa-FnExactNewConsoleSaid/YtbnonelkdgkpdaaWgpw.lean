/-
  slices.SortFunc over lists that lie in blocks of their own; the groups that the program finds, so.
-/
import Derived.Test.YtbnonelkdgkpdaaPls
import Derived.Test.YtbnonelkdgkpdaaWsw
import Derived.Test.YtbnonelkdgkpdaaWsym
import Derived.Test.YtbnonelkdgkpdaaWcan
set_option linter.unusedVariables false
namespace Go.Proofs.Ytbnonelkdgkpdaa
open Go Go.RowKit Go.Sort Go.Lib Go.Proofs.Ytbnonelkdgkpdaa.Ow
/-- two slices lie in different blocks -/
def apR (u v : Value) : Prop := ∀ (p q : Addr) (l c l' c' : Nat), u = .slice (some p) l c → v = .slice (some q) l' c' → l ≠ 0 → l' ≠ 0 → p.block ≠ q.block
theorem apR_symm {u v : Value} (h : apR u v) : apR v u := fun p q l c l' c' h1 h2 k1 k2 e => h q p l' c' l c h2 h1 k2 k1 e.symm
/-- a new row that is handed back, as data that keeps the whole of its block -/
theorem AC.frzw1 {P : Program} {f : FuncId} {args : List AV} {e : TypeId} {d : Bool} {xs : List Int} (h : AC P f args [] [.ow 0] [.sl e .int xs]) : AC P f args [] [.d true (.sw e d) xs] [] := by
  refine ⟨h.1, fun w bs A vs hr hv => (h.2 w bs A vs hr hv).mono ?_⟩
  rintro ex w' ⟨rv, bs', A', rfl, hrok, hres, hstep, ⟨new, rfl⟩, hstay, hup⟩
  have hbs : bs = [] := List.eq_nil_of_length_eq_zero (by rw [hr.len]; rfl)
  subst hbs
  obtain ⟨b, e2, t2, xs2, cur, h1, h2, h3, h4⟩ := hres
  cases h2
  obtain ⟨hA, cur2, c1, c2, c3, c4⟩ := hrok.row 0 b _ h1 rfl
  rw [h3] at c1; cases c1
  have hb := List.mem_of_getElem? h1
  have hnew : w.heap.size ≤ b := by
    rcases hstep.sbs b hb with h | h
    · simp at h
    · exact h
  refine ⟨rv, [], fun x => A' x ∨ x = b, rfl, ⟨rfl, List.nodup_nil, fun b hb => by simp at hb, fun x hx => ?_, fun i b r hb => by simp at hb⟩, ?_, ⟨hstep.os, hstep.tape, hstep.output, hstep.size, fun k hk _ => hstep.block k hk (by simp), fun b hb => by simp at hb, fun x hx => ?_⟩, ⟨[], rfl⟩, fun b hb => by simp at hb, fun x hx => .inl (hup x hx)⟩
  · rcases hx with hx | hx
    · exact hrok.old x hx
    · rw [hx]; exact hrok.lt b hb
  · show RdW _ _ _ _ _
    by_cases hx : xs = []
    · subst hx; exact .inl ⟨rfl, _, _, h4, fun hh => by cases hh⟩
    · refine .inr ⟨hx, b, cur, h4, .inr rfl, h3, c2, c3, fun j hj => ?_⟩
      obtain ⟨cv, k1, k2⟩ := c4.c j hj
      rw [k1]; exact congrArg some k2
  · rcases hx with hx | hx
    · rcases hstep.sA x hx with h | h | h
      · exact .inl h
      · exact .inr (.inl h)
      · simp at h
    · exact .inr (.inl (by rw [hx]; exact hnew))
/-- slices.SortFunc over a row of lists that lie in blocks of their own: what it leaves is whatever sorted list has the same elements -/
theorem slices_SortFunc_sw (e e0 : Nat) (xss yss : List (List Int)) (hl : xss.length ≤ 1048576) (h0 : xss ≠ []) (hne : ∀ xs ∈ xss, xs ≠ [] ∧ xs.length ≤ 1048576) (hp : yss.Perm xss) (hs : yss.Pairwise fun x y => ¬ cmpI y x < 0) :
    AC Try.prog 118 [.ow 0, .fn 85 []] [.sl e (.sw e0 true) xss] [] [.sl e (.sw e0 true) yss] := by
  refine ⟨⟨_, _, Try.func118, rfl, by kernel_rfl⟩, fun w bs A vs hok hvs => ?_⟩
  obtain ⟨v, r, rfl, ⟨b, e', t, xs', cur, hb, hx, hc, rfl⟩, ⟨v2, r2, rfl, ⟨vs2, rfl, hvs2⟩, h3⟩⟩ := hvs
  cases h3
  cases hvs2
  cases hx
  have hrow := hok.row 0 b _ hb rfl
  obtain ⟨hA, cur2, c1, c2, c3, c4⟩ := hrow
  rw [hc] at c1; cases c1
  have hbl := hok.lt b (List.mem_of_getElem? hb)
  have hbs : bs = [b] := by
    have hlen := hok.len
    match bs, hb, hlen with
    | [x], hb, _ => simp at hb; rw [hb]
  subst hbs
  obtain ⟨l, hll, hlp⟩ := exList (α := El w A) xss.length (fun j x => cur[j]? = some (enE x) ∧ xss[j]? = some x.1.2 ∧ RdW w A e0 x.1.2 x.1.1) (fun j hj => by
    obtain ⟨cv, g1, g2⟩ := c4 j hj
    exact ⟨⟨(cv, xss[j]), hne _ (List.getElem_mem hj), RdW.rd g2⟩, g1, List.getElem?_eq_getElem hj, g2⟩)
  have hl0 : 0 < l.length := by rw [hll]; exact List.length_pos_iff.2 h0
  haveI : Inhabited (El w A) := ⟨l[0]⟩
  have hmap : l.map (fun x => x.1.2) = xss := by
    apply List.ext_getElem?
    intro j
    rw [List.getElem?_map]
    by_cases hj : j < l.length
    · rw [List.getElem?_eq_getElem hj, (hlp j hj).2.1]; rfl
    · rw [List.getElem?_eq_none (by omega), List.getElem?_eq_none (by omega)]; rfl
  have hH : Holds enE w b 0 l.toArray := by
    intro j hj
    have hj' : j < l.length := by simpa using hj
    refine ⟨?_, frozen_row w b _ cur e hc⟩
    rw [Nat.zero_add, cell_of_row w b j cur e (0, 0) hc, (hlp j hj').1]
    simp [hj']
  have key := Try.slices_SortFunc enE enE_one cfE swoE 85 #[] b 0 cur.size l.toArray w run_cmp (cmpLaysE b _ hA) hH hbl (by simp; omega)
  rw [List.size_toArray, hll] at key
  refine key.mono ?_
  rintro ex w' ⟨rfl, d', n, os, hperm, hsort, rfl⟩
  have hsz' : d'.size = xss.length := by have := hperm.1; simpa [hll] using this
  have hpp : d'.toList.Perm l := by
    have h1 := hperm.2.2
    have e1 : d'.extract 0 xss.length = d' := by rw [← hsz']; exact Array.extract_size
    have e2 : l.toArray.extract 0 xss.length = l.toArray := by rw [← hll, ← List.size_toArray]; exact Array.extract_size
    rw [e1, e2] at h1
    simpa using h1
  have hwh : ∀ x ∈ d'.toList, RdW w A e0 x.1.2 x.1.1 := fun x hx => by
    obtain ⟨j, hj, rfl⟩ := List.getElem_of_mem (hpp.subset hx)
    exact (hlp j hj).2.2
  have hap : (d'.toList.map enE).Pairwise apR := by
    refine (List.Perm.pairwise_iff (fun {x y} h => apR_symm h) (hpp.map enE)).2 ?_
    rw [List.pairwise_iff_getElem]
    intro i j hi hj hij p q l1 c1 l2 c2 h1 h2 k1 k2
    have hi' : i < l.length := by simpa using hi
    have hj' : j < l.length := by simpa using hj
    simp only [List.getElem_map] at h1 h2
    have hdd : DstV cur xss.length := c4.d
    exact hdd i j hij (by omega) p q l1 c1 l2 c2 (by rw [(hlp i hi').1, h1]) (by rw [(hlp j hj').1, h2]) k1 k2
  have hys : d'.toList.map (fun x => x.1.2) = yss := by
    refine List.Perm.eq_of_pairwise (le := fun x y => ¬ cmpI y x < 0) (fun a b _ _ h1 h2 => ?_) ?_ hs ?_
    · have := cmpI_neg a b
      exact cmpI_eq _ _ (by omega)
    · rw [List.pairwise_map, List.pairwise_iff_getElem]
      intro i j hi hj hij
      have hi' : i < d'.size := by simpa using hi
      have hj' : j < d'.size := by simpa using hj
      have := hsort i j (Nat.zero_le _) hij (by omega)
      rw [getElem!_pos d' j hj', getElem!_pos d' i hi'] at this
      have this : ¬ cmpI d'[j].1.2 d'[i].1.2 < 0 := of_decide_eq_false this
      simpa using this
    · have h1 := hpp.map (fun x : El w A => x.1.2)
      rw [hmap] at h1
      exact h1.trans hp.symm
  have hyl : yss.length = xss.length := hp.length_eq
  have hold : ∀ k, k < w.heap.size → k ≠ b → (sortWorld enE w b 0 n d' os).heap[k]? = w.heap[k]? := by
    intro k hk hkb
    unfold sortWorld
    rw [heap_grow_old _ _ (by simpa using hk), putRow_other _ _ _ _ _ hkb]; rfl
  have hnew : (sortWorld enE w b 0 n d' os).heap[b]? = some (.cells (putCells enE 0 d' cur) e (0, 0)) := by
    unfold sortWorld
    rw [heap_grow_old _ _ (by simpa using hbl)]
    exact putRow_block enE (Go.Sort.ahead w n) b _ cur e hc
  have hsz : (putCells enE 0 d' cur).size = cur.size := by simp [putCells]
  have hws : w.heap.size ≤ (sortWorld enE w b 0 n d' os).heap.size := by simp [sortWorld]
  refine ⟨.tuple #[], [b], A, rfl, ⟨rfl, hok.nodup, fun x hx => ?_, fun x hx => ?_, ?_⟩, ⟨[], rfl, rfl⟩, ⟨rfl, rfl, rfl, hws, ?_, fun x hx => .inl hx, fun x hx => .inl hx⟩, ⟨[], rfl⟩, ?_, fun x hx => hx⟩
  · have := hok.lt x hx; omega
  · have := hok.old x hx; omega
  · intro i b2 r hb2 hr2
    match i, hb2, hr2 with
    | 0, hb2, hr2 =>
      simp at hb2 hr2
      subst hb2; subst hr2
      refine ⟨hA, _, hnew, by rw [hsz, hyl]; exact c2, by rw [hsz]; exact c3, fun j hj => ?_, ?_⟩
      rotate_left
      · intro i j hij hj p q l1 q1 l2 q2 g1 g2 k1 k2
        have hi' : i < d'.size := by omega
        have hj' : j < d'.size := by omega
        rw [putCells_get _ _ _ _ hi' (by omega), getElem!_pos d' i hi'] at g1
        rw [putCells_get _ _ _ _ hj' (by omega), getElem!_pos d' j hj'] at g2
        have := (List.pairwise_iff_getElem.1 hap) i j (by simpa using hi') (by simpa using hj') hij p q l1 q1 l2 q2 (by simpa using g1) (by simpa using g2) k1 k2
        exact this
      have hj' : j < d'.size := by omega
      refine ⟨enE d'[j], ?_, ?_⟩
      · rw [putCells_get _ _ _ _ hj' (by omega), getElem!_pos d' j hj']
      · have e3 : yss[j] = d'[j].1.2 := by simp [← hys]
        rw [e3]
        exact RdW.ext (fun k hk hlt => ⟨hold k hlt (fun e => hA (e ▸ hk)), hk⟩) (hwh d'[j] (by simp))
    | i + 1, hb2, _ => simp at hb2
  · intro k hk hkb
    exact hold k hk (by simpa using hkb)
  · intro x hx cur2 e2 hc2
    simp at hx; subst hx
    rw [hc] at hc2; cases hc2
    exact ⟨_, hnew, hsz⟩
/-- the closure of impl.GroupOf -/
theorem impl_GroupOf_1w (sh : Bool) (x q : List Int) (hx : x.length ≤ 1048576) (hq : q.length ≤ 1048576) : AC Try.prog 122 [.d sh (.sl .int) x, .ptr 0 0] [.box 25 (.d true (.sw 3 false) q)] [.d true .bool (decide (x = q))] [.box 25 (.d true (.sw 3 false) q)] := by
  refine AC_of tauOk 7 1 [3] Try.func122 rfl (by kernel_rfl) rfl rfl rfl rfl rfl ?_
  refine ⟨rfl, [], false, _, _, slices_Equal_int sh true x q hx hq, List.nodup_nil, rfl, rfl, trivial, fun h => ?_, fun h => ?_⟩
  · exact ⟨none, ⟨retB h, trivial⟩, rfl, rfl⟩
  · exact ⟨none, ⟨retB h, trivial⟩, rfl, rfl⟩
/-- impl.GroupOf -/
theorem impl_GroupOf_w (sh : Bool) (n : Nat) (gens R S : List (List Int)) (h1 : 1 ≤ n) (hn : n < 11) (hg : GenP n gens) (hR : bfsI n gens 200 0 [idL n] = some R)
    (hp : S.Perm R) (hs : S.Pairwise fun x y => ¬ cmpI y x < 0) (hS : S.length ≤ 120 ∧ S ≠ [] ∧ ∀ x ∈ S, x ≠ [] ∧ x.length ≤ 1048576) :
    AC Try.prog 108 [I (n : Nat), .d sh (.sl (.sl .int)) gens] [] [.ow 0, .d true .bool true] [.sl 25 (.sw 3 true) S] := by
  have hgl := hg.1
  refine AC_of (tauSOk true) 70 0 [4, 5] Try.func108 rfl (by kernel_rfl) rfl rfl rfl rfl rfl ?_
  refine ⟨fun h => by omega, fun _ => ?_⟩
  refine ⟨fun h => by omega, fun _ => ?_⟩
  refine ⟨Nat, fun k => ⟨[(0, I (n : Nat)), (1, .d sh (.sl (.sl .int)) gens), (19, .d sh (.sl (.sl .int)) gens), (20, I gens.length), (21, I (k : Nat))], []⟩, fun k => k ≤ gens.length, fun k => gens.length - k, 0, Nat.zero_le _,
    ⟨⟨rfl, rfl⟩, ⟨rfl, rfl, rfl, rfl, rfl, trivial⟩, trivial⟩, fun k hk => ?_⟩
  dsimp only at hk
  refine ⟨fun h2 => ?_, fun h2 => ?_⟩
  · have hk2 : k < gens.length := by omega
    have hp := hg.2 k hk2
    refine ⟨k, rfl, hk2, [], false, _, _, impl_PermOk sh (gens.getD k []) (by omega), List.nodup_nil, rfl, rfl, trivial, fun h3 => ?_, fun h3 => by rw [hp.1] at h3; cases h3⟩
    refine ⟨fun h4 => (h4 (by omega)).elim, fun _ => ?_⟩
    exact ⟨((k + 1 : Nat) : Int), w64_eq (by omega) (by omega) (by omega), k + 1, by dsimp only; omega, by dsimp only; omega, ⟨rfl, rfl⟩, ⟨rfl, rfl, rfl, rfl, rfl, trivial⟩, trivial⟩
  · clear h2
    refine ⟨[], false, _, _, AC.frzw1 (d := false) (impl_IdentityPerm n h1 (by omega)), List.nodup_nil, rfl, rfl, trivial, ?_⟩
    refine ⟨rfl, by decide, true, Nat.le_refl 1, ?_⟩
    refine ⟨Nat × List (List Int), fun i => ⟨[(0, I (n : Nat)), (1, .d sh (.sl (.sl .int)) gens), (8, .ow 0), (9, I (i.1 : Nat))], [.sl 25 (.sw 3 true) i.2]⟩,
      fun i => i.1 ≤ 200 ∧ bfsI n gens (200 - i.1) i.1 i.2 = some R, fun i => 200 - i.1, (0, [idL n]), ⟨Nat.zero_le _, hR⟩,
      ⟨⟨rfl, rfl⟩, ⟨rfl, rfl, rfl, rfl, trivial⟩, rfl, trivial⟩, ?_⟩
    rintro ⟨a, q⟩ ⟨ha, hb⟩
    dsimp only at ha hb
    obtain ⟨f, hf, hcase⟩ := bfsI_some hb
    refine ⟨fun h3 => ?_, fun h3 => ?_⟩
    · dsimp only at h3
      rcases hcase with ⟨haq, o, ho, hR2⟩ | ⟨haq, _⟩
      · refine ⟨Nat × List (List Int), fun i => ⟨[(0, I (n : Nat)), (1, .d sh (.sl (.sl .int)) gens), (8, .ow 0), (9, I (a : Nat)), (44, .d sh (.sl (.sl .int)) gens), (45, I gens.length), (46, I (i.1 : Nat))], [.sl 25 (.sw 3 true) i.2]⟩,
          fun i => i.1 ≤ gens.length ∧ innI n a (gens.drop i.1) i.2 = some o, fun i => gens.length - i.1, (0, q), ⟨Nat.zero_le _, ho⟩,
          ⟨⟨rfl, rfl⟩, ⟨rfl, rfl, rfl, rfl, rfl, rfl, rfl, trivial⟩, rfl, trivial⟩, ?_⟩
        rintro ⟨j, q'⟩ ⟨hj, hin⟩
        dsimp only at hj hin
        refine ⟨fun h4 => ?_, fun h4 => ?_⟩
        · dsimp only at h4
          have hj2 : j < gens.length := by omega
          have hp := hg.2 j hj2
          rw [drop_c gens j [] hj2] at hin
          obtain ⟨⟨⟨c2, c3⟩, c4, c5⟩, c6⟩ := innI_cons hin
          have c7 := okP_iff c4
          have hel := exL_len (q'.getD a []) (gens.getD j [])
          refine ⟨j, rfl, hj2, a, rfl, c3, ?_⟩
          refine ⟨[], false, _, _, AC.frzw1 (d := false) (impl_compose true sh (q'.getD a []) (gens.getD j []) (by omega) (fun i hi => by rw [hp.2]; exact c7.2 i hi)), List.nodup_nil, rfl, rfl, trivial, ?_⟩
          have hql : ∀ i, i < q'.length → (q'.getD i []).length ≤ 1048576 := fun i hi => by have := c5 i hi; omega
          refine ⟨rfl, rfl, [1], false, _, _, slices_ContainsFunc_ints 122 25 (.sw 3 false) (exL (q'.getD a []) (gens.getD j [])) (fun x => decide (x = exL (q'.getD a []) (gens.getD j []))) false q' (by omega) (fun i hi => impl_GroupOf_1w false _ _ (hql i hi) (by omega)), by decide, rfl, rfl, ⟨⟨rfl, trivial⟩, trivial⟩, fun h5 => ?_, fun h5 => ?_⟩
          · rcases c6 with ⟨_, c6⟩ | ⟨c6, _⟩
            · exact ⟨((j + 1 : Nat) : Int), w64_eq (by omega) (by omega) (by omega), (j + 1, q'), ⟨by dsimp only; omega, c6⟩, by dsimp only; omega, ⟨rfl, rfl⟩, ⟨rfl, rfl, rfl, rfl, rfl, rfl, rfl, trivial⟩, rfl, trivial⟩
            · rw [c6] at h5; cases h5
          · rcases c6 with ⟨c6, _⟩ | ⟨_, c8, c6⟩
            · rw [c6] at h5; cases h5
            · refine ⟨fun h6 => by dsimp only at h6; omega, fun _ => ?_⟩
              have hap : ApW q' [exL (q'.getD a []) (gens.getD j [])] := ⟨Nat.le_refl 1, fun x hx y hy => by
                rw [List.mem_singleton.1 hy]
                obtain ⟨i, hi, rfl⟩ := List.getElem_of_mem hx
                have h8 := c5 i hi
                rw [getD_get _ _ _ hi] at h8
                refine ⟨by omega, fun e => ?_⟩
                rw [List.any_eq_true.2 ⟨_, List.getElem_mem hi, decide_eq_true e⟩] at h5
                cases h5⟩
              refine ⟨rfl, rfl, by decide, false, ?_⟩
              refine ⟨rfl, Nat.zero_le _, rfl, by simp only [List.length_cons, List.length_nil]; omega, rfl, hap, ?_⟩
              exact ⟨((j + 1 : Nat) : Int), w64_eq (by omega) (by omega) (by omega), (j + 1, q' ++ [exL (q'.getD a []) (gens.getD j [])]), ⟨by dsimp only; omega, c6⟩, by dsimp only; omega, ⟨rfl, rfl⟩, ⟨rfl, rfl, rfl, rfl, rfl, rfl, rfl, trivial⟩, rfl, trivial⟩
        · dsimp only at h4
          obtain rfl : j = gens.length := by omega
          rw [List.drop_length] at hin
          obtain rfl : o = q' := (Option.some.inj hin).symm
          exact ⟨((a + 1 : Nat) : Int), w64_eq (by omega) (by omega) (by omega), (a + 1, o), ⟨by dsimp only; omega, by dsimp only; rw [show 200 - (a + 1) = f from by omega]; exact hR2⟩, by dsimp only; omega, ⟨rfl, rfl⟩, ⟨rfl, rfl, rfl, rfl, trivial⟩, rfl, trivial⟩
      · omega
    · dsimp only at h3
      rcases hcase with ⟨haq, _⟩ | ⟨_, rfl⟩
      · omega
      · have hRl := hp.length_eq
        refine ⟨[0], false, _, _, slices_SortFunc_sw 25 3 q S (by omega) (by intro e; rw [e] at hRl; exact hS.2.1 (List.length_eq_zero_iff.1 hRl)) (fun x hx => hS.2.2 x (hp.symm.subset hx)) hp hs, by decide, rfl, rfl, ⟨⟨hRl, rfl, rfl⟩, trivial⟩, ?_⟩
        exact ⟨some 0, ⟨⟨rfl, rfl⟩, rfl, trivial⟩, ⟨rfl, rfl⟩, rfl⟩
end Go.Proofs.Ytbnonelkdgkpdaa
