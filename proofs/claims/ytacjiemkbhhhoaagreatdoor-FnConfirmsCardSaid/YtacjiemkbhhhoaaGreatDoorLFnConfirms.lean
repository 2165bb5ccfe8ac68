/-
  a session counts necklaces, cubes, words, graphs and trees. (P9)
-/
import Derived.Test.YtacjiemkbhhhoaaGreatDoorRows
import Derived.Test.YtacjiemkbhhhoaaGreatDoorTie
import Derived.Test.YtacjiemkbhhhoaaGreatDoorCards
import Derived.Test.YtacjiemkbhhhoaaGreatDoorHh
import Derived.WalkKit
import Derived.ProofKit
import Derived.OpenShut
import Derived.ShutString
import Derived.ChangeOld
import Derived.Below
import Derived.LaidMore
import Derived.Lay
import Derived.SevenTiedAt
import Derived.Stop.Joined
namespace Go.Proofs.YtacjiemkbhhhoaaGreatDoor.Ow
open Go Go.RowKit
/-- the same, where the arguments are data that may be kept -/
theorem AC.lawS {P : Program} {f : FuncId} {args : List AV} (h : AC P f args [] [.d true .bool true] []) {w : World} {vs : List Value} (hv : Vs w [] (fun b => b < w.heap.size) [] args vs) :
    Calls P f vs.toArray w fun e w' => e = .returned (.bool true) ∧ Below w.heap.size w w' := by
  refine (h.2 w [] (fun b => b < w.heap.size) vs ⟨rfl, by simp, fun b hb => by simp at hb, fun b hb => hb, fun i b r hb => by simp at hb⟩ hv).mono ?_
  rintro e w' ⟨rv, bs', A', rfl, _, hres, hstep, _, _, _⟩
  have hr : rv = .bool true := hres
  subst hr
  exact ⟨rfl, hstep.os, hstep.tape, hstep.output, hstep.size, fun k hk => hstep.block k hk (by simp)⟩
/-- A slice of integers that came in (the shell's word): it is nil; or it leads to a row of 'cap' cells, the numbers 'zs'. -/
def IsRow (k : IntKind) (w : World) (a : Option Addr) (len cap : Nat) (zs : List Int) : Prop :=
  (a = none ∧ len = 0 ∧ cap = 0 ∧ zs = []) ∨
  ∃ x, a = some x ∧ len ≤ cap ∧ cap ≤ maxLen ∧ zs.length = cap ∧ (∀ i, i < zs.length → w.cell? (x.add i) = some (.int k (zs.getD i 0))) ∧ ∀ n ∈ zs, (Lit.int k n).wf = true
theorem isRow_rd8 {w : World} {a : Option Addr} {len cap : Nat} {zs : List Int} (h : IsRow .u8 w a len cap zs) : V w [] (fun b => b < w.heap.size) [] (.d true (.sl .u8) (zs.take len)) (.slice a len cap) := by
  rcases h with ⟨rfl, rfl, rfl, rfl⟩ | ⟨x, rfl, h1, h2, h3, h4, _⟩
  · exact ⟨none, 0, rfl, Nat.le_refl _, fun _ => rfl, .inl rfl⟩
  · have hl : (zs.take len).length = len := by simp; omega
    refine ⟨some x, cap, by rw [hl], by rw [hl]; exact h1, (fun hh => by simp at hh), ?_⟩
    by_cases h0 : len = 0
    · left; subst h0; simp
    · right
      obtain ⟨b, o, sp⟩ := x
      have hsp : sp = none := by
        have := h4 0 (by omega)
        unfold Addr.add at this
        rw [if_pos rfl] at this
        cases sp with
        | none => rfl
        | some s =>
          unfold World.cell? at this
          split at this
          · simp at this
          · cases this
      subst hsp
      refine ⟨b, o, rfl, cell_lt (o := o) (by have := h4 0 (by omega); rwa [addr_add] at this), fun j hj => ⟨.int .u8 (zs.getD j 0), ?_, ?_⟩⟩
      · have := h4 j (by omega)
        rwa [addr_add] at this
      · show Value.int .u8 (zs.getD j 0) = .int .u8 ((zs.take len)[j]'hj)
        rw [List.getElem_take, getD_get _ _ _ (by omega)]
end Go.Proofs.YtacjiemkbhhhoaaGreatDoor.Ow
namespace Go.Proofs.YtacjiemkbhhhoaaGreatDoor.fnConfirms
open Go.Proofs.YtacjiemkbhhhoaaGreatDoor.Ow
open Go.ChangeShapes Go.WideShapes Go.ChangeAt Go.RowKit
open Go.ChangeMaps (open_string shut_string)
set_option linter.unusedVariables false

theorem own : ownKnob Tryz.prog.godebug = none := by kernel_rfl
theorem laidOut : laidOutB Tryz.prog = true := by kernel_rfl

theorem walk (a0 : Option Addr) (len0 cap0 : Nat) (z0 : List Int) (w : World) (w0 : IsRow .u8 w a0 len0 cap0 z0) :
    Calls Tryz.prog 3 #[.slice a0 len0 cap0] w fun e w' => e = .returned (.bool true) ∧ Below w.heap.size w w' := by
  refine ((laws_FnConfirms (z0.take len0)).lawS (w := w) (vs := [.slice a0 len0 cap0]) ⟨_, _, rfl, isRow_rd8 w0, rfl⟩).mono ?_
  rintro e w' ⟨he, hb⟩
  exact ⟨he, hb⟩

set_option maxRecDepth 100000 in
theorem lifted (os : Os) (started : os.Started) (H : Type) (enc : TypeId × Value → H) :
    ReturnsInHanded {} Tryz.checked os 3 .any (fun w args => (Rows.fnConfirmsSpec.pre enc Tryz.prog Tryz.f3 Rows.fnConfirmsRow.domain false w args ∧ laidMetH Tryz.prog Rows.fnConfirmsRow.laid w) ∧ sizedMet enc Tryz.prog Tryz.f3 (OpenSpec.ofChange Rows.fnConfirmsSpec) false w args) (Rows.fnConfirmsSpec.post enc Tryz.prog Tryz.f3 false true false false) := by
  refine returnsInHanded_of_change_and (C := Tryz.checked) (X := fun w _ => laidMetH Tryz.prog Rows.fnConfirmsRow.laid w) (fun _ _ _ hh h => h.of_heap hh) own started (by kernel_rfl) Tryz.func3
    (ChangeSpec.witness_shaped (enc := enc) (C := Tryz.checked) (os := os) (X := fun w _ => laidMetH Tryz.prog Rows.fnConfirmsRow.laid w) false (World.laidAll Tryz.prog os Rows.fnConfirmsRow.laid) #[.slice none 0 0] 8 (World.laidAll_os _ _ _)
      (World.shaped_of_ZipB (by kernel_rfl) (by kernel_rfl)) (by kernel_rfl) (by kernel_rfl) (by kernel_rfl)
      (by rw [MakeChecks.laidMetH_plain _ _ _ (by kernel_rfl)]; exact laidMet_laidAll _ (by kernel_rfl) (by kernel_rfl))) ?_
  intro W base args ds gs before hval0 hW hcnd _ hL _
  have hval : ∀ (j : Nat) t v, Tryz.f3.params[j]? = some t → args[j]? = some v → Value.okWide Tryz.prog W .any base t v := hval0
  have hW' := hW
  obtain ⟨p, q, hA0, hV, rfl, hfz, hnd⟩ := hW
  have hA : DataW.TrodAll enc Tryz.prog W 0 (fun _ => true) true Tryz.f3.params.toList args.toList ds p := hA0
  rw [Tryz.params3] at hA hval
  obtain ⟨v0, vs0, d0, ds0, p0, q0, hargs, rfl, rfl, h0, r0⟩ := trodAll_cons hA
  obtain ⟨rfl, rfl, rfl⟩ := trodAll_nil r0
  obtain rfl : args = #[v0] := by cases args; simp_all
  obtain ⟨rfl, rfl⟩ := trodVars_none hV
  obtain ⟨a0, len0, cap0, rfl⟩ := okWide_slice Tryz.underlying22 (hval 0 22 v0 rfl rfl)
  have k0 := h0
  have lt0 : ∀ x ∈ p0, x.block < W.heap.size := by obtain ⟨m, hm⟩ := k0; exact DataW.trod_lt m _ _ _ hm
  obtain ⟨z0, w0⟩ : ∃ zs, IsRow .u8 W a0 len0 cap0 zs := by
    obtain ⟨fuel, hf⟩ := h0
    rcases open_ints Tryz.underlying22 Tryz.underlying5 (by kernel_rfl) hf with ⟨hcs, _⟩ | ⟨x, l, c, zs, hcs, _, hl, hm, hz, _, hcell, hwz⟩
    · simp [Value.cells] at hcs
      obtain ⟨rfl, rfl, rfl⟩ := hcs
      exact ⟨[], .inl ⟨rfl, rfl, rfl, rfl⟩⟩
    · simp [Value.cells] at hcs
      obtain ⟨rfl, rfl, rfl⟩ := hcs
      exact ⟨zs, .inr ⟨_, rfl, hl, hm, by simpa using hz, hcell, hwz⟩⟩
  clear hA0 hval0
  refine (walk a0 len0 cap0 z0 W w0).mono fun e W' ⟨he, bel⟩ => ?_
  subst he
  exact ⟨_, rfl, _, _, _, [], _, [], hW', trodAll_mk1 (shut_bool Tryz.underlying4 _), (trodAll_cons_mk (Below.trod laidOut (by kernel_rfl) (of_decide_eq_true (by kernel_rfl)) k0 bel lt0) trodAll_mk0), rfl, bel.frame _, fun h => by cases h⟩

theorem named : Tryz.pinned.checked.prog.funcNamed Rows.fnConfirmsRow.func = some 3 := by kernel_rfl
theorem joined : joinedFacts Tryz.pinned.checked.prog 3 Tryz.f3 Rows.fnConfirmsSpec Rows.fnConfirmsRow = true := by kernel_rfl
theorem over : Rows.fnConfirmsRow.holds Tryz.pinned (OpenSpec.ofChange Rows.fnConfirmsSpec) :=
  OpenClaim.holds_of_wide 3 Tryz.f3 rfl rfl rfl rfl rfl rfl rfl ⟨rfl, rfl, rfl, rfl, rfl⟩ rfl rfl rfl rfl rfl named Tryz.func3 joined
    (of_decide_eq_true (by kernel_rfl)) (by unfold Func.isWrapper; first | (rw [if_pos (by decide +kernel)]; kernel_rfl) | (rw [if_neg (by decide +kernel)]; exact ⟨rfl, rfl⟩))
    (fun os started H enc _ => lifted os started H enc)

/-- the statement -/
theorem proved : Rows.FnConfirmsSaid := over

/-- the card -/
theorem card_proved : Rows.FnConfirmsCardSaid :=
  Claim7.holds_tied_plain_at .later [] [.data, .pinned] true (true, "02aacfe7e0510e83cb1bedaad95d9a1d342073d4e7a2936dcab13533d435b17f") false proved (fun _ h => by cases h) (by kernel_rfl) (fun _ h => by cases h) fnConfirms_row_tie rfl ⟨rfl, rfl⟩ (by kernel_rfl) rfl
    (fun f fn hf hfn => by
      obtain rfl : f = 3 := Option.some.inj (named.symm.trans hf) |>.symm
      obtain rfl : fn = Tryz.f3 := (Option.some.inj (Tryz.func3.symm.trans hfn)).symm
      exact ⟨by kernel_rfl, fun j t ht => by
        have hall : (Tryz.f3.params.toList.all fun u => !Tryz.prog.wantsStandIn u) = true := by kernel_rfl
        have hm : t ∈ Tryz.f3.params.toList := by simpa using Array.mem_of_getElem? ht
        exact (show Tryz.prog.wantsStandIn t = false by simpa using List.all_eq_true.1 hall t hm)⟩)
    (by kernel_rfl)
#print axioms card_proved
end Go.Proofs.YtacjiemkbhhhoaaGreatDoor.fnConfirms
