/-
  The program's RunLine returns what the reference's returns, for all arguments.
-/
import Derived.Test.YtacjiemkbhhhoaaGreatDoorRows
import Derived.Test.YtacjiemkbhhhoaaGreatDoorTie
import Derived.Test.YtacjiemkbhhhoaaGreatDoorCards
import Derived.Test.YtacjiemkbhhhoaaGreatDoorJj
import Derived.WalkKit
import Derived.ProofKit
import Derived.OpenShut
import Derived.ShutString
import Derived.ChangeOld
import Derived.Below
import Derived.LaidMore
import Derived.Lay
import Derived.SevenTiedAt
import Derived.Stop.Joined
namespace Go.Proofs.YtacjiemkbhhhoaaGreatDoor.fnExactRunLine
open Go.Proofs.YtacjiemkbhhhoaaGreatDoor.Ow
open Go.ChangeShapes Go.WideShapes Go.ChangeAt Go.RowKit
open Go.ChangeMaps (open_string shut_string)
set_option linter.unusedVariables false

theorem own : ownKnob Tryz.prog.godebug = none := by kernel_rfl
theorem laidOut : laidOutB Tryz.prog = true := by kernel_rfl

theorem walk (a0 : Option Addr) (len0 cap0 : Nat) (z0 : List (List Int)) (a1 : ByteArray) (w : World) (w0 : IsRows w a0 len0 cap0 z0) (w1 : a1.size ≤ maxLen) :
    Calls Tryz.prog 6 #[.slice a0 len0 cap0, .string a1] w fun e w' => e = .returned (.bool true) ∧ Below w.heap.size w w' := by
  refine ((laws_FnExactRunLine false z0 w0.2.2 a1.data.toList).law (w := w) (vs := [.slice a0 len0 cap0, .string a1]) ⟨_, _, rfl, w0.1, ⟨_, _, rfl, rfl, rfl⟩⟩).mono ?_
  rintro e w' ⟨he, hb⟩
  exact ⟨he, hb⟩

set_option maxRecDepth 100000 in
theorem lifted (os : Os) (started : os.Started) (H : Type) (enc : TypeId × Value → H) :
    ReturnsInHanded {} Tryz.checked os 6 .any (fun w args => (Rows.fnExactRunLineSpec.pre enc Tryz.prog Tryz.f6 Rows.fnExactRunLineRow.domain false w args ∧ laidMetH Tryz.prog Rows.fnExactRunLineRow.laid w) ∧ sizedMet enc Tryz.prog Tryz.f6 (OpenSpec.ofChange Rows.fnExactRunLineSpec) false w args) (Rows.fnExactRunLineSpec.post enc Tryz.prog Tryz.f6 false true false false) := by
  refine returnsInHanded_of_change_and (C := Tryz.checked) (X := fun w _ => laidMetH Tryz.prog Rows.fnExactRunLineRow.laid w) (fun _ _ _ hh h => h.of_heap hh) own started (by kernel_rfl) Tryz.func6
    (ChangeSpec.witness_shaped (enc := enc) (C := Tryz.checked) (os := os) (X := fun w _ => laidMetH Tryz.prog Rows.fnExactRunLineRow.laid w) false (World.laidAll Tryz.prog os Rows.fnExactRunLineRow.laid) #[.slice none 0 0, .string ByteArray.empty] 8 (World.laidAll_os _ _ _)
      (World.shaped_of_ZipB (by kernel_rfl) (by kernel_rfl)) (by kernel_rfl) (by kernel_rfl) (by kernel_rfl)
      (by rw [MakeChecks.laidMetH_plain _ _ _ (by kernel_rfl)]; exact laidMet_laidAll _ (by kernel_rfl) (by kernel_rfl))) ?_
  intro W base args ds gs before hval0 hW hcnd _ hL _
  have hval : ∀ (j : Nat) t v, Tryz.f6.params[j]? = some t → args[j]? = some v → Value.okWide Tryz.prog W .any base t v := hval0
  have hW' := hW
  obtain ⟨p, q, hA0, hV, rfl, hfz, hnd⟩ := hW
  have hA : DataW.TrodAll enc Tryz.prog W 0 (fun _ => true) true Tryz.f6.params.toList args.toList ds p := hA0
  rw [Tryz.params6] at hA hval
  obtain ⟨v0, vs0, d0, ds0, p0, q0, hargs, rfl, rfl, h0, r0⟩ := trodAll_cons hA
  obtain ⟨v1, vs1, d1, ds1, p1, q1, rfl, rfl, rfl, h1, r1⟩ := trodAll_cons r0
  obtain ⟨rfl, rfl, rfl⟩ := trodAll_nil r1
  obtain rfl : args = #[v0, v1] := by cases args; simp_all
  obtain ⟨rfl, rfl⟩ := trodVars_none hV
  obtain ⟨a0, len0, cap0, rfl⟩ := okWide_slice Tryz.underlying32 (hval 0 32 v0 rfl rfl)
  have k0 := h0
  have lt0 : ∀ x ∈ p0, x.block < W.heap.size := by obtain ⟨m, hm⟩ := k0; exact DataW.trod_lt m _ _ _ hm
  obtain ⟨z0, w0⟩ : ∃ zs, IsRows W a0 len0 cap0 zs := by
    obtain ⟨fuel, hf⟩ := h0
    rcases Go.Deep.open_int_rows Tryz.underlying32 Tryz.underlying29 Tryz.underlying3 (by kernel_rfl) (by kernel_rfl) hf with ⟨hcs, _⟩ | ⟨x, l, c, A', L', C', Z', hcs, _, hl, hm, _, hrows⟩
    · simp [Value.cells] at hcs
      obtain ⟨rfl, rfl, rfl⟩ := hcs
      exact ⟨[], isRows_nil W⟩
    · simp [Value.cells] at hcs
      obtain ⟨rfl, rfl, rfl⟩ := hcs
      exact ⟨_, isRows_mk hl hm hrows⟩
  obtain ⟨a1, rfl, rfl, rfl, w1⟩ := open_string Tryz.underlying9 (hval 1 9 v1 rfl rfl) h1
  clear hA0 hval0
  refine (walk a0 len0 cap0 z0 a1 W w0 w1).mono fun e W' ⟨he, bel⟩ => ?_
  subst he
  exact ⟨_, rfl, _, _, _, [], _, [], hW', trodAll_mk1 (shut_bool Tryz.underlying4 _), (trodAll_cons_mk (Below.trod laidOut (by kernel_rfl) (of_decide_eq_true (by kernel_rfl)) k0 bel lt0) (trodAll_cons_mk (shut_string Tryz.underlying9 w1) trodAll_mk0)), rfl, bel.frame _, fun h => by cases h⟩

theorem named : Tryz.pinned.checked.prog.funcNamed Rows.fnExactRunLineRow.func = some 6 := by kernel_rfl
theorem j1 : (Rows.fnExactRunLineRow.inPlace == Tryz.pinned.checked.prog.inPlace 6) = true := by kernel_rfl
theorem j2 : (Rows.fnExactRunLineRow.unfollowed == Tryz.pinned.checked.prog.unfollowed 6) = true := by kernel_rfl
theorem j3 : (Rows.fnExactRunLineRow.recurses == Tryz.pinned.checked.prog.recurses 6) = true := by kernel_rfl
theorem j4 : (Rows.fnExactRunLineRow.named == Tryz.pinned.checked.prog.varsNamed 6) = true := by kernel_rfl
theorem joined : joinedFacts Tryz.pinned.checked.prog 6 Tryz.f6 Rows.fnExactRunLineSpec Rows.fnExactRunLineRow = true := by
  unfold joinedFacts
  rw [j1, j2, j3, j4]
  kernel_rfl
theorem c1 : Rows.fnExactRunLineRow.wfByText (OpenSpec.ofChange Rows.fnExactRunLineSpec) = true := by kernel_rfl
theorem c2 : Tryz.pinned.checked.prog.mainIs = some (true, ("02aacfe7e0510e83cb1bedaad95d9a1d342073d4e7a2936dcab13533d435b17f" : String).toList) := by kernel_rfl
theorem c3 : false = Tryz.pinned.checked.prog.looks [] := by kernel_rfl
theorem g1 : ((Tryz.pinned.checked.prog.closure 6).any fun g => (Tryz.pinned.checked.prog.funcs[g]?).any Func.goes) = false := by kernel_rfl
theorem g2 : Tryz.pinned.checked.prog.funcs.any Func.goes = false := by kernel_rfl
theorem c4 : false = Rows.fnExactRunLineRow.goesBy Tryz.pinned.checked.prog := by
  have h : Tryz.pinned.checked.prog.goesFrom Rows.fnExactRunLineRow.func = false := by
    unfold Program.goesFrom
    rw [named, Option.any_some]
    unfold Program.goes
    rw [g1, g2, Bool.and_false]
    rfl
  unfold OpenClaim.goesBy Program.goesAt
  rw [h]
  rfl
theorem over : Rows.fnExactRunLineRow.holds Tryz.pinned (OpenSpec.ofChange Rows.fnExactRunLineSpec) :=
  OpenClaim.holds_of_wide 6 Tryz.f6 rfl rfl rfl rfl rfl rfl rfl ⟨rfl, rfl, rfl, rfl, rfl⟩ rfl rfl rfl rfl rfl named Tryz.func6 joined
    (of_decide_eq_true (by kernel_rfl)) (by unfold Func.isWrapper; first | (rw [if_pos (by decide +kernel)]; kernel_rfl) | (rw [if_neg (by decide +kernel)]; exact ⟨rfl, rfl⟩))
    (fun os started H enc _ => lifted os started H enc)

/-- the statement -/
theorem proved : Rows.FnExactRunLineSaid := over

/-- the card -/
theorem card_proved : Rows.FnExactRunLineCardSaid :=
  Claim7.holds_tied_plain_at .later [] [.data, .pinned] true (true, "02aacfe7e0510e83cb1bedaad95d9a1d342073d4e7a2936dcab13533d435b17f") false proved (fun _ h => by cases h) c1 (fun _ h => by cases h) fnExactRunLine_row_tie rfl ⟨rfl, rfl⟩ c2 rfl
    (fun f fn hf hfn => by
      obtain rfl : f = 6 := Option.some.inj (named.symm.trans hf) |>.symm
      obtain rfl : fn = Tryz.f6 := (Option.some.inj (Tryz.func6.symm.trans hfn)).symm
      exact ⟨c3, fun j t ht => by
        have hall : (Tryz.f6.params.toList.all fun u => !Tryz.prog.wantsStandIn u) = true := by kernel_rfl
        have hm : t ∈ Tryz.f6.params.toList := by simpa using Array.mem_of_getElem? ht
        exact (show Tryz.prog.wantsStandIn t = false by simpa using List.all_eq_true.1 hall t hm)⟩)
    c4
#print axioms card_proved
end Go.Proofs.YtacjiemkbhhhoaaGreatDoor.fnExactRunLine
