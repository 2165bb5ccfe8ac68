/-
  The table of types of this seat, and that the program has it.
-/
import Derived.Test.YtokejdaokfjmmaaOw
import Derived.Test.YtokejdaokfjmmaaRows
import Derived.KernelRfl
namespace Go.Proofs.Ytokejdaokfjmmaa
open Go Go.Proofs.Ytokejdaokfjmmaa.Ow
def tau : Nat → TI
  | 3 => .one .int 0
  | 4 => .one .bool 0
  | 5 => .one .u8 0
  | 9 => .one .str 0
  | 21 => .one .i32 0
  | 25 => .one (.sl .int) 3
  | 31 => .one (.sl .u8) 5
  | 57 => .one (.sl .bool) 4
  | 60 => .one (.sl .str) 9
  | 55 => .arr .int 4 3
  | 58 => .arr .bool 10 4
  | _ => .none
theorem inf3 : (Try.prog.info? 3).map (fun i => (i.size, i.zero, i.bytes)) = some (1, some (.int .i64 0), 8) := by kernel_rfl
theorem inf4 : (Try.prog.info? 4).map (fun i => (i.size, i.zero, i.bytes)) = some (1, some (.bool false), 1) := by kernel_rfl
theorem inf5 : (Try.prog.info? 5).map (fun i => (i.size, i.zero, i.bytes)) = some (1, some (.int .u8 0), 1) := by kernel_rfl
theorem inf9 : (Try.prog.info? 9).map (fun i => (i.size, i.zero, i.bytes)) = some (1, some (.string ⟨#[]⟩), 16) := by kernel_rfl
theorem inf21 : (Try.prog.info? 21).map (fun i => (i.size, i.zero, i.bytes)) = some (1, some (.int .i32 0), 4) := by kernel_rfl
theorem inf25 : (Try.prog.info? 25).map (fun i => (i.size, i.zero, i.bytes)) = some (1, some (.slice none 0 0), 24) := by kernel_rfl
theorem inf31 : (Try.prog.info? 31).map (fun i => (i.size, i.zero, i.bytes)) = some (1, some (.slice none 0 0), 24) := by kernel_rfl
theorem inf57 : (Try.prog.info? 57).map (fun i => (i.size, i.zero, i.bytes)) = some (1, some (.slice none 0 0), 24) := by kernel_rfl
theorem inf60 : (Try.prog.info? 60).map (fun i => (i.size, i.zero, i.bytes)) = some (1, some (.slice none 0 0), 24) := by kernel_rfl
theorem inf55 : (Try.prog.info? 55).map (fun i => (i.size, i.zero)) = some (4, some (.agg (Array.replicate 4 (.int .i64 0)))) := by kernel_rfl
theorem inf58 : (Try.prog.info? 58).map (fun i => (i.size, i.zero)) = some (10, some (.agg (Array.replicate 10 (.bool false)))) := by kernel_rfl
theorem tauOk : TyOk Try.prog tau where
  mixed := by kernel_rfl
  one := by
    intro T t e h
    unfold tau at h
    split at h <;> cases h
    · exact ⟨Try.underlying3, info_of inf3⟩
    · exact ⟨Try.underlying4, info_of inf4⟩
    · exact ⟨Try.underlying5, info_of inf5⟩
    · exact ⟨Try.underlying9, info_of inf9⟩
    · exact ⟨Try.underlying21, info_of inf21⟩
    · exact ⟨⟨Try.underlying25, _, rfl⟩, info_of inf25⟩
    · exact ⟨⟨Try.underlying31, _, rfl⟩, info_of inf31⟩
    · exact ⟨⟨Try.underlying57, _, rfl⟩, info_of inf57⟩
    · exact ⟨⟨Try.underlying60, _, rfl⟩, info_of inf60⟩
  arr := by
    intro T t n e h
    unfold tau at h
    split at h <;> cases h
    · exact ⟨Try.underlying55, ⟨_, rfl⟩, info2_of inf55⟩
    · exact ⟨Try.underlying58, ⟨_, rfl⟩, info2_of inf58⟩
end Go.Proofs.Ytokejdaokfjmmaa
