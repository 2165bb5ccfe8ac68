/-
  The table of types of this seat, and that the program has it.
-/
import Derived.Test.YtekknbcojfaohaaOw
import Derived.Test.YtekknbcojfaohaaRows
import Derived.KernelRfl
namespace Go.Proofs.Ytekknbcojfaohaa
open Go Go.Proofs.Ytekknbcojfaohaa.Ow
def tau : Nat → TI
  | 3 => .one .int 0
  | 4 => .one .bool 0
  | 5 => .one .u8 0
  | 9 => .one .str 0
  | 21 => .one .i32 0
  | 22 => .one (.sl .int) 3
  | 37 => .one (.sl .str) 9
  | 48 => .one (.sl (.sl .int)) 22
  | 69 => .one (.sl .u8) 5
  | 75 => .one (.sl .bool) 4
  | 79 => .one .u64 0
  | 76 => .arr .bool 10 4
  | _ => .none
theorem inf3 : (Try.prog.info? 3).map (fun i => (i.size, i.zero, i.bytes)) = some (1, some (.int .i64 0), 8) := by kernel_rfl
theorem inf4 : (Try.prog.info? 4).map (fun i => (i.size, i.zero, i.bytes)) = some (1, some (.bool false), 1) := by kernel_rfl
theorem inf5 : (Try.prog.info? 5).map (fun i => (i.size, i.zero, i.bytes)) = some (1, some (.int .u8 0), 1) := by kernel_rfl
theorem inf9 : (Try.prog.info? 9).map (fun i => (i.size, i.zero, i.bytes)) = some (1, some (.string ⟨#[]⟩), 16) := by kernel_rfl
theorem inf21 : (Try.prog.info? 21).map (fun i => (i.size, i.zero, i.bytes)) = some (1, some (.int .i32 0), 4) := by kernel_rfl
theorem inf22 : (Try.prog.info? 22).map (fun i => (i.size, i.zero, i.bytes)) = some (1, some (.slice none 0 0), 24) := by kernel_rfl
theorem inf37 : (Try.prog.info? 37).map (fun i => (i.size, i.zero, i.bytes)) = some (1, some (.slice none 0 0), 24) := by kernel_rfl
theorem inf48 : (Try.prog.info? 48).map (fun i => (i.size, i.zero, i.bytes)) = some (1, some (.slice none 0 0), 24) := by kernel_rfl
theorem inf69 : (Try.prog.info? 69).map (fun i => (i.size, i.zero, i.bytes)) = some (1, some (.slice none 0 0), 24) := by kernel_rfl
theorem inf75 : (Try.prog.info? 75).map (fun i => (i.size, i.zero, i.bytes)) = some (1, some (.slice none 0 0), 24) := by kernel_rfl
theorem inf79 : (Try.prog.info? 79).map (fun i => (i.size, i.zero, i.bytes)) = some (1, some (.int .u64 0), 8) := by kernel_rfl
theorem inf76 : (Try.prog.info? 76).map (fun i => (i.size, i.zero)) = some (10, some (.agg (Array.replicate 10 (.bool false)))) := by kernel_rfl
theorem tauOk : TyOk Try.prog tau where
  mixed := by kernel_rfl
  one := by
    intro T t e h
    unfold tau at h
    split at h <;> cases h
    · exact ⟨Try.underlying3, info_of inf3⟩
    · exact ⟨Try.underlying4, info_of inf4⟩
    · exact ⟨Try.underlying5, info_of inf5⟩
    · exact ⟨Try.underlying9, info_of inf9⟩
    · exact ⟨Try.underlying21, info_of inf21⟩
    · exact ⟨⟨Try.underlying22, _, rfl⟩, info_of inf22⟩
    · exact ⟨⟨Try.underlying37, _, rfl⟩, info_of inf37⟩
    · exact ⟨⟨Try.underlying48, _, rfl⟩, info_of inf48⟩
    · exact ⟨⟨Try.underlying69, _, rfl⟩, info_of inf69⟩
    · exact ⟨⟨Try.underlying75, _, rfl⟩, info_of inf75⟩
    · exact ⟨Try.underlying79, info_of inf79⟩
  rc := by
    intro T zs h
    unfold tau at h
    split at h <;> cases h
  arr := by
    intro T t n e h
    unfold tau at h
    split at h <;> cases h
    · exact ⟨Try.underlying76, ⟨_, rfl⟩, info2_of inf76⟩
end Go.Proofs.Ytekknbcojfaohaa
