/-
  The table of types of this seat, and that the program has it.
-/
import Derived.Test.YtigebaejdghmmaaOw
import Derived.Test.YtigebaejdghmmaaRows
import Derived.KernelRfl
namespace Go.Proofs.Ytigebaejdghmmaa
open Go Go.Proofs.Ytigebaejdghmmaa.Ow
def tau : Nat → TI
  | 3 => .one .int 0
  | 4 => .one .bool 0
  | 5 => .one .u8 0
  | 9 => .one .str 0
  | 21 => .one .i32 0
  | 22 => .one (.sl (.sl .int)) 23
  | 23 => .one (.sl .int) 3
  | 36 => .one (.sl .str) 9
  | 42 => .one (.sl .u8) 5
  | 103 => .one .u64 0
  | 108 => .one (.sl .bool) 4
  | 109 => .arr .bool 10 4
  | 118 => .arr .int 4 3
  | 51 => .rc [.ints [], .int 0]
  | 107 => .rc [.u8s [], .int 0, .int 0]
  | _ => .none
theorem inf3 : (Try.prog.info? 3).map (fun i => (i.size, i.zero, i.bytes)) = some (1, some (.int .i64 0), 8) := by kernel_rfl
theorem inf4 : (Try.prog.info? 4).map (fun i => (i.size, i.zero, i.bytes)) = some (1, some (.bool false), 1) := by kernel_rfl
theorem inf5 : (Try.prog.info? 5).map (fun i => (i.size, i.zero, i.bytes)) = some (1, some (.int .u8 0), 1) := by kernel_rfl
theorem inf9 : (Try.prog.info? 9).map (fun i => (i.size, i.zero, i.bytes)) = some (1, some (.string ⟨#[]⟩), 16) := by kernel_rfl
theorem inf21 : (Try.prog.info? 21).map (fun i => (i.size, i.zero, i.bytes)) = some (1, some (.int .i32 0), 4) := by kernel_rfl
theorem inf22 : (Try.prog.info? 22).map (fun i => (i.size, i.zero, i.bytes)) = some (1, some (.slice none 0 0), 24) := by kernel_rfl
theorem inf23 : (Try.prog.info? 23).map (fun i => (i.size, i.zero, i.bytes)) = some (1, some (.slice none 0 0), 24) := by kernel_rfl
theorem inf36 : (Try.prog.info? 36).map (fun i => (i.size, i.zero, i.bytes)) = some (1, some (.slice none 0 0), 24) := by kernel_rfl
theorem inf42 : (Try.prog.info? 42).map (fun i => (i.size, i.zero, i.bytes)) = some (1, some (.slice none 0 0), 24) := by kernel_rfl
theorem inf103 : (Try.prog.info? 103).map (fun i => (i.size, i.zero, i.bytes)) = some (1, some (.int .u64 0), 8) := by kernel_rfl
theorem inf108 : (Try.prog.info? 108).map (fun i => (i.size, i.zero, i.bytes)) = some (1, some (.slice none 0 0), 24) := by kernel_rfl
theorem inf109 : (Try.prog.info? 109).map (fun i => (i.size, i.zero)) = some (10, some (.agg (Array.replicate 10 (.bool false)))) := by kernel_rfl
theorem inf118 : (Try.prog.info? 118).map (fun i => (i.size, i.zero)) = some (4, some (.agg (Array.replicate 4 (.int .i64 0)))) := by kernel_rfl
theorem inf51 : (Try.prog.info? 51).map (fun i => (i.size, i.zero)) = some (2, some (.agg #[.slice none 0 0, .int .i64 0])) := by kernel_rfl
theorem inf107 : (Try.prog.info? 107).map (fun i => (i.size, i.zero)) = some (3, some (.agg #[.slice none 0 0, .int .i64 0, .int .i64 0])) := by kernel_rfl
theorem tauOk : TyOk Try.prog tau where
  mixed := by kernel_rfl
  one := by
    intro T t e h
    unfold tau at h
    split at h <;> cases h
    · exact ⟨Try.underlying3, info_of inf3⟩
    · exact ⟨Try.underlying4, info_of inf4⟩
    · exact ⟨Try.underlying5, info_of inf5⟩
    · exact ⟨Try.underlying9, info_of inf9⟩
    · exact ⟨Try.underlying21, info_of inf21⟩
    · exact ⟨⟨Try.underlying22, _, rfl⟩, info_of inf22⟩
    · exact ⟨⟨Try.underlying23, _, rfl⟩, info_of inf23⟩
    · exact ⟨⟨Try.underlying36, _, rfl⟩, info_of inf36⟩
    · exact ⟨⟨Try.underlying42, _, rfl⟩, info_of inf42⟩
    · exact ⟨Try.underlying103, info_of inf103⟩
    · exact ⟨⟨Try.underlying108, _, rfl⟩, info_of inf108⟩
  rc := by
    intro T zs h
    unfold tau at h
    split at h <;> cases h
    · exact ⟨_, Try.underlying51, by kernel_rfl, info2_of inf51⟩
    · exact ⟨_, Try.underlying107, by kernel_rfl, info2_of inf107⟩
  tz := by
    intro T e h
    unfold tau at h
    split at h <;> cases h
  arr := by
    intro T t n e h
    unfold tau at h
    split at h <;> cases h
    · exact ⟨Try.underlying109, ⟨_, rfl⟩, info2_of inf109⟩
    · exact ⟨Try.underlying118, ⟨_, rfl⟩, info2_of inf118⟩
end Go.Proofs.Ytigebaejdghmmaa
