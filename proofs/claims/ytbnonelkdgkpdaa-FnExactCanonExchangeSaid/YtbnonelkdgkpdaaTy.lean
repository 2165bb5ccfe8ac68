/-
  The table of types of this seat, and that the program has it.
-/
import Derived.Test.YtbnonelkdgkpdaaOw
import Derived.Test.YtbnonelkdgkpdaaRows
import Derived.KernelRfl
namespace Go.Proofs.Ytbnonelkdgkpdaa
open Go Go.Proofs.Ytbnonelkdgkpdaa.Ow
def tau : Nat → TI
  | 3 => .one .int 0
  | 4 => .one .bool 0
  | 5 => .one .u8 0
  | 9 => .one .str 0
  | 21 => .one .i32 0
  | 22 => .one (.sl .u8) 5
  | 23 => .one (.sl (.sl .int)) 25
  | 25 => .one (.sl .int) 3
  | 83 => .one .u64 0
  | 85 => .one (.sl .bool) 4
  | 87 => .arr .bool 10 4
  | 89 => .arr .int 4 3
  | 82 => .rc [.u8s [], .int 0, .int 0]
  | _ => .none
theorem inf3 : (Try.prog.info? 3).map (fun i => (i.size, i.zero, i.bytes)) = some (1, some (.int .i64 0), 8) := by kernel_rfl
theorem inf4 : (Try.prog.info? 4).map (fun i => (i.size, i.zero, i.bytes)) = some (1, some (.bool false), 1) := by kernel_rfl
theorem inf5 : (Try.prog.info? 5).map (fun i => (i.size, i.zero, i.bytes)) = some (1, some (.int .u8 0), 1) := by kernel_rfl
theorem inf9 : (Try.prog.info? 9).map (fun i => (i.size, i.zero, i.bytes)) = some (1, some (.string ⟨#[]⟩), 16) := by kernel_rfl
theorem inf21 : (Try.prog.info? 21).map (fun i => (i.size, i.zero, i.bytes)) = some (1, some (.int .i32 0), 4) := by kernel_rfl
theorem inf22 : (Try.prog.info? 22).map (fun i => (i.size, i.zero, i.bytes)) = some (1, some (.slice none 0 0), 24) := by kernel_rfl
theorem inf23 : (Try.prog.info? 23).map (fun i => (i.size, i.zero, i.bytes)) = some (1, some (.slice none 0 0), 24) := by kernel_rfl
theorem inf25 : (Try.prog.info? 25).map (fun i => (i.size, i.zero, i.bytes)) = some (1, some (.slice none 0 0), 24) := by kernel_rfl
theorem inf83 : (Try.prog.info? 83).map (fun i => (i.size, i.zero, i.bytes)) = some (1, some (.int .u64 0), 8) := by kernel_rfl
theorem inf85 : (Try.prog.info? 85).map (fun i => (i.size, i.zero, i.bytes)) = some (1, some (.slice none 0 0), 24) := by kernel_rfl
theorem inf87 : (Try.prog.info? 87).map (fun i => (i.size, i.zero)) = some (10, some (.agg (Array.replicate 10 (.bool false)))) := by kernel_rfl
theorem inf89 : (Try.prog.info? 89).map (fun i => (i.size, i.zero)) = some (4, some (.agg (Array.replicate 4 (.int .i64 0)))) := by kernel_rfl
theorem inf82 : (Try.prog.info? 82).map (fun i => (i.size, i.zero)) = some (3, some (.agg #[.slice none 0 0, .int .i64 0, .int .i64 0])) := by kernel_rfl
theorem tauOk : TyOk Try.prog tau where
  mixed := by kernel_rfl
  one := by
    intro T t e h
    unfold tau at h
    split at h <;> cases h
    · exact ⟨Try.underlying3, info_of inf3⟩
    · exact ⟨Try.underlying4, info_of inf4⟩
    · exact ⟨Try.underlying5, info_of inf5⟩
    · exact ⟨Try.underlying9, info_of inf9⟩
    · exact ⟨Try.underlying21, info_of inf21⟩
    · exact ⟨⟨Try.underlying22, _, rfl⟩, info_of inf22⟩
    · exact ⟨⟨Try.underlying23, _, rfl⟩, info_of inf23⟩
    · exact ⟨⟨Try.underlying25, _, rfl⟩, info_of inf25⟩
    · exact ⟨Try.underlying83, info_of inf83⟩
    · exact ⟨⟨Try.underlying85, _, rfl⟩, info_of inf85⟩
  rc := by
    intro T zs h
    unfold tau at h
    split at h <;> cases h
    · exact ⟨_, Try.underlying82, by kernel_rfl, info2_of inf82⟩
  tz := by
    intro T e h
    unfold tau at h
    split at h <;> cases h
  arr := by
    intro T t n e h
    unfold tau at h
    split at h <;> cases h
    · exact ⟨Try.underlying87, ⟨_, rfl⟩, info2_of inf87⟩
    · exact ⟨Try.underlying89, ⟨_, rfl⟩, info2_of inf89⟩
/-- the same, where lists of lists of integers keep the whole of their blocks -/
def tauS (d : Bool) : Nat → TI
  | 3 => .one .int 0
  | 4 => .one .bool 0
  | 5 => .one .u8 0
  | 9 => .one .str 0
  | 21 => .one .i32 0
  | 22 => .one (.sl .u8) 5
  | 23 => .one (.sl (.sw 3 d)) 25
  | 25 => .one (.sl .int) 3
  | 83 => .one .u64 0
  | 85 => .one (.sl .bool) 4
  | 87 => .arr .bool 10 4
  | 89 => .arr .int 4 3
  | 82 => .rc [.u8s [], .int 0, .int 0]
  | _ => .none
theorem tauSOk (d : Bool) : TyOk Try.prog (tauS d) where
  mixed := by kernel_rfl
  one := by
    intro T t e h
    unfold tauS at h
    split at h <;> cases h
    · exact ⟨Try.underlying3, info_of inf3⟩
    · exact ⟨Try.underlying4, info_of inf4⟩
    · exact ⟨Try.underlying5, info_of inf5⟩
    · exact ⟨Try.underlying9, info_of inf9⟩
    · exact ⟨Try.underlying21, info_of inf21⟩
    · exact ⟨⟨Try.underlying22, _, rfl⟩, info_of inf22⟩
    · exact ⟨⟨Try.underlying23, _, rfl⟩, info_of inf23⟩
    · exact ⟨⟨Try.underlying25, _, rfl⟩, info_of inf25⟩
    · exact ⟨Try.underlying83, info_of inf83⟩
    · exact ⟨⟨Try.underlying85, _, rfl⟩, info_of inf85⟩
  rc := by
    intro T zs h
    unfold tauS at h
    split at h <;> cases h
    · exact ⟨_, Try.underlying82, by kernel_rfl, info2_of inf82⟩
  tz := by
    intro T e h
    unfold tauS at h
    split at h <;> cases h
  arr := by
    intro T t n e h
    unfold tauS at h
    split at h <;> cases h
    · exact ⟨Try.underlying87, ⟨_, rfl⟩, info2_of inf87⟩
    · exact ⟨Try.underlying89, ⟨_, rfl⟩, info2_of inf89⟩
end Go.Proofs.Ytbnonelkdgkpdaa
