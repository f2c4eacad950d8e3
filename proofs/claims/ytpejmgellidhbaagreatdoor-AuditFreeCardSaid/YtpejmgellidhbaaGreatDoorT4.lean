/- Alloc's helpers that read no memory: Fits, Make, Numbered at the arguments of 'alive'. -/
import Derived.Test.YtpejmgellidhbaaGreatDoorT3
set_option linter.all false
set_option linter.unusedSimpArgs false
set_option maxRecDepth 10000
namespace Go.Proofs.YtpejmgellidhbaaGreatDoor
open Go Go.RowKit Go.Proofs

set_option maxHeartbeats 400000 in
theorem shape1 (w : World) : Calls Tryz.prog 41 #[.int .i64 1] w fun e w' => e = .returned (.tuple #[.int .i64 3, .int .i64 0]) ∧ w' = w := by
  go_enter Tryz.func41, Tryz.ntmps41
  go_wp2
  go_ret2
  exact ⟨rfl, rfl⟩

set_option maxHeartbeats 400000 in
theorem Fits13 (w : World) : Calls Tryz.prog 19 #[.int .i64 1, .int .i64 3] w fun e w' => e = .returned (.bool true) ∧ w' = w := by
  go_enter Tryz.func19, Tryz.ntmps19
  go_wp2_with (go_at_call 41; refine (shape1 _).mono ?_; rintro e w' ⟨rfl, rfl⟩)
  go_ret
  exact ⟨rfl, rfl⟩

set_option maxHeartbeats 400000 in
theorem Visible1 (w : World) : Calls Tryz.prog 52 #[.int .i64 1] w fun e w' => e = .returned (.bool true) ∧ w' = w := by
  go_enter Tryz.func52, Tryz.ntmps52
  go_wp2
  go_ret
  exact ⟨rfl, rfl⟩

set_option maxHeartbeats 400000 in
theorem Numbered1 (w : World) : Calls Tryz.prog 23 #[.int .i64 1] w fun e w' => e = .returned (.bool true) ∧ w' = w := by
  go_enter Tryz.func23, Tryz.ntmps23
  go_wp2_with (go_at_call 52; refine (Visible1 _).mono ?_; rintro e w' ⟨rfl, rfl⟩)
  go_ret
  exact ⟨rfl, rfl⟩

/-- The header of a block of class number 1, three words. -/
noncomputable def hdr013 : Int := wrap64 (bits BinOp.or IntKind.u64 (IntKind.u64.wrap (bits BinOp.or IntKind.u64 (bits BinOp.or IntKind.u64 (IntKind.u64.wrap (bits BinOp.and IntKind.u64 (IntKind.u64.wrap
  (IntKind.u64.wrap (bits BinOp.or IntKind.u64 0 2048 + 3) * 10872568911861)) 17592186044415 * 65536)) 96) 1 * 8)) 5)
set_option maxHeartbeats 1000000 in
theorem Make013 (w : World) : Calls Tryz.prog 22 #[.int .i64 0, .int .i64 1, .int .i64 3] w fun e w' => e = .returned (.int .i64 hdr013) ∧ w' = w := by
  go_enter Tryz.func22, Tryz.ntmps22
  go_wp2
  go_ret
  exact ⟨rfl, rfl⟩
end Go.Proofs.YtpejmgellidhbaaGreatDoor
