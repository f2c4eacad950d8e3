/- The size classes: what the functions of package class say of class 1 and of three words. -/
import Derived.Test.YtpejmgellidhbaaGreatDoorT0
import Derived.WalkKit
import Derived.LoopN
import Derived.Below
set_option linter.all false
set_option linter.unusedSimpArgs false
set_option maxRecDepth 10000
namespace Go.Proofs.YtpejmgellidhbaaGreatDoor
open Go Go.RowKit Go.Proofs

abbrev cw : Value := .agg #[.int .i64 2, .int .i64 4, .int .i64 6, .int .i64 8, .int .i64 12, .int .i64 16, .int .i64 20, .int .i64 32]

set_option maxHeartbeats 400000 in
theorem words_any (w : World) : Calls Tryz.prog 90 #[] w fun e w' => e = .returned cw ∧ Below w.heap.size w w' := by
  go_enter Tryz.func90, Tryz.ntmps90
  go_wp2
  exact bodyPost_ret (v := cw) (by simp [results, Tryz.results90, go_sem]) rfl ⟨rfl, (Below.refl _ _).alloc (Nat.le_refl _) _⟩

theorem idx_cw1 (w : World) : (Instr.index 25 cw (.int .i64 1)).run Tryz.prog w = .ok (.int .i64 4) w := by kernel_rfl

set_option maxHeartbeats 400000 in
theorem Words1 (w : World) : Calls Tryz.prog 51 #[.int .i64 1] w fun e w' => e = .returned (.int .i64 4) ∧ Below w.heap.size w w' := by
  have hx := idx_cw1
  go_enter Tryz.func51, Tryz.ntmps51
  go_wp2_with (go_at_call 90; refine (words_any _).mono ?_; rintro e w' ⟨rfl, hw'⟩)
  go_ret
  exact ⟨rfl, hw'⟩

set_option maxHeartbeats 400000 in
theorem Blocks1 (w : World) : Calls Tryz.prog 35 #[.int .i64 1] w fun e w' => e = .returned (.int .i64 16) ∧ Below w.heap.size w w' := by
  go_enter Tryz.func35, Tryz.ntmps35
  go_wp2_with (go_at_call 51; refine (Words1 _).mono ?_; rintro e w' ⟨rfl, hw'⟩)
  go_ret
  exact ⟨rfl, hw'⟩

theorem idx_cw0 (w : World) : (Instr.index 25 cw (.int .i64 0)).run Tryz.prog w = .ok (.int .i64 2) w := by kernel_rfl

set_option maxHeartbeats 400000 in
theorem Of3 (w : World) : Calls Tryz.prog 43 #[.int .i64 3] w fun e w' => e = .returned (.int .i64 1) ∧ Below w.heap.size w w' := by
  have hx := idx_cw1
  have hx0 := idx_cw0
  go_enter Tryz.func43, Tryz.ntmps43
  go_wp2_with (go_at_call 90; refine (words_any _).mono ?_; rintro e w' ⟨rfl, hw'⟩)
  refine wp_loop_rounds 2 ?_
  rw [rounds_succ]
  go_wp2
  rw [rounds_succ]
  go_wp2
  go_ret
  exact ⟨rfl, hw'⟩

set_option maxHeartbeats 400000 in
theorem Pages3 (w : World) : Calls Tryz.prog 45 #[.int .i64 3] w fun e w' => e = .returned (.int .i64 0) ∧ Below w.heap.size w w' := by
  go_enter Tryz.func45, Tryz.ntmps45
  go_wp2_with (go_at_call 43; refine (Of3 _).mono ?_; rintro e w' ⟨rfl, hw'⟩)
  go_ret
  exact ⟨rfl, hw'⟩

set_option maxHeartbeats 400000 in
theorem wide3 (w : World) : Calls Tryz.prog 21 #[.int .i64 3] w fun e w' => e = .returned (.int .i64 4) ∧ Below w.heap.size w w' := by
  go_enter Tryz.func21, Tryz.ntmps21
  go_wp2_with (first
    | (go_at_call 45; refine (Pages3 _).mono ?_; rintro e w' ⟨rfl, hw1⟩)
    | (go_at_call 43; refine (Of3 _).mono ?_; rintro e w' ⟨rfl, hw2⟩)
    | (go_at_call 51; refine (Words1 _).mono ?_; rintro e w' ⟨rfl, hw3⟩))
  go_ret
  exact ⟨rfl, hw1.trans ((hw2.mono hw1.size).trans (hw3.mono (Nat.le_trans hw1.size hw2.size)))⟩

set_option maxHeartbeats 400000 in
theorem Start1 (i : Nat) (hi : i < 16) (w : World) : Calls Tryz.prog 36 #[.int .i64 1, .int .i64 i] w fun e w' => e = .returned (.int .i64 (4 * i)) ∧ Below w.heap.size w w' := by
  have h1 : decide ((i : Int) < 0) = false := decide_eq_false (by omega)
  have h2 : decide ((i : Int) ≥ 16) = false := decide_eq_false (by omega)
  have h3 : IntKind.i64.wrap ((i : Int) * 4) = 4 * i := by rw [IntKind.wrap_i64]; omega
  have h4 : ¬ (i : Int) < 0 := by omega
  have h5 : ¬ (16 : Int) ≤ i := by omega
  go_enter Tryz.func36, Tryz.ntmps36
  go_wp2_with (first
    | (go_at_call 35; refine (Blocks1 _).mono ?_; rintro e w' ⟨rfl, hw1⟩)
    | (go_at_call 51; refine (Words1 _).mono ?_; rintro e w' ⟨rfl, hw2⟩))
  go_ret
  exact ⟨rfl, hw1.trans (hw2.mono hw1.size)⟩
end Go.Proofs.YtpejmgellidhbaaGreatDoor
