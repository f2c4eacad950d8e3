/- A bitmap of 64 bits: good, SetRange, Set, ClearRange, Clear, Next. -/
import Derived.Test.YtpejmgellidhbaaGreatDoorT5
set_option linter.all false
set_option linter.unusedSimpArgs false
set_option maxRecDepth 10000
namespace Go.Proofs.YtpejmgellidhbaaGreatDoor
open Go Go.RowKit Go.Proofs

/-- A bitmap of 64 bits at B, its row at R, which holds r. -/
structure BmAt (w : World) (B R : Nat) (r : Int) : Prop where
  map : w.heap[B]? = some (.cells #[.int .i64 64, .slice (some ⟨R, 0, none⟩) 1 1] 105)
  row : w.heap[R]? = some (.cells #[.int .u64 r] 83)

set_option maxHeartbeats 400000 in
theorem good_ok (i : Nat) (hi : i < 64) (B R : Nat) (r : Int) (w : World) (hb : BmAt w B R r) : Calls Tryz.prog 97 #[ptr B, .int .i64 i, .int .i64 ((i : Int) + 1)] w fun e w' => e = .returned (.bool true) ∧ w' = w := by
  have c0 : w.cell? ⟨B, 0, none⟩ = some (.int .i64 64) := bc hb.map 0
  have h1 : (0 : Int) ≤ i := by omega
  have h2 : (i : Int) + 1 ≤ 64 := by omega
  have h3 : (i : Int) ≤ i + 1 := by omega
  clear hb
  go_enter Tryz.func97, Tryz.ntmps97
  go_wp2
  go_ret
  exact ⟨rfl, rfl⟩

set_option maxHeartbeats 400000 in
theorem setRange_ok (i : Nat) (hi : i < 64) (B R : Nat) (r : Int) (w : World) (hb : BmAt w B R r) : Calls Tryz.prog 53 #[ptr B, .int .i64 i, .int .i64 ((i : Int) + 1)] w fun e w' => e = .returned (.int .i64 0) ∧
    ∃ d, w' = {(w.setCell ⟨R, 0, none⟩ (.int .u64 (bits .or .u64 r (one_ i)))) with drawn := d} := by
  have c0 : w.cell? ⟨B, 0, none⟩ = some (.int .i64 64) := bc hb.map 0
  have c1 : w.cell? ⟨B, 1, none⟩ = some (.slice (some ⟨R, 0, none⟩) 1 1) := bc hb.map 1
  have cr : w.cell? ⟨R, 0, none⟩ = some (.int .u64 r) := bc hb.row 0
  have fr : w.frozen? ⟨R, 0, none⟩ = false := bf hb.row 0
  have d1 : w.drew.cell? ⟨B, 1, none⟩ = some (.slice (some ⟨R, 0, none⟩) 1 1) := c1
  have dr : w.drew.cell? ⟨R, 0, none⟩ = some (.int .u64 r) := cr
  have dfr : w.drew.frozen? ⟨R, 0, none⟩ = false := fr
  have h1 : (0 : Int) ≤ i := by omega
  have h2 : (0 : Int) < (i : Int) + 1 := by omega
  have h3 : ¬ (64 : Int) < (i : Int) + 1 := by omega
  have hq : (i : Int) / 64 = 0 := by omega
  go_enter Tryz.func53, Tryz.ntmps53
  go_wp2_with (go_at_call 97; refine (good_ok i hi B R r _ hb).mono ?_; rintro e w' ⟨rfl, rfl⟩)
  clear hb
  refine wp_loop_rounds 2 ?_
  rw [rounds_succ]
  go_wp2
  go_region_law (go_simp; go_at_call 94; refine (part_one i h1 (by omega) _).mono ?_; rintro e w2 ⟨rfl, rfl⟩)
  all_goals (go_wp2; rw [rounds_succ]; go_wp2; go_ret; exact ⟨rfl, _, rfl⟩)

set_option maxHeartbeats 400000 in
theorem clearRange_ok (i : Nat) (hi : i < 64) (B R : Nat) (r : Int) (w : World) (hb : BmAt w B R r) : Calls Tryz.prog 96 #[ptr B, .int .i64 i, .int .i64 ((i : Int) + 1)] w fun e w' => e = .returned (.int .i64 0) ∧
    ∃ d, w' = {(w.setCell ⟨R, 0, none⟩ (.int .u64 (bits .andNot .u64 r (one_ i)))) with drawn := d} := by
  have c0 : w.cell? ⟨B, 0, none⟩ = some (.int .i64 64) := bc hb.map 0
  have c1 : w.cell? ⟨B, 1, none⟩ = some (.slice (some ⟨R, 0, none⟩) 1 1) := bc hb.map 1
  have cr : w.cell? ⟨R, 0, none⟩ = some (.int .u64 r) := bc hb.row 0
  have fr : w.frozen? ⟨R, 0, none⟩ = false := bf hb.row 0
  have d1 : w.drew.cell? ⟨B, 1, none⟩ = some (.slice (some ⟨R, 0, none⟩) 1 1) := c1
  have dr : w.drew.cell? ⟨R, 0, none⟩ = some (.int .u64 r) := cr
  have dfr : w.drew.frozen? ⟨R, 0, none⟩ = false := fr
  have h1 : (0 : Int) ≤ i := by omega
  have h2 : (0 : Int) < (i : Int) + 1 := by omega
  have h3 : ¬ (64 : Int) < (i : Int) + 1 := by omega
  have hq : (i : Int) / 64 = 0 := by omega
  go_enter Tryz.func96, Tryz.ntmps96
  go_wp2_with (go_at_call 97; refine (good_ok i hi B R r _ hb).mono ?_; rintro e w' ⟨rfl, rfl⟩)
  clear hb
  refine wp_loop_rounds 2 ?_
  rw [rounds_succ]
  go_wp2
  go_region_law (go_simp; go_at_call 94; refine (part_one i h1 (by omega) _).mono ?_; rintro e w2 ⟨rfl, rfl⟩)
  all_goals (go_wp2; rw [rounds_succ]; go_wp2; go_ret; exact ⟨rfl, _, rfl⟩)

set_option maxHeartbeats 400000 in
theorem set_ok (i : Nat) (hi : i < 64) (B R : Nat) (r : Int) (w : World) (hb : BmAt w B R r) : Calls Tryz.prog 24 #[ptr B, .int .i64 i] w fun e w' => e = .returned (.int .i64 0) ∧
    ∃ d, w' = {(w.setCell ⟨R, 0, none⟩ (.int .u64 (bits .or .u64 r (one_ i)))) with drawn := d} := by
  have hw1 : IntKind.i64.wrap ((i : Int) + 1) = (i : Int) + 1 := by rw [IntKind.wrap_i64]; omega
  go_enter Tryz.func24, Tryz.ntmps24
  go_wp2_with (go_at_call 53; refine (setRange_ok i hi B R r _ hb).mono ?_; rintro e w' ⟨rfl, d, rfl⟩)
  go_ret
  exact ⟨rfl, _, rfl⟩

set_option maxHeartbeats 400000 in
theorem clear_ok (i : Nat) (hi : i < 64) (B R : Nat) (r : Int) (w : World) (hb : BmAt w B R r) : Calls Tryz.prog 50 #[ptr B, .int .i64 i] w fun e w' => e = .returned (.int .i64 0) ∧
    ∃ d, w' = {(w.setCell ⟨R, 0, none⟩ (.int .u64 (bits .andNot .u64 r (one_ i)))) with drawn := d} := by
  have hw1 : IntKind.i64.wrap ((i : Int) + 1) = (i : Int) + 1 := by rw [IntKind.wrap_i64]; omega
  go_enter Tryz.func50, Tryz.ntmps50
  go_wp2_with (go_at_call 96; refine (clearRange_ok i hi B R r _ hb).mono ?_; rintro e w' ⟨rfl, d, rfl⟩)
  go_ret
  exact ⟨rfl, _, rfl⟩

end Go.Proofs.YtpejmgellidhbaaGreatDoor
