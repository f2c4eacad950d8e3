/- Next at a bitmap of 64 bits. -/
import Derived.Test.YtpejmgellidhbaaGreatDoorT6
set_option linter.all false
set_option linter.unusedSimpArgs false
set_option maxRecDepth 10000
namespace Go.Proofs.YtpejmgellidhbaaGreatDoor
open Go Go.RowKit Go.Proofs

noncomputable def all_ (a : Nat) : Int := if a = 0 then 18446744073709551615 else from_ a
theorem part_from (a : Nat) (h1 : a < 64) (w : World) : Calls Tryz.prog 94 #[.int .i64 0, .int .i64 a, .int .i64 64] w fun e w' => e = .returned (.int .u64 (all_ a)) ∧ w' = w := by
  by_cases h : a = 0
  · subst h; exact part_all w
  · rw [show all_ a = from_ a from by simp [all_, h]]; exact part_next a (by omega) (by omega) w

set_option maxHeartbeats 400000 in
theorem next_some (tab : Nat → Int) (a : Nat) (ha : a < 64) (B R : Nat) (r : Int) (hm : bits .and .u64 r (all_ a) ≠ 0) (w : World) (hb : BmAt w B R r) (ht : TabZ tab w) :
    Calls Tryz.prog 46 #[ptr B, .int .i64 a] w fun e w' => e = .returned (.int .i64 (wrap64 (tzv tab (bits .and .u64 r (all_ a))))) ∧ ∃ d, w' = { w with drawn := d } := by
  have c0 : w.cell? ⟨B, 0, none⟩ = some (.int .i64 64) := bc hb.map 0
  have c1 : w.cell? ⟨B, 1, none⟩ = some (.slice (some ⟨R, 0, none⟩) 1 1) := bc hb.map 1
  have cr : w.cell? ⟨R, 0, none⟩ = some (.int .u64 r) := bc hb.row 0
  have d0 : w.drew.cell? ⟨B, 0, none⟩ = some (.int .i64 64) := c0
  have d1 : w.drew.cell? ⟨B, 1, none⟩ = some (.slice (some ⟨R, 0, none⟩) 1 1) := c1
  have dr : w.drew.cell? ⟨R, 0, none⟩ = some (.int .u64 r) := cr
  have h1 : (0 : Int) ≤ a := by omega
  have h3 : ¬ (64 : Int) ≤ a := by omega
  have hq : (a : Int) / 64 = 0 := by omega
  have hmx : max (a : Int) 0 = a := by omega
  clear hb
  go_enter Tryz.func46, Tryz.ntmps46
  go_wp2
  refine wp_loop_rounds 1 ?_
  rw [rounds_succ]
  go_wp2
  go_region_law (go_simp; go_at_call 94; refine (part_from a ha _).mono ?_; rintro e w2 ⟨rfl, rfl⟩)
  all_goals (go_wp2_with (go_at_call 95; refine (tz_any tab _ _ (by exact ht)).mono ?_; rintro e w2 ⟨rfl, rfl⟩))
  all_goals go_ret
  all_goals exact ⟨rfl, _, rfl⟩
set_option maxHeartbeats 400000 in
theorem next_none (tab : Nat → Int) (a : Nat) (ha : a < 64) (B R : Nat) (r : Int) (hm : bits .and .u64 r (all_ a) = 0) (w : World) (hb : BmAt w B R r) (ht : TabZ tab w) :
    Calls Tryz.prog 46 #[ptr B, .int .i64 a] w fun e w' => e = .returned (.int .i64 (-1)) ∧ ∃ d, w' = { w with drawn := d } := by
  have c0 : w.cell? ⟨B, 0, none⟩ = some (.int .i64 64) := bc hb.map 0
  have c1 : w.cell? ⟨B, 1, none⟩ = some (.slice (some ⟨R, 0, none⟩) 1 1) := bc hb.map 1
  have cr : w.cell? ⟨R, 0, none⟩ = some (.int .u64 r) := bc hb.row 0
  have d0 : w.drew.cell? ⟨B, 0, none⟩ = some (.int .i64 64) := c0
  have d1 : w.drew.cell? ⟨B, 1, none⟩ = some (.slice (some ⟨R, 0, none⟩) 1 1) := c1
  have dr : w.drew.cell? ⟨R, 0, none⟩ = some (.int .u64 r) := cr
  have h1 : (0 : Int) ≤ a := by omega
  have h3 : ¬ (64 : Int) ≤ a := by omega
  have hq : (a : Int) / 64 = 0 := by omega
  have hmx : max (a : Int) 0 = a := by omega
  clear hb
  go_enter Tryz.func46, Tryz.ntmps46
  go_wp2
  refine wp_loop_rounds 2 ?_
  rw [rounds_succ]
  go_wp2
  go_region_law (go_simp; go_at_call 94; refine (part_from a ha _).mono ?_; rintro e w2 ⟨rfl, rfl⟩)
  all_goals (go_wp2; rw [rounds_succ]; go_wp2)
  all_goals go_ret
  all_goals exact ⟨rfl, _, rfl⟩

noncomputable def nextv (tab : Nat → Int) (r : Int) (a : Nat) : Int := if bits .and .u64 r (all_ a) = 0 then -1 else wrap64 (tzv tab (bits .and .u64 r (all_ a)))
theorem next_any (tab : Nat → Int) (a : Nat) (ha : a < 64) (B R : Nat) (r : Int) (w : World) (hb : BmAt w B R r) (ht : TabZ tab w) :
    Calls Tryz.prog 46 #[ptr B, .int .i64 a] w fun e w' => e = .returned (.int .i64 (nextv tab r a)) ∧ ∃ d, w' = { w with drawn := d } := by
  unfold nextv
  split
  · rename_i h; exact next_none tab a ha B R r h w hb ht
  · rename_i h; exact next_some tab a ha B R r h w hb ht

set_option maxHeartbeats 400000 in
theorem link_low (n : Int) (h : n < -1) (w : World) : Calls Tryz.prog 37 #[.int .i64 n] w fun e w' => e = .returned (.int .i64 0) ∧ w' = w := by
  go_enter Tryz.func37, Tryz.ntmps37
  go_wp2
  go_ret
  exact ⟨rfl, rfl⟩
set_option maxHeartbeats 400000 in
theorem link_high (n : Int) (h : 262144 ≤ n) (w : World) : Calls Tryz.prog 37 #[.int .i64 n] w fun e w' => e = .returned (.int .i64 0) ∧ w' = w := by
  have h1 : ¬ n < -1 := by omega
  go_enter Tryz.func37, Tryz.ntmps37
  go_wp2
  go_ret
  exact ⟨rfl, rfl⟩
set_option maxHeartbeats 400000 in
theorem link_mid (n : Int) (h0 : ¬ n < -1) (h : ¬ 262144 ≤ n) (w : World) : Calls Tryz.prog 37 #[.int .i64 n] w fun e w' => e = .returned (.int .i64 (bits .or .i64 (n * 8) 4)) ∧ w' = w := by
  go_enter Tryz.func37, Tryz.ntmps37
  go_wp2
  go_ret
  exact ⟨rfl, rfl⟩
noncomputable def linkN (n : Int) : Int := if n < -1 then 0 else if 262144 ≤ n then 0 else bits .or .i64 (n * 8) 4
theorem link_any (n : Int) (w : World) : Calls Tryz.prog 37 #[.int .i64 n] w fun e w' => e = .returned (.int .i64 (linkN n)) ∧ w' = w := by
  unfold linkN
  split
  · rename_i h; exact link_low n h w
  · rename_i h
    split
    · rename_i h'; exact link_high n h' w
    · rename_i h'; exact link_mid n h h' w

noncomputable def linkv (tab : Nat → Int) (r : Int) (a : Nat) : Int := linkN (nextv tab r (a + 1))
set_option maxHeartbeats 400000 in
/-- (*Space).link at class 1. -/
theorem slink_ok (tab : Nat → Int) (a : Nat) (ha : a + 1 < 64) (S B R : Nat) (r : Int) (w : World) (hb : BmAt w B R r) (hs : w.cell? ⟨S, 4, none⟩ = some (ptr B)) (ht : TabZ tab w) :
    Calls Tryz.prog 49 #[ptr S, .int .i64 1, .int .i64 a] w fun e w' => e = .returned (.int .i64 (linkv tab r a)) ∧ ∃ d, w' = { w with drawn := d } := by
  have hw1 : IntKind.i64.wrap ((a : Int) + 1) = ((a + 1 : Nat) : Int) := by rw [IntKind.wrap_i64]; omega
  go_enter Tryz.func49, Tryz.ntmps49
  go_wp2_with (first
   | (go_at_call 46; refine (next_any tab (a + 1) ha B R r _ hb ht).mono ?_; rintro e w' ⟨rfl, d, rfl⟩)
   | (go_at_call 37; refine (link_any _ _).mono ?_; rintro e w' ⟨rfl, rfl⟩))
  go_ret
  exact ⟨rfl, _, rfl⟩
end Go.Proofs.YtpejmgellidhbaaGreatDoor
