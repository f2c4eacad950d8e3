/- One word of a bitmap: part, TrailingZeros64, good, SetRange, ClearRange, Next, at 64 bits. -/
import Derived.Test.YtpejmgellidhbaaGreatDoorT4
set_option linter.all false
set_option linter.unusedSimpArgs false
set_option maxRecDepth 10000
namespace Go.Proofs.YtpejmgellidhbaaGreatDoor
open Go Go.RowKit Go.Proofs

/-- The bits from a on (below 64). -/
noncomputable def from_ (a : Int) : Int := IntKind.u64.wrap (18446744073709551615 * 2 ^ a.toNat)
/-- The bit a. -/
noncomputable def one_ (a : Int) : Int := if a = 0 then bits BinOp.and IntKind.u64 18446744073709551615 1 else if a = 63 then from_ 63 else bits BinOp.and IntKind.u64 (from_ a) (IntKind.u64.wrap (IntKind.u64.wrap (2 ^ (a + 1).toNat) - 1))

set_option maxHeartbeats 400000 in
theorem part_next (a : Int) (h0 : 0 < a) (h1 : a < 64) (w : World) : Calls Tryz.prog 94 #[.int .i64 0, .int .i64 a, .int .i64 64] w fun e w' => e = .returned (.int .u64 (from_ a)) ∧ w' = w := by
  have h4 : ¬ a < 0 := by omega
  go_enter Tryz.func94, Tryz.ntmps94
  go_wp2
  go_ret
  exact ⟨rfl, rfl⟩
set_option maxHeartbeats 400000 in
theorem part_all (w : World) : Calls Tryz.prog 94 #[.int .i64 0, .int .i64 0, .int .i64 64] w fun e w' => e = .returned (.int .u64 18446744073709551615) ∧ w' = w := by
  go_enter Tryz.func94, Tryz.ntmps94
  go_wp2
  go_ret
  exact ⟨rfl, rfl⟩
set_option maxHeartbeats 400000 in
theorem part_one (a : Int) (h0 : 0 ≤ a) (h1 : a < 64) (w : World) : Calls Tryz.prog 94 #[.int .i64 0, .int .i64 a, .int .i64 (a + 1)] w fun e w' => e = .returned (.int .u64 (one_ a)) ∧ w' = w := by
  by_cases ha : a = 0
  · subst ha
    rw [show one_ 0 = bits BinOp.and IntKind.u64 18446744073709551615 1 from rfl, show (0 : Int) + 1 = 1 from rfl]
    go_enter Tryz.func94, Tryz.ntmps94
    go_wp2
    go_ret
    exact ⟨rfl, rfl⟩
  have hp : 0 < a := by omega
  by_cases hb : a = 63
  · subst hb
    rw [show one_ 63 = from_ 63 from by simp [one_], show (63 : Int) + 1 = 64 from rfl]
    exact part_next 63 (by omega) (by omega) w
  rw [show one_ a = bits BinOp.and IntKind.u64 (from_ a) (IntKind.u64.wrap (IntKind.u64.wrap (2 ^ (a + 1).toNat) - 1)) from by simp [one_, ha, hb]]
  have h2 : decide (a + 1 < 64) = true := decide_eq_true (by omega)
  have h3 : ¬ a + 1 < 0 := by omega
  have h4 : ¬ a < 0 := by omega
  go_enter Tryz.func94, Tryz.ntmps94
  go_wp2
  go_ret
  exact ⟨rfl, rfl⟩

/-- What the table of the library holds. -/
def TabZ (tab : Nat → Int) (w : World) : Prop := ∀ i, i < 64 → w.cell? ⟨0, i, none⟩ = some (.int .u8 (tab i))
set_option maxHeartbeats 400000 in
theorem tz_zero (w : World) : Calls Tryz.prog 95 #[.int .u64 0] w fun e w' => e = .returned (.int .i64 64) ∧ w' = w := by
  go_enter Tryz.func95, Tryz.ntmps95
  go_wp2
  go_ret
  exact ⟨rfl, rfl⟩
set_option maxHeartbeats 400000 in
theorem tz_at (x : Int) (h0 : x ≠ 0) (n : Nat) (key : IntKind.u64.wrap (bits BinOp.and IntKind.u64 x (IntKind.u64.wrap (-x)) * 285870213051353865) / 288230376151711744 = (n : Int)) (hlt : n < 64) (t : Int) (w : World)
    (hc : w.cell? ⟨0, n, none⟩ = some (.int .u8 t)) : Calls Tryz.prog 95 #[.int .u64 x] w fun e w' => e = .returned (.int .i64 (wrap64 t)) ∧ w' = w := by
  go_enter Tryz.func95, Tryz.ntmps95
  go_wp2_with (simp only [key])
  go_ret
  exact ⟨rfl, rfl⟩
theorem u64_mod (y : Int) : IntKind.u64.wrap y = y % 18446744073709551616 := IntKind.wrap_u64 y
theorem tz_ex (tab : Nat → Int) (x : Int) : ∃ v : Int, ∀ w, TabZ tab w → Calls Tryz.prog 95 #[.int .u64 x] w fun e w' => e = .returned (.int .i64 v) ∧ w' = w := by
  by_cases h0 : x = 0
  · subst h0
    exact ⟨64, fun w _ => tz_zero w⟩
  have hk : ∃ n : Nat, IntKind.u64.wrap (bits BinOp.and IntKind.u64 x (IntKind.u64.wrap (-x)) * 285870213051353865) / 288230376151711744 = (n : Int) ∧ n < 64 := by
    generalize bits BinOp.and IntKind.u64 x (IntKind.u64.wrap (-x)) * 285870213051353865 = y
    rw [u64_mod]
    exact ⟨(y % 18446744073709551616 / 288230376151711744).toNat, by omega, by omega⟩
  obtain ⟨n, key, hlt⟩ := hk
  exact ⟨wrap64 (tab n), fun w ht => tz_at x h0 n key hlt _ w (ht n hlt)⟩
noncomputable def tzv (tab : Nat → Int) (x : Int) : Int := (tz_ex tab x).choose
theorem tz_any (tab : Nat → Int) (x : Int) (w : World) (ht : TabZ tab w) : Calls Tryz.prog 95 #[.int .u64 x] w fun e w' => e = .returned (.int .i64 (tzv tab x)) ∧ w' = w := (tz_ex tab x).choose_spec w ht
end Go.Proofs.YtpejmgellidhbaaGreatDoor
