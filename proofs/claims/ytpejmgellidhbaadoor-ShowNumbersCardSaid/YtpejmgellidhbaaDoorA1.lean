/- Small functions of the packages value and show. -/
import Derived.Test.YtpejmgellidhbaaDoorProg
import Derived.WalkKit
import Derived.WalkSpells
import Derived.WalkLawsBesides
namespace Go.Proofs.YtpejmgellidhbaaDoor
open Go.RowKit

def kBox (k : Int) : Bool := k == 1 || k == 2 || k == 3
def fitsB (v : Int) : Bool := decide (-1152921504606846976 ≤ v) && decide (v ≤ 1152921504606846975)
def scalarB (n : Int) : Bool := decide (0 ≤ n) && decide (n ≤ 1114111) && (decide (n < 55296) || decide (57343 < n))
/-- value.Valid -/
def validB (k n : Int) : Bool :=
  if k = 2 then decide (0 ≤ n) && fitsB n else if k = 1 then fitsB n else if k = 3 then decide (0 ≤ n) && decide (n ≤ 5) else if k = 4 then scalarB n else false

theorem ret_bool {a b : Bool} (h : a = b) : Ending.returned (.bool a) = .returned (.bool b) := by rw [h]

set_option maxHeartbeats 400000 in
theorem fits_any (v : Int) (w : World) :
    Calls Tryd.prog 41 #[.int .i64 v] w fun e w' => e = .returned (.bool (fitsB v)) ∧ w = w' := by
  go_enter Tryd.func41, Tryd.ntmps41
  go_wp2
  all_goals
    go_ret
    exact ⟨ret_bool (by simp [fitsB, *] <;> omega), rfl⟩

set_option maxHeartbeats 400000 in
theorem container_any (k : Int) (w : World) :
    Calls Tryd.prog 36 #[.int .i64 k] w fun e w' => e = .returned (.bool (kBox k)) ∧ w = w' := by
  go_enter Tryd.func36, Tryd.ntmps36
  go_wp2
  all_goals
    go_ret
    exact ⟨by simp_all [kBox], rfl⟩

set_option maxHeartbeats 400000 in
theorem scalar_any (n : Int) (w : World) :
    Calls Tryd.prog 42 #[.int .i32 n] w fun e w' => e = .returned (.bool (scalarB n)) ∧ w = w' := by
  go_enter Tryd.func42, Tryd.ntmps42
  go_wp2
  all_goals
    go_ret
    exact ⟨ret_bool (by simp [scalarB, *] <;> omega), rfl⟩

set_option maxHeartbeats 400000 in
theorem valid_any (k n : Int) (w : World) :
    Calls Tryd.prog 35 #[.agg #[.int .i64 k, .int .i64 n]] w fun e w' => e = .returned (.bool (validB k n)) ∧ Below w.heap.size w w' := by
  go_enter Tryd.func35, Tryd.ntmps35
  go_wp2_with (first | (go_at_call 41; refine (fits_any _ _).mono ?_; rintro e w' ⟨rfl, rfl⟩) | (go_at_call 42; refine (scalar_any _ _).mono ?_; rintro e w' ⟨rfl, rfl⟩))
  all_goals
    go_ret
    exact ⟨ret_bool (by simp only [beq_iff_eq, beq_eq_false_iff_ne, ne_eq] at *; simp [validB, scalarB, *] <;> omega), (Below.refl _ _).alloc (Nat.le_refl _) _⟩

end Go.Proofs.YtpejmgellidhbaaDoor
