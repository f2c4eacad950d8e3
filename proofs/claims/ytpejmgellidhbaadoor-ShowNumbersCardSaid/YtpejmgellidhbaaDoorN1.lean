/- Small functions of the references that Check calls: Valid, Less, Visible, heads, rowOf. -/
import Derived.Test.YtpejmgellidhbaaDoorA5
import Derived.LoopTactic
namespace Go.Proofs.YtpejmgellidhbaaDoor
open Go.RowKit

/-- Some bool is returned. -/
def SomeBool (w : World) (e : Ending) (w' : World) : Prop := ∃ b : Bool, e = .returned (.bool b) ∧ Below w.heap.size w w'
theorem someBool {w w' : World} (b : Bool) (h : Below w.heap.size w w') : SomeBool w (.returned (.bool b)) w' := ⟨b, rfl, h⟩

set_option maxHeartbeats 1000000 in
theorem valid2_any (k n : Int) (w : World) :
    Calls Tryd.prog 27 #[.agg #[.int .i64 k, .int .i64 n]] w fun e w' => e = .returned (.bool (validB k n)) ∧ Below w.heap.size w w' := by
  go_enter Tryd.func27, Tryd.ntmps27
  go_wp2
  all_goals
    go_ret
    exact ⟨ret_bool (by simp only [beq_iff_eq, beq_eq_false_iff_ne, ne_eq] at *; simp [validB, fitsB, scalarB, *] <;> omega), (Below.refl _ _).alloc (Nat.le_refl _) _⟩

/-- hearthref2.Less -/
def lessB (k n k' n' : Int) : Bool := if k = k' then decide (n < n') else decide (k < k')
/-- hearthref6.Visible -/
def visB (k : Int) : Bool := decide (1 ≤ k) && decide (k ≤ 10)
set_option maxHeartbeats 400000 in
theorem less_any (k n k' n' : Int) (w : World) :
    Calls Tryd.prog 22 #[.agg #[.int .i64 k, .int .i64 n], .agg #[.int .i64 k', .int .i64 n']] w fun e w' => e = .returned (.bool (lessB k n k' n')) ∧ Below w.heap.size w w' := by
  go_enter Tryd.func22, Tryd.ntmps22
  go_wp2
  all_goals
    go_ret
    exact ⟨ret_bool (by simp only [bne_iff_ne, bne_eq_false_iff_eq, ne_eq] at *; simp [lessB, *]), ((Below.refl _ _).alloc (Nat.le_refl _) _).alloc (by simp) _⟩

set_option maxHeartbeats 400000 in
theorem visible_any (k : Int) (w : World) :
    Calls Tryd.prog 28 #[.int .i64 k] w fun e w' => e = .returned (.bool (visB k)) ∧ w = w' := by
  go_enter Tryd.func28, Tryd.ntmps28
  go_wp2
  all_goals
    go_ret
    exact ⟨ret_bool (by simp [visB, *] <;> omega), rfl⟩

/-- Some bool is returned; the world stands. -/
def OnlyBool (w : World) (e : Ending) (w' : World) : Prop := ∃ b : Bool, e = .returned (.bool b) ∧ w = w'
set_option maxHeartbeats 400000 in
theorem heads_any (n : Int) (w : World) : Calls Tryd.prog 34 #[.int .i64 n] w (OnlyBool w) := by
  go_enter Tryd.func34, Tryd.ntmps34
  go_wp2
  go_loop [3] (fun k => ∃ m : Int, 4 ≤ m ∧ m ≤ 1024 ∧ k = .int .i64 m) (fun k => (2000 - intOf k).toNat)
  case atStart => exact ⟨4, by omega, by omega, rfl⟩
  case round =>
    obtain ⟨m, h1, h2, rfl⟩ := hrel
    by_cases ha : m < n
    · by_cases hb : m < 512
      · go_wp2
        go_round
        case rel => exact ⟨m + m, by omega, by omega, rfl⟩
        case measure => simp [intOf]; omega
      · have hd : decide (m < 512) = false := by simpa using hb
        go_wp2
        go_ret
        exact ⟨_, rfl, rfl⟩
    · have hd : decide (m < n) = false := by simpa using ha
      go_wp2
      go_ret
      exact ⟨_, rfl, rfl⟩
end Go.Proofs.YtpejmgellidhbaaDoor
