/- The functions raw and parts of show. -/
import Derived.Test.YtpejmgellidhbaaDoorA3
import Derived.Handy
import Derived.Deep.RegionWith
namespace Go.Proofs.YtpejmgellidhbaaDoor
open Go.RowKit

def rawM (xs : List Int) : Int := xs.getD 0 0

set_option maxHeartbeats 400000 in
theorem raw_any (id kd : Int) (rv fv ev : Value) (xs : List Int) (w : World) (h : RdInts w rv xs) :
    Calls Tryd.prog 54 #[.agg #[.int .i64 id, .int .i64 kd, rv, fv, ev], .int .i64 0] w fun e w' => e = .returned (.int .i64 (rawM xs)) ∧ Below w.heap.size w w' := by
  obtain ⟨A, c, rfl, hl, hr⟩ := h
  by_cases hlt : 0 < xs.length
  · obtain ⟨b, o, rfl, hbl, hr⟩ := hr (by omega)
    have r0 := hr 0 hlt
    rw [Nat.add_zero] at r0
    have hx : rawM xs = xs[0] := by simp [rawM, hlt]
    clear hr
    generalize xs[0] = x at *
    go_enter Tryd.func54, Tryd.ntmps54
    go_wp2
    go_ret
    exact ⟨by rw [hx]; rfl, by go_grown⟩
  · have hx : rawM xs = 0 := by
      have : xs = [] := List.eq_nil_of_length_eq_zero (by omega)
      simp [rawM, this]
    go_enter Tryd.func54, Tryd.ntmps54
    go_wp2
    go_ret
    exact ⟨by rw [hx]; rfl, by go_grown⟩

/-- A row of the call's own that reads as these values. -/
def vcells (xs : List (Int × Int)) : List Value := xs.flatMap fun x => [.int .i64 x.1, .int .i64 x.2]
/-- show.parts -/
def partsM (kd : Int) (xs : List (Int × Int)) : List (Int × Int) :=
  if kd = 1 then [fieldM xs 0, fieldM xs 1] else if kd = 2 then [fieldM xs 0] else xs

/-- A slice that reads as these values comes back: a new one, or the given one. -/
def RetVals (w0 : World) (fv : Value) (xs : List (Int × Int)) (e : Ending) (w' : World) : Prop := ∃ v, e = .returned v ∧ RdVals w' v xs ∧ Below w0.heap.size w0 w' ∧ ∀ g, v.ownBlock = some g → w0.heap.size ≤ g ∨ v = fv

theorem rd_new2 (w : World) (x y : Int × Int) : RdVals (w.alloc (.cells #[.int .i64 x.1, .int .i64 x.2, .int .i64 y.1, .int .i64 y.2] 27)) (.slice (some ⟨w.heap.size, 0, none⟩) 2 2) [x, y] := by
  refine ⟨_, 2, rfl, by simp, fun _ => ⟨w.heap.size, 0, rfl, by simp, fun j hj => ?_⟩⟩
  simp only [List.length_cons, List.length_nil] at hj
  match j, hj with
  | 0, _ => exact ⟨by rw [bc (ha_new w _)]; rfl, by rw [bc (ha_new w _)]; rfl⟩
  | 1, _ => exact ⟨by rw [bc (ha_new w _)]; rfl, by rw [bc (ha_new w _)]; rfl⟩
theorem rd_new1 (w : World) (x : Int × Int) : RdVals (w.alloc (.cells #[.int .i64 x.1, .int .i64 x.2] 27)) (.slice (some ⟨w.heap.size, 0, none⟩) 1 1) [x] := by
  refine ⟨_, 1, rfl, by simp, fun _ => ⟨w.heap.size, 0, rfl, by simp, fun j hj => ?_⟩⟩
  simp only [List.length_cons, List.length_nil] at hj
  match j, hj with
  | 0, _ => exact ⟨by rw [bc (ha_new w _)]; rfl, by rw [bc (ha_new w _)]; rfl⟩

set_option maxHeartbeats 1000000 in
theorem parts_1 (id : Int) (rv fv ev : Value) (xs : List (Int × Int)) (w : World) (h : RdVals w fv xs) :
    Calls Tryd.prog 37 #[.agg #[.int .i64 id, .int .i64 1, rv, fv, ev]] w (RetVals w fv [fieldM xs 0, fieldM xs 1]) := by
  go_enter Tryd.func37, Tryd.ntmps37
  go_wp2
  go_region_with (first | (go_at_call 43; (with_reducible refine (field0 _ _ _ _ _ xs _ ?_).mono ?_); exact h.below (B := w.heap.size) (by go_grown) (Nat.le_refl _); rintro e w1 ⟨rfl, hb1⟩; have hw1 : Below w.heap.size w w1 := (show Below w.heap.size w _ by go_grown).trans (hb1.mono (by simp; try omega)); obtain ⟨hc1, hf1⟩ := bcell hb1; unfold vv) | (go_at_call 43; (with_reducible refine (field1 _ _ _ _ _ xs _ ?_).mono ?_); exact h.below (B := w.heap.size) (by go_grown) (Nat.le_refl _); rintro e w2 ⟨rfl, hb2⟩; have hw2 : Below w.heap.size w w2 := (show Below w.heap.size w _ by go_grown).trans (hb2.mono (by have := hw1.size; simp; try omega)); obtain ⟨hc2, hf2⟩ := bcell hb2; unfold vv))
  all_goals
    go_wp2
    go_ret
    exact ⟨_, rfl, rd_new2 _ _ _, hw2.alloc (by have := hw2.size; omega) _, fun g hg => .inl (Nat.le_trans hw2.size (Nat.le_of_eq (Option.some.inj hg)))⟩

set_option maxHeartbeats 1000000 in
theorem parts_2 (id : Int) (rv fv ev : Value) (xs : List (Int × Int)) (w : World) (h : RdVals w fv xs) :
    Calls Tryd.prog 37 #[.agg #[.int .i64 id, .int .i64 2, rv, fv, ev]] w (RetVals w fv [fieldM xs 0]) := by
  go_enter Tryd.func37, Tryd.ntmps37
  go_wp2_with (go_at_call 43; refine (field0 _ _ _ _ _ xs _ (h.below (B := w.heap.size) (by go_grown) (Nat.le_refl _))).mono ?_; rintro e w1 ⟨rfl, hb1⟩; unfold vv)
  go_ret
  have hw1 : Below w.heap.size w w1 := (show Below w.heap.size w _ by go_grown).trans (hb1.mono (by simp))
  exact ⟨_, rfl, rd_new1 _ _, hw1.alloc (by have := hw1.size; omega) _, fun g hg => .inl (Nat.le_trans hw1.size (Nat.le_of_eq (Option.some.inj hg)))⟩

set_option maxHeartbeats 1000000 in
theorem parts_3 (id kd : Int) (rv fv ev : Value) (xs : List (Int × Int)) (w : World) (h : RdVals w fv xs) (h1 : (kd == 1) = false) (h2 : (kd == 2) = false) :
    Calls Tryd.prog 37 #[.agg #[.int .i64 id, .int .i64 kd, rv, fv, ev]] w (RetVals w fv xs) := by
  go_enter Tryd.func37, Tryd.ntmps37
  go_wp2
  go_ret
  exact ⟨_, rfl, h.below (B := w.heap.size) (by go_grown) (Nat.le_refl _), by go_grown, fun _ _ => .inr rfl⟩

theorem parts_any (id kd : Int) (rv fv ev : Value) (xs : List (Int × Int)) (w : World) (h : RdVals w fv xs) :
    Calls Tryd.prog 37 #[.agg #[.int .i64 id, .int .i64 kd, rv, fv, ev]] w (RetVals w fv (partsM kd xs)) := by
  by_cases h1 : kd = 1
  · subst h1
    exact parts_1 id rv fv ev xs w h
  · by_cases h2 : kd = 2
    · subst h2
      exact parts_2 id rv fv ev xs w h
    · rw [partsM, if_neg h1, if_neg h2]
      exact parts_3 id kd rv fv ev xs w h (by simpa using h1) (by simpa using h2)
end Go.Proofs.YtpejmgellidhbaaDoor
