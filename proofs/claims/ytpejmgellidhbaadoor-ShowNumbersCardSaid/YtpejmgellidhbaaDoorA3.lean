/- The functions field, raw, parts of show. -/
import Derived.Test.YtpejmgellidhbaaDoorA2
namespace Go.Proofs.YtpejmgellidhbaaDoor
open Go.RowKit

def fieldM (xs : List (Int × Int)) (i : Nat) : Int × Int := xs.getD i (3, 0)
/-- A node's value. -/
def ndv (id kd : Int) (rv fv ev : Value) : Value := .agg #[.int .i64 id, .int .i64 kd, rv, fv, ev]

set_option maxHeartbeats 400000 in
theorem field_any (id kd : Int) (rv fv ev : Value) (xs : List (Int × Int)) (i : Nat) (w : World) (h : RdVals w fv xs) (hi : i < 2) :
    Calls Tryd.prog 43 #[.agg #[.int .i64 id, .int .i64 kd, rv, fv, ev], .int .i64 i] w fun e w' => e = .returned (vv (fieldM xs i)) ∧ Below w.heap.size w w' := by
  obtain ⟨A, c, rfl, hl, hr⟩ := h
  by_cases hlt : i < xs.length
  · obtain ⟨b, o, rfl, hbl, hr⟩ := hr (by omega)
    obtain ⟨r0, r1⟩ := hr i hlt
    have hx : fieldM xs i = xs[i] := by simp [fieldM, hlt]
    clear hr
    generalize xs[i] = x at *
    go_enter Tryd.func43, Tryd.ntmps43
    go_wp2
    exact bodyPost_ret (v := vv x) (by simp [results, Tryd.results43, go_sem, vv]) rfl ⟨by rw [hx], ((Below.refl _ _).alloc (Nat.le_refl _) _).alloc (by simp) _⟩
  · have hx : fieldM xs i = (3, 0) := by simp [fieldM, hlt]
    have hm : madeM 3 0 = (3, 0) := by decide
    go_enter Tryd.func43, Tryd.ntmps43
    go_wp2_with (go_at_call 48; refine (imm_any _ _).mono ?_; rintro e w1 ⟨rfl, hb1⟩; obtain ⟨hc1, hf1⟩ := bcell hb1; rw [hm]; unfold vv)
    have hb := blk_below hb1 (ha_new _ _) (by simp)
    simp only [World.size_alloc] at hb
    refine bodyPost_ret (res27 rfl rfl (hs_same (hs_same hb))) rfl ⟨by rw [hx]; simp [vv], ?_⟩
    exact (((((Below.refl _ _).alloc (Nat.le_refl _) _).alloc (by simp) _).trans (hb1.mono (by simp; omega))).setCell (by simp) _).setCell (by simp) _

theorem field0 (id kd : Int) (rv fv ev : Value) (xs : List (Int × Int)) (w : World) (h : RdVals w fv xs) :
    Calls Tryd.prog 43 #[.agg #[.int .i64 id, .int .i64 kd, rv, fv, ev], .int .i64 0] w fun e w' => e = .returned (vv (fieldM xs 0)) ∧ Below w.heap.size w w' :=
  field_any id kd rv fv ev xs 0 w h (by omega)
theorem field1 (id kd : Int) (rv fv ev : Value) (xs : List (Int × Int)) (w : World) (h : RdVals w fv xs) :
    Calls Tryd.prog 43 #[.agg #[.int .i64 id, .int .i64 kd, rv, fv, ev], .int .i64 1] w fun e w' => e = .returned (vv (fieldM xs 1)) ∧ Below w.heap.size w w' :=
  field_any id kd rv fv ev xs 1 w h (by omega)

end Go.Proofs.YtpejmgellidhbaaDoor
