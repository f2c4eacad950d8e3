/- rowOf and Size of the reference of layouts: what counts needs of them. -/
import Derived.Test.YtpejmgellidhbaaDoorN1
namespace Go.Proofs.YtpejmgellidhbaaDoor
open Go.RowKit

theorem res78 {fn : Func} {p : Tmp} (h : fn.results = #[.cell p 78]) {tmps : Array Value} {w : World} {b : Nat} {cs : Array Value} {T : TypeId} {fr : Nat × Nat}
    (ht : tmps.getD p undef = .pointer (some ⟨b, 0, none⟩)) (hb : w.heap[b]? = some (.cells cs T fr)) (hs : cs.size = 5) : (results fn tmps).run Tryd.prog w = .ok (.agg cs) w := by
  refine (results_cell1 h _ _ _).trans ?_
  rw [ht]
  simp only [run_asAddr, Result.andThen]
  exact run_loadVar_row (P := Tryd.prog) w b T 78 cs fr _ hb Tryd.underlying78 rfl (by rw [hs]; kernel_rfl)

section
variable {ops : Array Oper} {rest : List Oper} {op : Oper} {a : Act} {w : World} {Q : Exit → Act → World → Prop}
/-- A row is stored whole. -/
theorem st78 (hgd : op.guard = none) (x y : Operand) (ho : op.op = .store 78 x y) (g : Nat) {i1 i2 i3 i4 : Int} {A : Option Addr} {n c : Nat} (hx : a.eval x = .pointer (some ⟨g, 0, none⟩))
    (hy : a.eval y = .agg #[.slice A n c, .int .i64 i1, .int .i64 i2, .int .i64 i3, .int .i64 i4]) {T : TypeId} {old : Array Value} (hg : w.heap[g]? = some (.cells old T (0, 0))) (hold : old.size = 5)
    (h : wpList Tryd.prog ops Q rest (a.put op.dst undef) (w.setRow g #[.slice A n c, .int .i64 i1, .int .i64 i2, .int .i64 i3, .int .i64 i4])) : wpList Tryd.prog ops Q (op :: rest) a w :=
  wpList_store_row hgd 78 x y ho g _ hx hy T old hg (by kernel_rfl) hold (by simp [Value.oneCell']) h
end
/-- What rowOf tells. -/
def RowPost (w : World) (e : Ending) (w' : World) : Prop := ∃ (A : Option Addr) (n c : Nat) (rest least most per : Int), e = .returned (.agg #[.slice A n c, .int .i64 rest, .int .i64 least, .int .i64 most, .int .i64 per]) ∧
  n ≤ 4 ∧ 0 ≤ least ∧ 0 ≤ most ∧ most ≤ 4096 ∧ (0 < rest → 1 ≤ per ∧ per ≤ 8) ∧ Below w.heap.size w w'
def zero78 : Obj := .cells #[.slice none 0 0, .int .i64 0, .int .i64 0, .int .i64 0, .int .i64 0] 78
set_option maxHeartbeats 1000000 in
theorem rowOf_any (k : Int) (w : World) : Calls Tryd.prog 33 #[.int .i64 k] w (RowPost w) := by
  go_enter Tryd.func33, Tryd.ntmps33
  go_wp2
  all_goals
    first
      | (refine bodyPost_ret (res78 rfl rfl (ha_old (ha_new w _)) rfl) rfl ⟨_, _, _, _, _, _, _, rfl, by omega, by omega, by omega, by omega, fun _ => by omega, ?_⟩; exact ((Below.refl _ _).alloc (Nat.le_refl _) _).alloc (by simp) _)
      | (refine bodyPost_ret (res78 rfl rfl (ha_new w _) rfl) rfl ⟨_, _, _, _, _, _, _, rfl, by omega, by omega, by omega, by omega, fun _ => by omega, ?_⟩; exact (Below.refl _ _).alloc (Nat.le_refl _) _)
end Go.Proofs.YtpejmgellidhbaaDoor
