/- Making a table of pages, a bitmap. -/
import Derived.Test.YtpejmgellidhbaaGreatDoorT1
set_option linter.all false
set_option linter.unusedSimpArgs false
set_option maxRecDepth 10000
namespace Go.Proofs.YtpejmgellidhbaaGreatDoor
open Go Go.RowKit Go.Proofs

abbrev i0 : Value := .int .i64 0
theorem mk_pages (w : World) : (Instr.makeSlice 24 (.int .i64 1) (.int .i64 1)).run Tryz.prog w = .ok (.slice (some ⟨w.heap.size, 0, none⟩) 1 1) (w.alloc (.cells #[i0, i0, i0] 95)) := by kernel_rfl
theorem mk_rows (w : World) : (Instr.makeSlice 103 (.int .i64 1) (.int .i64 1)).run Tryz.prog w = .ok (.slice (some ⟨w.heap.size, 0, none⟩) 1 1) (w.alloc (.cells #[.int .u64 0] 83)) := by kernel_rfl
def zw : Array Value := (Array.range 64).map fun _ => i0
theorem mk_words (w : World) : (Instr.makeSlice 23 (.int .i64 64) (.int .i64 64)).run Tryz.prog w = .ok (.slice (some ⟨w.heap.size, 0, none⟩) 64 64) (w.alloc (.cells zw 3)) := by kernel_rfl
set_option maxHeartbeats 400000 in
theorem pagesNew (w : World) : Calls Tryz.prog 17 #[.int .i64 1] w fun e w' => e = .returned (.tuple #[.pointer (some ⟨w.heap.size + 1, 0, none⟩), .int .i64 0]) ∧
    w' = (w.alloc (.cells #[i0, i0, i0] 95)).alloc (.cells #[.slice (some ⟨w.heap.size, 0, none⟩) 1 1, i0, .int .i64 1] 102) := by
  have hm := mk_pages
  go_enter Tryz.func17, Tryz.ntmps17
  go_wp2
  go_ret2
  exact ⟨rfl, rfl⟩

set_option maxHeartbeats 400000 in
theorem bitmapNew (w : World) : Calls Tryz.prog 18 #[.int .i64 64] w fun e w' => e = .returned (.tuple #[.pointer (some ⟨w.heap.size + 1, 0, none⟩), .int .i64 0]) ∧
    w' = (w.alloc (.cells #[.int .u64 0] 83)).alloc (.cells #[.int .i64 64, .slice (some ⟨w.heap.size, 0, none⟩) 1 1] 105) := by
  have hm := mk_rows
  go_enter Tryz.func18, Tryz.ntmps18
  go_wp2
  go_ret2
  exact ⟨rfl, rfl⟩
end Go.Proofs.YtpejmgellidhbaaGreatDoor
