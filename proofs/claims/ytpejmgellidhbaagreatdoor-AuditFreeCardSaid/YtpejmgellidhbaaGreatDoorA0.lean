/-
  Check (f5), alone, of a dump whose pages are none or more than 4096: it yields the one finding. PRINTED BY A PROGRAM (gen_a0.py).
-/
import Derived.Test.YtpejmgellidhbaaGreatDoorM8
import Derived.Test.YtpejmgellidhbaaGreatDoorT12
set_option linter.all false
set_option linter.unusedSimpArgs false
set_option maxRecDepth 100000
namespace Go.Proofs.YtpejmgellidhbaaGreatDoor
open Go Go.Conc Go.RowKit Go.Proofs

/-- A dump. -/
abbrev dumpV (wv pv bv : Value) (r0 r1 r2 r3 r4 r5 r6 r7 z : Int) : Value := .agg #[wv, pv, bv, .int .i64 r0, .int .i64 r1, .int .i64 r2, .int .i64 r3, .int .i64 r4, .int .i64 r5, .int .i64 r6, .int .i64 r7, .int .i64 z]
noncomputable def bodyK : Code := Tryz.f5.body.getD .skip

set_option maxHeartbeats 4000000 in
theorem check_bad (w : World) (wa pa' : Option Addr) (wn wc pn pc : Nat) (r0 r1 r2 r3 r4 r5 r6 r7 : Int) (z : Int) (hbad : pn = 0 ∨ 4096 < pn) {S : Goroutine → World → Prop} {b : Frame} {a : Act} {k : List Item} {cs : List Frame} {ops : Array Oper} {i : Nat} {rest : List Nat} {o : Oper} (ho : ops[i]? = some o)
    (hS : ∀ w' X, Upto [] w w' → w'.heap[X]? = some (.cells #[.int .i64 0, .int .i64 6] 32) → Reach (G (b.at (a.put o.dst (.slice (some ⟨X, 0, none⟩) 1 1)) (.inRegion ops rest :: k)) cs) w' S) :
    Reach (G ((base 5).at ⟨#[dumpV (.slice wa wn wc) (.slice pa' pn pc) (.slice none 0 0) r0 r1 r2 r3 r4 r5 r6 r7 z, undef, undef, undef, undef, undef, undef, undef, undef, undef, undef, undef, undef, undef, undef, undef, undef, undef, undef, undef, undef, undef, undef, undef, undef, undef, undef, undef, undef, undef, undef, undef, undef, undef, undef, undef, undef, undef, undef, undef, undef, undef, undef, undef, undef, undef, undef, undef, undef, undef, undef, undef], []⟩ [.code bodyK]) (b.at a (.inRegion ops (i :: rest) :: k) :: cs)) w S := by
  simp only [bodyK, Tryz.f5, Option.getD_some]
  refine Reach.ctl rfl stepG_seq ?_
  refine Reach.piece (by kernel_rfl) rfl rfl ?_
  go_wp2
  refine Reach.ctl rfl stepG_seq ?_
  refine Reach.piece (by kernel_rfl) rfl rfl ?_
  go_wp2
  have U : Upto [] w (w.alloc (.cells #[.slice wa wn wc, .slice pa' pn pc, .slice none 0 0, .int .i64 r0, .int .i64 r1, .int .i64 r2, .int .i64 r3, .int .i64 r4, .int .i64 r5, .int .i64 r6, .int .i64 r7, .int .i64 z] 28)) := (Upto.refl w).alloc _
  generalize w.alloc (.cells #[.slice wa wn wc, .slice pa' pn pc, .slice none 0 0, .int .i64 r0, .int .i64 r1, .int .i64 r2, .int .i64 r3, .int .i64 r4, .int .i64 r5, .int .i64 r6, .int .i64 r7, .int .i64 z] 28) = x at U ⊢
  rcases hbad with rfl | hbig
  · refine Reach.ctl rfl stepG_seq ?_
    refine Reach.ctl rfl stepG_seq ?_
    refine Reach.piece (by kernel_rfl) rfl rfl ?_
    go_wp2
    refine Reach.ctl rfl (stepG_cond (t := true) rfl) ?_
    simp only [if_true]
    refine Reach.ctl rfl stepG_seq ?_
    refine Reach.piece (by kernel_rfl) rfl rfl ?_
    go_wp2
    refine Reach.ret Tryz.func5 ho rfl (resultsC_tmp (by rfl) _) ?_
    exact hS _ _ (U.alloc _) (ha_new x _)
  · have h1 : ¬ (pn : Int) = 0 := by omega
    have h2 : (4096 : Int) < pn := by omega
    refine Reach.ctl rfl stepG_seq ?_
    refine Reach.ctl rfl stepG_seq ?_
    refine Reach.piece (by kernel_rfl) rfl rfl ?_
    go_wp2
    refine Reach.ctl rfl (stepG_cond (t := true) rfl) ?_
    simp only [if_true]
    refine Reach.ctl rfl stepG_seq ?_
    refine Reach.piece (by kernel_rfl) rfl rfl ?_
    go_wp2
    refine Reach.ret Tryz.func5 ho rfl (resultsC_tmp (by rfl) _) ?_
    exact hS _ _ (U.alloc _) (ha_new x _)
end Go.Proofs.YtpejmgellidhbaaGreatDoor
