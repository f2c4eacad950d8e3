/-
  AuditFree (f3), alone: from its call of Check on. PRINTED BY A PROGRAM (gen_a4.py).
-/
import Derived.Test.YtpejmgellidhbaaGreatDoorA2
import Derived.Test.YtpejmgellidhbaaGreatDoorA3
set_option linter.all false
set_option linter.unusedSimpArgs false
set_option maxRecDepth 100000
namespace Go.Proofs.YtpejmgellidhbaaGreatDoor
open Go Go.Conc Go.RowKit Go.Proofs

/-- At AuditFree's return, with true. -/
def AtDone (w0 : World) (g : Goroutine) (w : World) : Prop := ∃ a k, g = G ((base 3).at a (.code .ret :: k)) [] ∧ a.defers = [] ∧ a.tmps.getD 2 undef = .bool true ∧ Upto [] w0 w
/-- At words' entry. -/
def AtWords (p : Nat) (w0 : World) (g : Goroutine) (w : World) : Prop := ∃ A M Wd Pg T5 T3, g = G ((base 9).at ⟨#[pa A, undef, undef, undef, undef, undef, undef, undef, undef, undef, undef, undef, undef, undef, undef, undef, undef, undef, undef, undef, undef, undef, undef, undef, undef, undef, undef, undef, undef, undef, undef, undef, undef, undef, undef, undef], []⟩ [.code body9]) [c5 T5, c3 T3] ∧ Upto [] w0 w ∧ w.heap[A]? = some (.cells (audC p Wd Pg M) 52) ∧ w0.heap.size ≤ A ∧
  w.heap[Pg]? = some (.cells (Array.replicate (3 * p) (.int .i64 0)) 95) ∧ w0.heap.size ≤ Pg ∧ T5.size = 52 ∧ T5[4]? = some (pa A) ∧ T3.size = 44 ∧ T3[0]? = some (.int .i64 p)

set_option maxHeartbeats 4000000 in
theorem law_good (p : Nat) (hp1 : 1 ≤ p) (hp : p ≤ 4096) (w0 w : World) (D Wd Pg : Nat) (hD : DumpAt p w0 w D Wd Pg) (v1 v2 v4 v5 v6 v7 v8 v9 v10 v11 v12 v13 v14 v15 v16 v17 v18 v19 v20 v21 v22 v23 v24 v25 v26 v27 v28 v29 v30 v31 v32 v33 v34 v35 v36 v37 v38 v39 v40 v41 v42 v43 : Value) : Reach (G ((base 3).at ⟨#[.int .i64 p, v1, v2, ptr D, v4, v5, v6, v7, v8, v9, v10, v11, v12, v13, v14, v15, v16, v17, v18, v19, v20, v21, v22, v23, v24, v25, v26, v27, v28, v29, v30, v31, v32, v33, v34, v35, v36, v37, v38, v39, v40, v41, v42, v43], []⟩ [.code RL4]) []) w (AtWords p w0) := by
  obtain ⟨U, hd, hpg, hnew⟩ := hD
  simp only [RL4, bodyL, Tryz.f3, Option.getD_some]
  have cc : ∀ i, w.cell? ⟨D, i, none⟩ = (dumpC p Wd Pg)[i]? := fun i => bc hd i
  have c0 := cc 0
  have c1 := cc 1
  have c2 := cc 2
  have c3 := cc 3
  have c4 := cc 4
  have c5 := cc 5
  have c6 := cc 6
  have c7 := cc 7
  have c8 := cc 8
  have c9 := cc 9
  have c10 := cc 10
  have c11 := cc 11
  simp only [List.getElem?_toArray, List.getElem?_cons_succ, List.getElem?_cons_zero] at c0 c1 c2 c3 c4 c5 c6 c7 c8 c9 c10 c11
  clear cc
  refine Reach.ctl rfl stepG_seq ?_
  (refine Reach.ctl rfl stepG_region ?_; simp only [List.size_toArray, List.length_cons, List.length_nil, Nat.reduceAdd, Nat.zero_add, List.range, List.range.loop])
  (refine Reach.gop rfl (by rfl) (by decide) (by rfl) (fun K hK => ?_); go_simp; refine hK _ _ ?_; clear hK K; try walk_nrm)
  clear c0 c1 c2 c3 c4 c5 c6 c7 c8 c9 c10 c11
  refine Reach.call (c := bodyK) (vs := #[.agg (dumpE p Wd Pg)]) rfl (by rfl) (by decide) rfl Tryz.func5 (by rfl) rfl (by kernel_rfl) ?_
  simp only [Tryz.ntmps5, List.size_toArray, List.length_cons, List.length_nil, Nat.reduceAdd, Nat.reduceSub, Array.replicate_succ, Array.replicate_zero, List.push_toArray, List.append_toArray, List.nil_append, List.cons_append]
  refine check_good p hp1 hp Wd Pg w ?_
  intro w' A M T5 U' hA hlA s5 h54
  have hz := U.size
  exact Reach.done ⟨A, M, Wd, Pg, T5, _, rfl, (U.trans U').less (by simp), hA, by omega, U'.get hpg (by simp), hnew, s5, h54, rfl, rfl⟩

set_option maxHeartbeats 4000000 in
theorem law_bad (p : Nat) (hbad : p = 0 ∨ 4096 < p) (w0 w : World) (D Wd Pg : Nat) (hD : DumpAt p w0 w D Wd Pg) (v1 v2 v4 v5 v6 v7 v8 v9 v10 v11 v12 v13 v14 v15 v16 v17 v18 v19 v20 v21 v22 v23 v24 v25 v26 v27 v28 v29 v30 v31 v32 v33 v34 v35 v36 v37 v38 v39 v40 v41 v42 v43 : Value) : Reach (G ((base 3).at ⟨#[.int .i64 p, v1, v2, ptr D, v4, v5, v6, v7, v8, v9, v10, v11, v12, v13, v14, v15, v16, v17, v18, v19, v20, v21, v22, v23, v24, v25, v26, v27, v28, v29, v30, v31, v32, v33, v34, v35, v36, v37, v38, v39, v40, v41, v42, v43], []⟩ [.code RL4]) []) w (AtDone w0) := by
  obtain ⟨U, hd, hpg, hnew⟩ := hD
  simp only [RL4, bodyL, Tryz.f3, Option.getD_some]
  have cc : ∀ i, w.cell? ⟨D, i, none⟩ = (dumpC p Wd Pg)[i]? := fun i => bc hd i
  have c0 := cc 0
  have c1 := cc 1
  have c2 := cc 2
  have c3 := cc 3
  have c4 := cc 4
  have c5 := cc 5
  have c6 := cc 6
  have c7 := cc 7
  have c8 := cc 8
  have c9 := cc 9
  have c10 := cc 10
  have c11 := cc 11
  simp only [List.getElem?_toArray, List.getElem?_cons_succ, List.getElem?_cons_zero] at c0 c1 c2 c3 c4 c5 c6 c7 c8 c9 c10 c11
  clear cc
  refine Reach.ctl rfl stepG_seq ?_
  (refine Reach.ctl rfl stepG_region ?_; simp only [List.size_toArray, List.length_cons, List.length_nil, Nat.reduceAdd, Nat.zero_add, List.range, List.range.loop])
  (refine Reach.gop rfl (by rfl) (by decide) (by rfl) (fun K hK => ?_); go_simp; refine hK _ _ ?_; clear hK K; try walk_nrm)
  clear c0 c1 c2 c3 c4 c5 c6 c7 c8 c9 c10 c11
  refine Reach.call (c := bodyK) (vs := #[.agg (dumpE p Wd Pg)]) rfl (by rfl) (by decide) rfl Tryz.func5 (by rfl) rfl (by kernel_rfl) ?_
  simp only [Tryz.ntmps5, List.size_toArray, List.length_cons, List.length_nil, Nat.reduceAdd, Nat.reduceSub, Array.replicate_succ, Array.replicate_zero, List.push_toArray, List.append_toArray, List.nil_append, List.cons_append]
  refine check_bad w _ _ _ _ _ _ _ _ _ _ _ _ _ _ _ hbad rfl ?_
  intro y X Uy hX
  try walk_nrm
  (refine Reach.oper rfl (by rfl) (by decide) (fun K hK => ?_); go_simp; refine hK _ _ ⟨Nat.le_refl _, (by rw [listed_nil (by simp [go_sem])]; simp), ?_⟩; clear hK K; try walk_nrm)
  refine Reach.ctl rfl stepG_region_end ?_
  have x0 : y.cell? ⟨X, 0, none⟩ = some (.int .i64 0) := bc hX 0
  have x1 : y.cell? ⟨X, 1, none⟩ = some (.int .i64 6) := bc hX 1
  have Uf : Upto [] w0 y := (U.trans Uy).less (by simp)
  clear hX hd hpg hnew U Uy
  refine Reach.ctl rfl stepG_seq ?_
  refine Reach.ctl rfl stepG_seq ?_
  rcases hbad with rfl | hbig
  · refine Reach.piece (by kernel_rfl) rfl rfl ?_
    go_wp2
    refine Reach.ctl rfl (stepG_cond (t := false) (by first | rfl | (simp [Act.eval]; done) | (simp [Act.eval]; omega))) ?_
    simp only [Bool.false_eq_true, if_false]
    refine Reach.ctl rfl stepG_skip ?_
    refine Reach.ctl rfl stepG_seq ?_
    refine Reach.piece (by kernel_rfl) rfl rfl ?_
    go_wp2
    exact Reach.done ⟨_, _, rfl, rfl, rfl, Uf⟩
  · have g1 : (1 : Int) ≤ (p : Int) := by omega
    have g2 : ¬ (p : Int) ≤ 4096 := by omega
    refine Reach.piece (by kernel_rfl) rfl rfl ?_
    go_wp2
    refine Reach.ctl rfl (stepG_cond (t := false) (by first | rfl | (simp [Act.eval]; done) | (simp [Act.eval]; omega))) ?_
    simp only [Bool.false_eq_true, if_false]
    refine Reach.ctl rfl stepG_skip ?_
    refine Reach.ctl rfl stepG_seq ?_
    refine Reach.piece (by kernel_rfl) rfl rfl ?_
    go_wp2
    exact Reach.done ⟨_, _, rfl, rfl, rfl, Uf⟩
end Go.Proofs.YtpejmgellidhbaaGreatDoor
