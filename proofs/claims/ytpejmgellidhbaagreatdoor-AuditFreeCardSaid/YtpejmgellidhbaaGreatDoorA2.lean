/-
  AuditFree (f3), alone: up to its call of Check. PRINTED BY A PROGRAM (gen_a2.py).
-/
import Derived.Test.YtpejmgellidhbaaGreatDoorA1
import Derived.Laws.MakeOwn
import Derived.Laws.Append
import Derived.Conc.AppendWalk
set_option linter.all false
set_option linter.unusedSimpArgs false
set_option maxRecDepth 100000
namespace Go.Proofs.YtpejmgellidhbaaGreatDoor
open Go Go.Conc Go.RowKit Go.Proofs

noncomputable def bodyL : Code := Tryz.f3.body.getD .skip
/-- From the call of Check on. -/
noncomputable def RL4 : Code := match bodyL with | .seq _ (.seq _ (.seq _ r)) => r | _ => .skip

theorem info95 : (Tryz.prog.info? 95).map (fun i => (i.zero, i.size, i.bytes)) = some (some (.agg #[.int .i64 0, .int .i64 0, .int .i64 0]), 3, 24) := by kernel_rfl
theorem info3b : (Tryz.prog.info? 3).map (fun i => (i.zero, i.size, i.bytes)) = some (some (.int .i64 0), 1, 8) := by kernel_rfl
theorem made3 (p : Nat) : madeCells (Value.agg #[.int .i64 0, .int .i64 0, .int .i64 0]).cells (p * 3) = Array.replicate (3 * p) (.int .i64 0) := by
  apply Array.ext
  · simp [size_madeCells]; omega
  · intro i h1 h2
    simp only [madeCells, Array.getElem_map, Array.getElem_range, Array.getElem_replicate]
    have hc : (Value.agg #[.int .i64 0, .int .i64 0, .int .i64 0]).cells = #[.int .i64 0, .int .i64 0, .int .i64 0] := rfl
    rw [hc]
    have : i % 3 = 0 ∨ i % 3 = 1 ∨ i % 3 = 2 := by omega
    rcases this with h | h | h <;> simp [h]
theorem mk24 (p : Nat) (hp : p ≤ 5000) (w : World) : (Instr.makeSlice 24 (.int .i64 (p : Int)) (.int .i64 (p : Int))).run Tryz.prog w = .ok (.slice (some ⟨w.heap.size, 0, none⟩) p p) (w.alloc (.cells (Array.replicate (3 * p) (.int .i64 0)) 95)) := by
  obtain ⟨i, hi, hz0, hz1, hz2⟩ := info_parts info95
  have := run_make (P := Tryz.prog) w 24 95 i _ Tryz.underlying24 hi hz0 .i64 .i64 p p (by omega) (by omega) (by rw [hz2]; omega) (by omega)
  rw [hz1] at this
  simpa [made3] using this
theorem mk23 (p : Nat) (hp : p ≤ 5000) (w : World) : (Instr.makeSlice 23 (.int .i64 (64 * (p : Int))) (.int .i64 (64 * (p : Int)))).run Tryz.prog w = .ok (.slice (some ⟨w.heap.size, 0, none⟩) (64 * p) (64 * p)) (w.alloc (.cells (madeCells (Value.int .i64 0).cells (64 * p)) 3)) := by
  obtain ⟨i, hi, hz0, hz1, hz2⟩ := info_parts info3b
  have := run_make (P := Tryz.prog) w 23 3 i _ Tryz.underlying23 hi hz0 .i64 .i64 (64 * p) (64 * p) (by omega) (by omega) (by rw [hz2]; omega) (by omega)
  rw [hz1, show (64 * (p : Int)).toNat = 64 * p from by omega, Nat.mul_one] at this
  exact this

theorem get2 (w : World) (x y z : Obj) : (((w.alloc x).alloc y).alloc z).heap[w.heap.size + 1 + 1]? = some z := by
  have := ha_new ((w.alloc x).alloc y) z
  simpa using this
theorem get1 (w : World) (x y z : Obj) : (((w.alloc x).alloc y).alloc z).heap[w.heap.size + 1]? = some y := by
  refine ha_old ?_
  have := ha_new (w.alloc x) y
  simpa using this
theorem get0 (w : World) (x y z : Obj) : (((w.alloc x).alloc y).alloc z).heap[w.heap.size]? = some x := ha_old (ha_old (ha_new w x))
abbrev dumpC (p Wd Pg : Nat) : Array Value := #[.slice (some ⟨Wd, 0, none⟩) (64 * p) (64 * p), .slice (some ⟨Pg, 0, none⟩) p p, .slice none 0 0, .int .i64 (-1), .int .i64 (-1), .int .i64 (-1), .int .i64 (-1), .int .i64 (-1), .int .i64 (-1), .int .i64 (-1), .int .i64 (-1), .int .i64 0]
/-- The dump is laid. -/
structure DumpAt (p : Nat) (w w' : World) (D Wd Pg : Nat) : Prop where
  upto : Upto [] w w'
  dump : w'.heap[D]? = some (.cells (dumpC p Wd Pg) 28)
  pages : w'.heap[Pg]? = some (.cells (Array.replicate (3 * p) (.int .i64 0)) 95)
  new : w.heap.size ≤ Pg

set_option maxHeartbeats 4000000 in
/-- In range: to the call of Check. -/
theorem law_head (tab : Nat → Int) (p : Nat) (hp : p ≤ 5000) (w : World) (ht : TabZ tab w) (h0 : 0 < w.heap.size) {S : Goroutine → World → Prop}
    (hS : ∀ w1 w2 D, AliveP w w1 → (∃ Wd Pg, DumpAt p w1 w2 D Wd Pg) → ∀ v1 v2 v4 v5 v6 v7 v8 v9 v10 v11 v12 v13 v14 v15 v16 v17 v18 v19 v20 v21 v22 v23 v24 v25 v26 v27 v28 v29 v30 v31 v32 v33 v34 v35 v36 v37 v38 v39 v40 v41 v42 v43, Reach (G ((base 3).at ⟨#[.int .i64 p, v1, v2, ptr D, v4, v5, v6, v7, v8, v9, v10, v11, v12, v13, v14, v15, v16, v17, v18, v19, v20, v21, v22, v23, v24, v25, v26, v27, v28, v29, v30, v31, v32, v33, v34, v35, v36, v37, v38, v39, v40, v41, v42, v43], []⟩ [.code RL4]) []) w2 S) :
    Reach (G ((base 3).at ⟨#[.int .i64 p, undef, undef, undef, undef, undef, undef, undef, undef, undef, undef, undef, undef, undef, undef, undef, undef, undef, undef, undef, undef, undef, undef, undef, undef, undef, undef, undef, undef, undef, undef, undef, undef, undef, undef, undef, undef, undef, undef, undef, undef, undef, undef, undef], []⟩ [.code bodyL]) []) w S := by
  have q0 : ¬ (p : Int) < 0 := by omega
  have q1 : ¬ (5000 : Int) < (p : Int) := by omega
  have hw : IntKind.i64.wrap (64 * (p : Int)) = 64 * (p : Int) := by rw [IntKind.wrap_i64]; omega
  have m23 := mk23 p hp
  have m24 := mk24 p hp
  simp only [RL4, bodyL, Tryz.f3, Option.getD_some] at hS ⊢
  refine Reach.ctl rfl stepG_seq ?_
  refine Reach.piece (by kernel_rfl) rfl rfl ?_
  go_wp2
  refine Reach.ctl rfl stepG_seq ?_
  refine Reach.ctl rfl stepG_seq ?_
  (refine Reach.ctl rfl stepG_region ?_; simp only [List.size_toArray, List.length_cons, List.length_nil, Nat.reduceAdd, Nat.zero_add, List.range, List.range.loop])
  refine Reach.call (c := body4) (vs := #[]) rfl (by rfl) (by decide) rfl Tryz.func4 (by rfl) rfl (by kernel_rfl) ?_
  simp only [Tryz.ntmps4, List.size_toArray, List.length_cons, List.length_nil, Nat.reduceAdd, Nat.reduceSub, Array.replicate_succ, Array.replicate_zero, List.push_toArray, List.append_toArray, List.nil_append, List.cons_append]
  refine alive_reach tab w ht h0 rfl ?_
  intro w1 hA
  walk_nrm
  (refine Reach.oper rfl (by rfl) (by decide) (fun K hK => ?_); go_simp; refine hK _ _ ⟨Nat.le_refl _, (by rw [listed_nil (by simp [go_sem])]; simp), ?_⟩; clear hK K; try walk_nrm)
  (refine Reach.oper rfl (by rfl) (by decide) (fun K hK => ?_); go_simp; refine hK _ _ ⟨Nat.le_refl _, (by rw [listed_nil (by simp [go_sem])]; simp), ?_⟩; clear hK K; try walk_nrm)
  (refine Reach.oper rfl (by rfl) (by decide) (fun K hK => ?_); go_simp; refine hK _ _ ⟨Nat.le_refl _, (by rw [listed_nil (by simp [go_sem])]; simp), ?_⟩; clear hK K; try walk_nrm)
  (refine Reach.oper rfl (by rfl) (by decide) (fun K hK => ?_); go_simp; refine hK _ _ ⟨Nat.le_refl _, (by rw [listed_nil (by simp [go_sem, *])]; simp), ?_⟩; clear hK K; try walk_nrm)
  (refine Reach.oper rfl (by rfl) (by decide) (fun K hK => ?_); go_simp; refine hK _ _ ⟨Nat.le_refl _, (by rw [listed_nil (by simp [go_sem, *])]; simp), ?_⟩; clear hK K; try walk_nrm)
  (refine Reach.oper rfl (by rfl) (by decide) (fun K hK => ?_); go_simp; refine hK _ _ ⟨Nat.le_refl _, (by rw [listed_nil (by simp [go_sem])]; simp), ?_⟩; clear hK K; try walk_nrm)
  (refine Reach.oper rfl (by rfl) (by decide) (fun K hK => ?_); go_simp; refine hK _ _ ⟨Nat.le_refl _, (by rw [listed_nil (by simp [go_sem])]; simp), ?_⟩; clear hK K; try walk_nrm)
  (refine Reach.oper rfl (by rfl) (by decide) (fun K hK => ?_); go_simp; refine hK _ _ ⟨Nat.le_refl _, (by rw [listed_nil (by simp [go_sem, *])]; simp), ?_⟩; clear hK K; try walk_nrm)
  (refine Reach.oper rfl (by rfl) (by decide) (fun K hK => ?_); go_simp; refine hK _ _ ⟨Nat.le_refl _, (by rw [listed_nil (by simp [go_sem, *])]; simp), ?_⟩; clear hK K; try walk_nrm)
  refine Reach.ctl rfl stepG_region_end ?_
  refine Reach.ctl rfl (stepG_cond (t := false) (by simp [Act.eval]; omega)) ?_
  simp only [Bool.false_eq_true, if_false]
  refine Reach.ctl rfl stepG_skip ?_
  refine Reach.ctl rfl stepG_seq ?_
  refine Reach.piece (by kernel_rfl) rfl rfl ?_
  go_region
  all_goals refine ⟨rfl, ?_⟩
  all_goals try walk_nrm
  all_goals refine hS w1 _ _ hA ?_ _ _ _ _ _ _ _ _ _ _ _ _ _ _ _ _ _ _ _ _ _ _ _ _ _ _ _ _ _ _ _ _ _ _ _ _ _ _ _ _ _ _
  all_goals first
    | exact ⟨w1.heap.size, w1.heap.size + 1, ((((Upto.refl w1).alloc _).alloc _).alloc _).draw _, get2 _ _ _ _, get1 _ _ _ _, by omega⟩
    | exact ⟨w1.heap.size, w1.heap.size + 1 + 1, ((((Upto.refl w1).alloc _).alloc _).alloc _).draw _, get1 _ _ _ _, get2 _ _ _ _, by omega⟩
    | exact ⟨w1.heap.size + 1, w1.heap.size, ((((Upto.refl w1).alloc _).alloc _).alloc _).draw _, get2 _ _ _ _, get0 _ _ _ _, by omega⟩
    | exact ⟨w1.heap.size + 1, w1.heap.size + 1 + 1, ((((Upto.refl w1).alloc _).alloc _).alloc _).draw _, get0 _ _ _ _, get2 _ _ _ _, by omega⟩
    | exact ⟨w1.heap.size + 1 + 1, w1.heap.size, ((((Upto.refl w1).alloc _).alloc _).alloc _).draw _, get1 _ _ _ _, get0 _ _ _ _, by omega⟩
    | exact ⟨w1.heap.size + 1 + 1, w1.heap.size + 1, ((((Upto.refl w1).alloc _).alloc _).alloc _).draw _, get0 _ _ _ _, get1 _ _ _ _, by omega⟩
end Go.Proofs.YtpejmgellidhbaaGreatDoor
