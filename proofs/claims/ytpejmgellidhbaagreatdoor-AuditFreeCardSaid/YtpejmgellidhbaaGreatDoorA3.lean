/-
  Check (f5), alone, of a dump of p free pages: up to its call of words. PRINTED BY A PROGRAM (gen_a3.py).
-/
import Derived.Test.YtpejmgellidhbaaGreatDoorA0
import Derived.Test.YtpejmgellidhbaaGreatDoorM9
import Derived.Test.YtpejmgellidhbaaGreatDoorX9
set_option linter.all false
set_option linter.unusedSimpArgs false
set_option maxRecDepth 100000
namespace Go.Proofs.YtpejmgellidhbaaGreatDoor
open Go Go.Conc Go.RowKit Go.Proofs

noncomputable def body8 : Code := Tryz.f8.body.getD .skip
abbrev dumpE (p Wd Pg : Nat) : Array Value := #[.slice (some ⟨Wd, 0, none⟩) (64 * p) (64 * p), .slice (some ⟨Pg, 0, none⟩) p p, .slice none 0 0, .int .i64 (-1), .int .i64 (-1), .int .i64 (-1), .int .i64 (-1), .int .i64 (-1), .int .i64 (-1), .int .i64 (-1), .int .i64 (-1), .int .i64 0]
theorem build52 (p Wd Pg M : Nat) (w : World) : (Instr.build 52 #[(0, .agg (dumpE p Wd Pg)), (1, .map (some M))]).run Tryz.prog w = .ok (.agg (audC p Wd Pg M)) w := by kernel_rfl
theorem mk_map43 (w : World) : (Instr.makeMap 43 none).run Tryz.prog w = .ok (.map (some w.heap.size)) (w.alloc (.map #[] 0)) := by kernel_rfl

set_option maxHeartbeats 4000000 in
/-- stand (f8): no blocks. -/
theorem stand_reach (p Wd Pg M A : Nat) (w : World) (hA : w.heap[A]? = some (.cells (audC p Wd Pg M) 52)) {S : Goroutine → World → Prop} {b : Frame} {a : Act} {k : List Item} {cs : List Frame} {ops : Array Oper} {i : Nat} {rest : List Nat} {o : Oper} (ho : ops[i]? = some o)
    (hS : ∀ w', Upto [] w w' → Reach (G (b.at (a.put o.dst (.tuple #[])) (.inRegion ops rest :: k)) cs) w' S) :
    Reach (G ((base 8).at ⟨#[pa A, undef, undef, undef, undef, undef, undef, undef, undef, undef, undef, undef, undef, undef, undef, undef, undef, undef, undef, undef, undef, undef, undef, undef, undef, undef, undef, undef, undef, undef, undef, undef, undef, undef, undef, undef, undef, undef, undef, undef, undef, undef, undef, undef, undef, undef, undef, undef, undef, undef, undef, undef, undef, undef, undef, undef, undef, undef, undef, undef, undef, undef, undef, undef, undef, undef, undef, undef, undef, undef, undef, undef, undef, undef, undef, undef, undef, undef, undef, undef, undef, undef, undef, undef, undef, undef, undef, undef, undef, undef, undef, undef, undef, undef, undef, undef, undef, undef, undef, undef, undef, undef, undef, undef], []⟩ [.code body8]) (b.at a (.inRegion ops (i :: rest) :: k) :: cs)) w S := by
  have hm := mk_map63
  simp only [body8, Tryz.f8, Option.getD_some]
  refine Reach.ctl rfl stepG_seq ?_
  refine Reach.piece (by kernel_rfl) rfl rfl ?_
  go_wp2
  refine Reach.ctl rfl stepG_seq ?_
  refine Reach.piece (by kernel_rfl) rfl rfl ?_
  go_wp2
  have U : Upto [] w (w.alloc (.map #[] 0)) := (Upto.refl w).alloc _
  generalize w.alloc (.map #[] 0) = x at U ⊢
  have c2 : x.cell? ⟨A, 2, none⟩ = some (.slice none 0 0) := bc (U.get hA (by simp)) 2
  refine Reach.ctl rfl stepG_seq ?_
  refine Reach.piece (by kernel_rfl) rfl rfl ?_
  go_wp2
  refine Reach.ctl rfl stepG_block ?_
  refine Reach.ctl rfl stepG_loop ?_
  refine Reach.ctl rfl stepG_seq ?_
  refine Reach.piece (by kernel_rfl) rfl rfl ?_
  go_wp2
  refine Reach.ctl rfl stepG_seq ?_
  refine Reach.ctl rfl (stepG_cond (t := false) rfl) ?_
  simp only [Bool.false_eq_true, if_false]
  refine Reach.ctl rfl (stepG_exit rfl) ?_
  refine Reach.fin Tryz.func8 ho rfl (resultsC_none (by rfl) _) ?_
  exact hS _ U

set_option maxHeartbeats 4000000 in
theorem check_good (p : Nat) (hp1 : 1 ≤ p) (hp : p ≤ 4096) (Wd Pg : Nat) (w : World) {S : Goroutine → World → Prop} {c : Frame} {cs : List Frame}
    (hS : ∀ w' A M T5, Upto [] w w' → w'.heap[A]? = some (.cells (audC p Wd Pg M) 52) → w.heap.size ≤ A → T5.size = 52 → T5[4]? = some (pa A) → Reach (G ((base 9).at ⟨#[pa A, undef, undef, undef, undef, undef, undef, undef, undef, undef, undef, undef, undef, undef, undef, undef, undef, undef, undef, undef, undef, undef, undef, undef, undef, undef, undef, undef, undef, undef, undef, undef, undef, undef, undef, undef], []⟩ [.code body9]) (c5 T5 :: c :: cs)) w' S) :
    Reach (G ((base 5).at ⟨#[.agg (dumpE p Wd Pg), undef, undef, undef, undef, undef, undef, undef, undef, undef, undef, undef, undef, undef, undef, undef, undef, undef, undef, undef, undef, undef, undef, undef, undef, undef, undef, undef, undef, undef, undef, undef, undef, undef, undef, undef, undef, undef, undef, undef, undef, undef, undef, undef, undef, undef, undef, undef, undef, undef, undef, undef], []⟩ [.code bodyK]) (c :: cs)) w S := by
  have q0 : ¬ (p : Int) = 0 := by omega
  have q1 : ¬ (4096 : Int) < (p : Int) := by omega
  have hw : IntKind.i64.wrap ((p : Int) * 64) = 64 * (p : Int) := by rw [IntKind.wrap_i64]; omega
  have hm := mk_map43
  simp only [c5, ops6, rest5, body5, bodyK, Tryz.f5, Option.getD_some] at hS ⊢
  refine Reach.ctl rfl stepG_seq ?_
  refine Reach.piece (by kernel_rfl) rfl rfl ?_
  go_wp2
  refine Reach.ctl rfl stepG_seq ?_
  refine Reach.piece (by kernel_rfl) rfl rfl ?_
  go_wp2
  have U : Upto [] w (w.alloc (.cells (dumpE p Wd Pg) 28)) := (Upto.refl w).alloc _
  have hb : (w.alloc (.cells (dumpE p Wd Pg) 28)).heap[w.heap.size]? = some (.cells (dumpE p Wd Pg) 28) := ha_new w _
  generalize w.alloc (.cells (dumpE p Wd Pg) 28) = x at U hb ⊢
  have cc : ∀ i, x.cell? ⟨w.heap.size, i, none⟩ = (dumpE p Wd Pg)[i]? := fun i => bc hb i
  have hx := U.size
  generalize w.heap.size = B at hb cc hx hS ⊢
  have c0 := cc 0
  have c1 := cc 1
  have c2 := cc 2
  have c3 := cc 3
  have c4 := cc 4
  have c5 := cc 5
  have c6 := cc 6
  have c7 := cc 7
  have c8 := cc 8
  have c9 := cc 9
  have c10 := cc 10
  have c11 := cc 11
  simp only [List.getElem?_toArray, List.getElem?_cons_succ, List.getElem?_cons_zero] at c0 c1 c2 c3 c4 c5 c6 c7 c8 c9 c10 c11
  clear cc hb
  refine Reach.ctl rfl stepG_seq ?_
  refine Reach.ctl rfl stepG_seq ?_
  refine Reach.piece (by kernel_rfl) rfl rfl ?_
  go_wp2
  refine Reach.ctl rfl (stepG_cond (t := false) (by simp [Act.eval]; omega)) ?_
  simp only [Bool.false_eq_true, if_false]
  refine Reach.ctl rfl stepG_skip ?_
  have b52 := build52 p Wd Pg x.heap.size
  refine Reach.ctl rfl stepG_seq ?_
  refine Reach.piece (by kernel_rfl) rfl rfl ?_
  go_wp2
  have U2 : Upto [] w ((x.alloc (.map #[] 0)).alloc (.cells (audC p Wd Pg x.heap.size) 52)) := (U.alloc _).alloc _
  have hA : ((x.alloc (.map #[] 0)).alloc (.cells (audC p Wd Pg x.heap.size) 52)).heap[x.heap.size + 1]? = some (.cells (audC p Wd Pg x.heap.size) 52) := by
    have := ha_new (x.alloc (.map #[] 0)) (.cells (audC p Wd Pg x.heap.size) 52)
    simpa using this
  simp only [audC] at U2 hA
  generalize ((x.alloc (.map #[] 0)).alloc _) = y at U2 hA ⊢
  have hBA : B ≤ x.heap.size + 1 := by omega
  generalize x.heap.size + 1 = A at hA hBA ⊢
  generalize x.heap.size = M at hA
  clear b52 hm c0 c1 c2 c3 c4 c5 c6 c7 c8 c9 c10 c11 hx U
  refine Reach.ctl rfl stepG_seq ?_
  (refine Reach.ctl rfl stepG_region ?_; simp only [List.size_toArray, List.length_cons, List.length_nil, Nat.reduceAdd, Nat.zero_add, List.range, List.range.loop])
  (refine Reach.oper rfl (by rfl) (by decide) (fun K hK => ?_); go_simp; refine hK _ _ ⟨Nat.le_refl _, (by rw [listed_nil (by simp [go_sem])]; simp), ?_⟩; clear hK K; try walk_nrm)
  refine Reach.call (c := body8) (vs := #[pa A]) rfl (by rfl) (by decide) rfl Tryz.func8 (by rfl) rfl (by kernel_rfl) ?_
  simp only [Tryz.ntmps8, List.size_toArray, List.length_cons, List.length_nil, Nat.reduceAdd, Nat.reduceSub, Array.replicate_succ, Array.replicate_zero, List.push_toArray, List.append_toArray, List.nil_append, List.cons_append]
  refine stand_reach p Wd Pg M A y hA rfl ?_
  intro y2 U3
  try walk_nrm
  refine Reach.ctl rfl stepG_region_end ?_
  refine Reach.ctl rfl stepG_seq ?_
  (refine Reach.ctl rfl stepG_region ?_; simp only [List.size_toArray, List.length_cons, List.length_nil, Nat.reduceAdd, Nat.zero_add, List.range, List.range.loop])
  (refine Reach.oper rfl (by rfl) (by decide) (fun K hK => ?_); go_simp; refine hK _ _ ⟨Nat.le_refl _, (by rw [listed_nil (by simp [go_sem])]; simp), ?_⟩; clear hK K; try walk_nrm)
  refine Reach.call (c := body9) (vs := #[pa A]) rfl (by rfl) (by decide) rfl Tryz.func9 (by rfl) rfl (by kernel_rfl) ?_
  simp only [Tryz.ntmps9, List.size_toArray, List.length_cons, List.length_nil, Nat.reduceAdd, Nat.reduceSub, Array.replicate_succ, Array.replicate_zero, List.push_toArray, List.append_toArray, List.nil_append, List.cons_append]
  exact hS y2 A M _ ((U2.trans U3).less (by simp)) (U3.get hA (by simp)) hBA rfl rfl
end Go.Proofs.YtpejmgellidhbaaGreatDoor
