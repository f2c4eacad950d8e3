/-
  AuditFree (f3), alone, out of range. PRINTED BY A PROGRAM (gen_a5.py).
-/
import Derived.Test.YtpejmgellidhbaaGreatDoorA2
set_option linter.all false
set_option linter.unusedSimpArgs false
set_option maxRecDepth 100000
namespace Go.Proofs.YtpejmgellidhbaaGreatDoor
open Go Go.Conc Go.RowKit Go.Proofs

set_option maxHeartbeats 4000000 in
theorem law_out0 (tab : Nat → Int) (n : Int) (hn : n < 0) (w : World) (ht : TabZ tab w) (h0 : 0 < w.heap.size) {S : Goroutine → World → Prop}
    (hS : ∀ g w', (∃ a k, g = G ((base 3).at a (.code .ret :: k)) [] ∧ a.defers = [] ∧ a.tmps.getD 2 undef = .bool true ∧ Upto [] w w') → S g w') :
    Reach (G ((base 3).at ⟨#[.int .i64 n, undef, undef, undef, undef, undef, undef, undef, undef, undef, undef, undef, undef, undef, undef, undef, undef, undef, undef, undef, undef, undef, undef, undef, undef, undef, undef, undef, undef, undef, undef, undef, undef, undef, undef, undef, undef, undef, undef, undef, undef, undef, undef, undef], []⟩ [.code bodyL]) []) w S := by
  have q0 : n < 0 := hn
  
  simp only [bodyL, Tryz.f3, Option.getD_some]
  refine Reach.ctl rfl stepG_seq ?_
  refine Reach.piece (by kernel_rfl) rfl rfl ?_
  go_wp2
  refine Reach.ctl rfl stepG_seq ?_
  refine Reach.ctl rfl stepG_seq ?_
  (refine Reach.ctl rfl stepG_region ?_; simp only [List.size_toArray, List.length_cons, List.length_nil, Nat.reduceAdd, Nat.zero_add, List.range, List.range.loop])
  refine Reach.call (c := body4) (vs := #[]) rfl (by rfl) (by decide) rfl Tryz.func4 (by rfl) rfl (by kernel_rfl) ?_
  simp only [Tryz.ntmps4, List.size_toArray, List.length_cons, List.length_nil, Nat.reduceAdd, Nat.reduceSub, Array.replicate_succ, Array.replicate_zero, List.push_toArray, List.append_toArray, List.nil_append, List.cons_append]
  refine alive_reach tab w ht h0 rfl ?_
  intro w1 hA
  walk_nrm
  have h1 : 0 < w1.heap.size := Nat.lt_of_lt_of_le h0 hA.1.size
  have ht1 : TabZ tab w1 := ht.upto hA.1 (by simp)
  have d0 : decide (n < 0) = true := decide_eq_true (by omega)
  
  (refine Reach.oper rfl (by rfl) (by decide) (fun K hK => ?_); go_simp; refine hK _ _ ⟨Nat.le_refl _, (by rw [listed_nil (by simp [go_sem])]; simp), ?_⟩; clear hK K; try walk_nrm)
  (refine Reach.oper rfl (by rfl) (by decide) (fun K hK => ?_); go_simp; refine hK _ _ ⟨Nat.le_refl _, (by rw [listed_nil (by simp [go_sem])]; simp), ?_⟩; clear hK K; try walk_nrm)
  (refine Reach.oper rfl (by rfl) (by decide) (fun K hK => ?_); go_simp; refine hK _ _ ⟨Nat.le_refl _, (by rw [listed_nil (by simp [go_sem])]; simp), ?_⟩; clear hK K; try walk_nrm)
  (refine Reach.oper rfl (by rfl) (by decide) (fun K hK => ?_); go_simp; refine hK _ _ ⟨Nat.le_refl _, (by rw [listed_nil (by simp [go_sem, *])]; simp), ?_⟩; clear hK K; try walk_nrm)
  (refine Reach.oper rfl (by rfl) (by decide) (fun K hK => ?_); go_simp; refine hK _ _ ⟨Nat.le_refl _, (by rw [listed_nil (by simp [go_sem, *])]; simp), ?_⟩; clear hK K; try walk_nrm)
  try simp only [d0, Bool.false_or, Bool.true_or, Bool.or_true, Bool.or_false, Bool.or_self]
  (refine Reach.oper rfl (by rfl) (by decide) (fun K hK => ?_); go_simp; refine hK _ _ ⟨Nat.le_refl _, (by rw [listed_nil (by simp [go_sem, *])]; simp), ?_⟩; clear hK K; try walk_nrm)
  try simp only [d0, Bool.false_or, Bool.true_or, Bool.or_true, Bool.or_false, Bool.or_self]
  refine Reach.unwanted rfl (by rfl) ?_
  try walk_nrm
  refine Reach.unwanted rfl (by rfl) ?_
  try walk_nrm
  try simp only [d0, Bool.false_or, Bool.true_or, Bool.or_true, Bool.or_false, Bool.or_self]
  (refine Reach.oper rfl (by rfl) (by decide) (fun K hK => ?_); go_simp; refine hK _ _ ⟨Nat.le_refl _, (by rw [listed_nil (by simp [go_sem, *])]; simp), ?_⟩; clear hK K; try walk_nrm)
  try simp only [d0, Bool.false_or, Bool.true_or, Bool.or_true, Bool.or_false, Bool.or_self]
  refine Reach.ctl rfl stepG_region_end ?_
  refine Reach.ctl rfl (stepG_cond (t := true) (by first | rfl | (simp [Act.eval]; done) | (simp [Act.eval]; omega))) ?_
  simp only [if_true]
  refine Reach.ctl rfl stepG_seq ?_
  (refine Reach.ctl rfl stepG_region ?_; simp only [List.size_toArray, List.length_cons, List.length_nil, Nat.reduceAdd, Nat.zero_add, List.range, List.range.loop])
  refine Reach.call (c := body4) (vs := #[]) rfl (by rfl) (by decide) rfl Tryz.func4 (by rfl) rfl (by kernel_rfl) ?_
  simp only [Tryz.ntmps4, List.size_toArray, List.length_cons, List.length_nil, Nat.reduceAdd, Nat.reduceSub, Array.replicate_succ, Array.replicate_zero, List.push_toArray, List.append_toArray, List.nil_append, List.cons_append]
  refine alive_reach tab w1 ht1 h1 rfl ?_
  intro w2 hA2
  walk_nrm
  (refine Reach.oper rfl (by rfl) (by decide) (fun K hK => ?_); go_simp; refine hK _ _ ⟨Nat.le_refl _, (by rw [listed_nil (by simp [go_sem])]; simp), ?_⟩; clear hK K; try walk_nrm)
  refine Reach.ctl rfl stepG_region_end ?_
  exact Reach.done (hS _ _ ⟨_, _, rfl, rfl, rfl, (hA.1.trans hA2.1).less (by simp)⟩)

set_option maxHeartbeats 4000000 in
theorem law_out1 (tab : Nat → Int) (n : Int) (hn : 5000 < n) (w : World) (ht : TabZ tab w) (h0 : 0 < w.heap.size) {S : Goroutine → World → Prop}
    (hS : ∀ g w', (∃ a k, g = G ((base 3).at a (.code .ret :: k)) [] ∧ a.defers = [] ∧ a.tmps.getD 2 undef = .bool true ∧ Upto [] w w') → S g w') :
    Reach (G ((base 3).at ⟨#[.int .i64 n, undef, undef, undef, undef, undef, undef, undef, undef, undef, undef, undef, undef, undef, undef, undef, undef, undef, undef, undef, undef, undef, undef, undef, undef, undef, undef, undef, undef, undef, undef, undef, undef, undef, undef, undef, undef, undef, undef, undef, undef, undef, undef, undef], []⟩ [.code bodyL]) []) w S := by
  have q0 : ¬ n < 0 := by omega
  have q1 : 5000 < n := hn
  simp only [bodyL, Tryz.f3, Option.getD_some]
  refine Reach.ctl rfl stepG_seq ?_
  refine Reach.piece (by kernel_rfl) rfl rfl ?_
  go_wp2
  refine Reach.ctl rfl stepG_seq ?_
  refine Reach.ctl rfl stepG_seq ?_
  (refine Reach.ctl rfl stepG_region ?_; simp only [List.size_toArray, List.length_cons, List.length_nil, Nat.reduceAdd, Nat.zero_add, List.range, List.range.loop])
  refine Reach.call (c := body4) (vs := #[]) rfl (by rfl) (by decide) rfl Tryz.func4 (by rfl) rfl (by kernel_rfl) ?_
  simp only [Tryz.ntmps4, List.size_toArray, List.length_cons, List.length_nil, Nat.reduceAdd, Nat.reduceSub, Array.replicate_succ, Array.replicate_zero, List.push_toArray, List.append_toArray, List.nil_append, List.cons_append]
  refine alive_reach tab w ht h0 rfl ?_
  intro w1 hA
  walk_nrm
  have h1 : 0 < w1.heap.size := Nat.lt_of_lt_of_le h0 hA.1.size
  have ht1 : TabZ tab w1 := ht.upto hA.1 (by simp)
  have d0 : decide (n < 0) = false := decide_eq_false (by omega)
  have d1 : decide (5000 < n) = true := decide_eq_true (by omega)
  (refine Reach.oper rfl (by rfl) (by decide) (fun K hK => ?_); go_simp; refine hK _ _ ⟨Nat.le_refl _, (by rw [listed_nil (by simp [go_sem])]; simp), ?_⟩; clear hK K; try walk_nrm)
  (refine Reach.oper rfl (by rfl) (by decide) (fun K hK => ?_); go_simp; refine hK _ _ ⟨Nat.le_refl _, (by rw [listed_nil (by simp [go_sem])]; simp), ?_⟩; clear hK K; try walk_nrm)
  (refine Reach.oper rfl (by rfl) (by decide) (fun K hK => ?_); go_simp; refine hK _ _ ⟨Nat.le_refl _, (by rw [listed_nil (by simp [go_sem])]; simp), ?_⟩; clear hK K; try walk_nrm)
  (refine Reach.oper rfl (by rfl) (by decide) (fun K hK => ?_); go_simp; refine hK _ _ ⟨Nat.le_refl _, (by rw [listed_nil (by simp [go_sem, *])]; simp), ?_⟩; clear hK K; try walk_nrm)
  (refine Reach.oper rfl (by rfl) (by decide) (fun K hK => ?_); go_simp; refine hK _ _ ⟨Nat.le_refl _, (by rw [listed_nil (by simp [go_sem, *])]; simp), ?_⟩; clear hK K; try walk_nrm)
  try simp only [d0, d1, Bool.false_or, Bool.true_or, Bool.or_true, Bool.or_false, Bool.or_self]
  (refine Reach.oper rfl (by rfl) (by decide) (fun K hK => ?_); go_simp; refine hK _ _ ⟨Nat.le_refl _, (by rw [listed_nil (by simp [go_sem, *])]; simp), ?_⟩; clear hK K; try walk_nrm)
  try simp only [d0, d1, Bool.false_or, Bool.true_or, Bool.or_true, Bool.or_false, Bool.or_self]
  (refine Reach.oper rfl (by rfl) (by decide) (fun K hK => ?_); go_simp; refine hK _ _ ⟨Nat.le_refl _, (by rw [listed_nil (by simp [go_sem, *])]; simp), ?_⟩; clear hK K; try walk_nrm)
  (refine Reach.oper rfl (by rfl) (by decide) (fun K hK => ?_); go_simp; refine hK _ _ ⟨Nat.le_refl _, (by rw [listed_nil (by simp [go_sem, *])]; simp), ?_⟩; clear hK K; try walk_nrm)
  try simp only [d0, d1, Bool.false_or, Bool.true_or, Bool.or_true, Bool.or_false, Bool.or_self]
  (refine Reach.oper rfl (by rfl) (by decide) (fun K hK => ?_); go_simp; refine hK _ _ ⟨Nat.le_refl _, (by rw [listed_nil (by simp [go_sem, *])]; simp), ?_⟩; clear hK K; try walk_nrm)
  try simp only [d0, d1, Bool.false_or, Bool.true_or, Bool.or_true, Bool.or_false, Bool.or_self]
  refine Reach.ctl rfl stepG_region_end ?_
  refine Reach.ctl rfl (stepG_cond (t := true) (by first | rfl | (simp [Act.eval]; done) | (simp [Act.eval]; omega))) ?_
  simp only [if_true]
  refine Reach.ctl rfl stepG_seq ?_
  (refine Reach.ctl rfl stepG_region ?_; simp only [List.size_toArray, List.length_cons, List.length_nil, Nat.reduceAdd, Nat.zero_add, List.range, List.range.loop])
  refine Reach.call (c := body4) (vs := #[]) rfl (by rfl) (by decide) rfl Tryz.func4 (by rfl) rfl (by kernel_rfl) ?_
  simp only [Tryz.ntmps4, List.size_toArray, List.length_cons, List.length_nil, Nat.reduceAdd, Nat.reduceSub, Array.replicate_succ, Array.replicate_zero, List.push_toArray, List.append_toArray, List.nil_append, List.cons_append]
  refine alive_reach tab w1 ht1 h1 rfl ?_
  intro w2 hA2
  walk_nrm
  (refine Reach.oper rfl (by rfl) (by decide) (fun K hK => ?_); go_simp; refine hK _ _ ⟨Nat.le_refl _, (by rw [listed_nil (by simp [go_sem])]; simp), ?_⟩; clear hK K; try walk_nrm)
  refine Reach.ctl rfl stepG_region_end ?_
  exact Reach.done (hS _ _ ⟨_, _, rfl, rfl, rfl, (hA.1.trans hA2.1).less (by simp)⟩)

end Go.Proofs.YtpejmgellidhbaaGreatDoor
