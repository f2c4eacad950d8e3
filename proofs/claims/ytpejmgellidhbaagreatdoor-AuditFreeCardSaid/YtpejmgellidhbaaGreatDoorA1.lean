/-
  alive (f4), alone: it yields true; what was there stands; a block of four cells is left. PRINTED BY A PROGRAM (gen_a1.py).
-/
import Derived.Test.YtpejmgellidhbaaGreatDoorA0
set_option linter.all false
set_option linter.unusedSimpArgs false
set_option maxRecDepth 100000
namespace Go.Proofs.YtpejmgellidhbaaGreatDoor
open Go Go.Conc Go.RowKit Go.Proofs

noncomputable def body4 : Code := Tryz.f4.body.getD .skip
/-- What alive leaves. -/
def AliveP (w w' : World) : Prop := Upto [] w w' ∧ ∃ C c4, w.heap.size ≤ C ∧ w'.heap[C]? = some (.cells c4 75) ∧ c4.size = 4
theorem Upto.old {w w' w2 : World} {L : List Nat} (h : Upto [] w w') (k : Upto L w' w2) (hL : ∀ x ∈ L, w.heap.size ≤ x) : Upto [] w w2 :=
  ⟨k.os.trans h.os, k.tape.trans h.tape, k.output.trans h.output, Nat.le_trans h.size k.size, fun x hx _ => (k.block x (Nat.lt_of_lt_of_le hx h.size) (fun m => by have := hL x m; omega)).trans (h.block x hx (by simp))⟩

theorem build28z (w : World) : (Instr.build 28 #[]).run Tryz.prog w = .ok (dumpV (.slice none 0 0) (.slice none 0 0) (.slice none 0 0) 0 0 0 0 0 0 0 0 0) w := by kernel_rfl
theorem build28e (w : World) (es : Array Event) : (Instr.build 28 #[]).events Tryz.prog w es = es := by kernel_rfl

set_option maxHeartbeats 4000000 in
theorem alive_reach (tab : Nat → Int) (w : World) (ht : TabZ tab w) (h0 : 0 < w.heap.size) {S : Goroutine → World → Prop} {b : Frame} {a : Act} {k : List Item} {cs : List Frame} {ops : Array Oper} {i : Nat} {rest : List Nat} {o : Oper} (ho : ops[i]? = some o)
    (hS : ∀ w', AliveP w w' → Reach (G (b.at (a.put o.dst (.bool true)) (.inRegion ops rest :: k)) cs) w' S) :
    Reach (G ((base 4).at ⟨#[undef, undef, undef, undef, undef, undef, undef, undef, undef, undef, undef, undef, undef, undef, undef, undef, undef, undef, undef, undef, undef, undef, undef, undef, undef, undef, undef, undef, undef, undef, undef, undef, undef, undef, undef, undef, undef, undef], []⟩ [.code body4]) (b.at a (.inRegion ops (i :: rest) :: k) :: cs)) w S := by
  simp only [body4, Tryz.f4, Option.getD_some]
  refine Reach.ctl rfl stepG_seq ?_
  refine Reach.piece (by kernel_rfl) rfl rfl ?_
  go_wp2
  refine Reach.ctl rfl stepG_seq ?_
  refine Reach.piece (by kernel_rfl) rfl rfl ?_
  go_wp2_with (go_at_call 6; refine (spaceNew _).mono ?_; rintro e w1 ⟨rfl, hsp⟩)
  have hz := hsp.size
  have U1 : Upto [] w w1 := Upto.of_below hsp.below
  refine Reach.ctl rfl stepG_seq ?_
  refine Reach.piece (by kernel_rfl) rfl rfl ?_
  go_wp2
  refine Reach.ctl rfl stepG_seq ?_
  refine Reach.piece (by kernel_rfl) rfl rfl ?_
  have H := hid (And.intro hsp (And.intro hz (And.intro U1 ht)))
  clear hsp hz U1 ht
  go_wp2_with (go_at_call 7; refine (alloc_ok w.heap.size w1.heap.size tab _ h0 (by have := H.out.2.1; omega) rfl H.out.1.spF (H.out.2.2.2.upto H.out.2.2.1 (by simp))).mono ?_; rintro e w2 ⟨rfl, hu, C, c4, hC1, hC2, hC3⟩)
  have U2 : Upto [] w w2 := H.out.2.2.1.old hu (by simp only [spL, List.mem_cons, List.not_mem_nil, or_false]; omega)
  have hCs : w.heap.size ≤ C := by have := H.out.2.1; omega
  have V : AliveP w (w2.alloc (.cells #[.int .i64 0, .int .i64 0] 39)) := ⟨U2.alloc _, C, c4, hCs, ha_old hC2, hC3⟩
  have hq : (w2.alloc (.cells #[.int .i64 0, .int .i64 0] 39)).heap[w2.heap.size]? = some (.cells #[.int .i64 0, .int .i64 0] 39) := ha_new w2 _
  clear U2 hCs hC1 hC2 hC3 hu H
  generalize w2.alloc (.cells #[.int .i64 0, .int .i64 0] 39) = x at V hq ⊢
  generalize w2.heap.size = B at hq ⊢
  have hbl := build28z
  have hbe := build28e
  refine Reach.ctl rfl stepG_seq ?_
  (refine Reach.ctl rfl stepG_region ?_; simp only [List.size_toArray, List.length_cons, List.length_nil, Nat.reduceAdd, Nat.zero_add, List.range, List.range.loop])
  (refine Reach.oper rfl (by rfl) (by decide) (fun K hK => ?_); go_simp; refine hK _ _ ⟨Nat.le_refl _, (by rw [listed_nil (by simp [go_sem, *])]; simp), ?_⟩; clear hK K; try walk_nrm)
  clear hbl hbe
  refine Reach.call (c := bodyK) (vs := #[dumpV (.slice none 0 0) (.slice none 0 0) (.slice none 0 0) 0 0 0 0 0 0 0 0 0]) rfl (by rfl) (by decide) rfl Tryz.func5 (by rfl) rfl (by kernel_rfl) ?_
  simp only [Tryz.ntmps5, List.size_toArray, List.length_cons, List.length_nil, Nat.reduceAdd, Nat.reduceSub, Array.replicate_succ, Array.replicate_zero, List.push_toArray, List.append_toArray, List.nil_append, List.cons_append]
  refine check_bad x none none 0 0 0 0 0 0 0 0 0 0 0 0 0 (.inl rfl) rfl ?_
  intro y X Uy hX
  walk_nrm
  (refine Reach.oper rfl (by rfl) (by decide) (fun K hK => ?_); go_simp; refine hK _ _ ⟨Nat.le_refl _, (by rw [listed_nil (by simp [go_sem])]; simp), ?_⟩; clear hK K; try walk_nrm)
  refine Reach.ctl rfl stepG_region_end ?_
  refine Reach.ctl rfl stepG_seq ?_
  refine Reach.piece (by kernel_rfl) rfl rfl ?_
  have k0 : y.cell? ⟨B, 0, none⟩ = some (.int .i64 0) := bc (Uy.get hq (by simp)) 0
  have x0 : y.cell? ⟨X, 0, none⟩ = some (.int .i64 0) := bc hX 0
  have x1 : y.cell? ⟨X, 1, none⟩ = some (.int .i64 6) := bc hX 1
  go_wp2
  refine Reach.ret Tryz.func4 ho rfl (resultsC_tmp (by rfl) _) ?_
  refine hS y ⟨(V.1.trans Uy).less (by simp), ?_⟩
  obtain ⟨-, C, c4, h1, h2, h3⟩ := V
  exact ⟨C, c4, h1, Uy.get h2 (by simp), h3⟩
end Go.Proofs.YtpejmgellidhbaaGreatDoor
