/-
  words (f9), alone: its head, to the loop that starts the workers; from there the four rounds: 'words_goes'. PRINTED BY A PROGRAM (gen_a7.py).
-/
import Derived.Test.YtpejmgellidhbaaGreatDoorA6
set_option linter.all false
set_option linter.unusedSimpArgs false
set_option maxRecDepth 100000
namespace Go.Proofs.YtpejmgellidhbaaGreatDoor
open Go Go.Conc Go.ConcN Go.RowKit Go.Proofs
open Go.ConcR (KK wgBlock WgAt stA smA rd wr mk Payload Aside2 DC0 ofEvent_cell)

def ReachE (E : Event → Prop) (g : Goroutine) (w : World) (S : Goroutine → World → Prop) : Prop := ∃ n, Goes Tryz.prog true Eq (DE E) S n g w
section
variable {E : Event → Prop} {S : Goroutine → World → Prop} {b : Frame} {a : Act} {k : List Item} {cs : List Frame} {w w' : World} {g g' : Goroutine}
theorem ReachE.done (h : S g w) : ReachE E g w S := ⟨0, fun w₁ e => e ▸ h⟩
theorem ReachE.step (hs : g.status = .running) (h : (stepG Tryz.prog true g w).goes fun g' w' es => (∀ e ∈ es, E e) ∧ ReachE E g' w' S) : ReachE E g w S := by
  obtain ⟨g', w', es, he, h1, n, h2⟩ := goes_elim h
  refine ⟨n + 1, Goes.step hs fun w₁ e => ?_⟩
  subst e
  rw [he, goes_go]
  exact ⟨h1, h2⟩
theorem ReachE.ctl (hs : g.status = .running) (h : stepG Tryz.prog true g w = .go g' w #[]) (k : ReachE E g' w S) : ReachE E g w S := ReachE.step hs (by rw [h, goes_go]; exact ⟨by simp, k⟩)
theorem ReachE.oper {ops : Array Oper} {i : Nat} {rest : List Nat} {o : Oper} (ho : ops[i]? = some o) (hw : Region.wanted o (yielded ops a.tmps) = true) (hk : b.kind ≠ .early)
    (h : ∀ K' : Act → World → Prop, (∀ a' w', (∀ e ∈ Conc.listed Tryz.prog b.fn a o w, E e) ∧ ReachE E (G (b.at a' (.inRegion ops rest :: k)) cs) w' S → K' a' w') → uponK o a K' ((execOp a.eval o).run Tryz.prog w)) :
    ReachE E (G (b.at a (.inRegion ops (i :: rest) :: k)) cs) w S := ReachE.step rfl (goes_oper_k ho hw hk h)
end

theorem mkchan_e (w : World) (es : Array Event) : (Instr.makeChan 90 (.int .i64 0)).events Tryz.prog w es = es := by kernel_rfl

theorem evL_cell (N : Nat) (b : Nat) (o : Nat) (x s : Bool) (h : b ≠ N + 1) : EvL (N + 1) ⟨.cell ⟨b, o, none⟩, x, s⟩ := by
  refine ⟨fun y hy => ?_, by simp, by simp, by simp⟩
  simp only [ofEvent_cell, MemAct.touch?, Option.some.injEq] at hy
  subst hy
  rintro ⟨a', e, hb⟩
  cases e
  exact h hb

theorem evP_evL {N B : Nat} (hB : B ≤ N) (e : Event) (h : EvP B e) : EvL (N + 1) e := by
  obtain ⟨h1, h2⟩ := h
  refine ⟨fun y hy => ?_, fun he => (by have := h1 _ he; cases this), fun he => (by have := h1 _ he; cases this), fun he => (by have := h1 _ he; cases this)⟩
  obtain ⟨l, wr, sy⟩ := e
  cases l with
  | cell a =>
    simp only [ofEvent_cell, MemAct.touch?, Option.some.injEq] at hy
    subst hy
    rintro ⟨a', e, hb⟩
    cases e
    have h3 : a.block < B := h2
    have h4 : a.block = N + 1 := hb
    omega
  | mark m =>
    have := h1 m rfl
    subst this
    simp [MemAct.ofEvent, MemAct.touch?] at hy
  | obj r => cases wr <;> cases sy <;> simp [MemAct.ofEvent, MemAct.touch?] at hy <;> (subst hy; rintro ⟨a', e, hb⟩; cases e)
  | _ =>
    simp only [MemAct.ofEvent, MemAct.touch?, Option.some.injEq] at hy
    subst hy
    rintro ⟨a', e, hb⟩
    cases e

section
variable (w : World) (o0 o1 o2 o3 o4 : Obj)
abbrev five : World := ((((w.alloc o0).alloc o1).alloc o2).alloc o3).alloc o4
theorem five_size : (five w o0 o1 o2 o3 o4).heap.size = w.heap.size + 5 := by simp
theorem five0 : (five w o0 o1 o2 o3 o4).heap[w.heap.size]? = some o0 := ha_old (ha_old (ha_old (ha_old (ha_new w o0))))
theorem five1 : (five w o0 o1 o2 o3 o4).heap[w.heap.size + 1]? = some o1 := ha_old (ha_old (ha_old (by have := ha_new (w.alloc o0) o1; simpa using this)))
theorem five2 : (five w o0 o1 o2 o3 o4).heap[w.heap.size + 2]? = some o2 := ha_old (ha_old (by have := ha_new ((w.alloc o0).alloc o1) o2; simpa using this))
theorem five3 : (five w o0 o1 o2 o3 o4).heap[w.heap.size + 3]? = some o3 := ha_old (by have := ha_new (((w.alloc o0).alloc o1).alloc o2) o3; simpa using this)
theorem five4 : (five w o0 o1 o2 o3 o4).heap[w.heap.size + 4]? = some o4 := by have := ha_new ((((w.alloc o0).alloc o1).alloc o2).alloc o3) o4; simpa using this
end

set_option maxHeartbeats 4000000 in
/-- The head of words. -/
theorem words_head (A : Nat) (w : World) (cs : List Frame) {S : Goroutine → World → Prop}
    (hS : ∀ w', w'.heap.size = w.heap.size + 5 → w'.heap[w.heap.size]? = some (.cells #[pa A] 42) → w'.heap[w.heap.size + 1]? = some (.cells #[.int .u64 0, .int .u32 0] 87) → w'.heap[w.heap.size + 2]? = some (.cells #[.int .i64 0] 89) →
      w'.heap[w.heap.size + 3]? = some (.chan 0 #[] false 0 0 false) → w'.heap[w.heap.size + 4]? = some (.cells #[.chan (some (w.heap.size + 3))] 90) → Upto [] w w' → S (g9 A w.heap.size (.int .i64 0) undef undef undef undef cs) w') :
    ReachE (EvL (w.heap.size + 1)) (G ((base 9).at ⟨#[pa A, undef, undef, undef, undef, undef, undef, undef, undef, undef, undef, undef, undef, undef, undef, undef, undef, undef, undef, undef, undef, undef, undef, undef, undef, undef, undef, undef, undef, undef, undef, undef, undef, undef, undef, undef], []⟩ [.code body9]) cs) w S := by
  simp only [body9, Tryz.f9, Option.getD_some]
  refine ReachE.ctl rfl stepG_seq ?_
  (refine ReachE.ctl rfl stepG_region ?_; simp only [List.size_toArray, List.length_cons, List.length_nil, Nat.reduceAdd, Nat.zero_add, List.range, List.range.loop])
  (refine ReachE.oper rfl (by rfl) (by decide) (fun K hK => ?_); go_simp; refine hK _ _ ⟨(by rw [listed_nil (by simp [go_sem])]; simp), ?_⟩; clear hK K; try walk_nrm)
  refine ReachE.ctl rfl stepG_region_end ?_
  refine ReachE.ctl rfl stepG_seq ?_
  (refine ReachE.ctl rfl stepG_region ?_; simp only [List.size_toArray, List.length_cons, List.length_nil, Nat.reduceAdd, Nat.zero_add, List.range, List.range.loop])
  (refine ReachE.oper rfl (by rfl) (by decide) (fun K hK => ?_); go_simp; refine hK _ _ ⟨(by rw [listed_nil (by simp [go_sem])]; simp), ?_⟩; clear hK K; try walk_nrm)
  refine ReachE.ctl rfl stepG_region_end ?_
  refine ReachE.ctl rfl stepG_seq ?_
  (refine ReachE.ctl rfl stepG_region ?_; simp only [List.size_toArray, List.length_cons, List.length_nil, Nat.reduceAdd, Nat.zero_add, List.range, List.range.loop])
  (refine ReachE.oper rfl (by rfl) (by decide) (fun K hK => ?_); go_simp; refine hK _ _ ⟨(by rw [listed_nil (by simp [go_sem])]; simp), ?_⟩; clear hK K; try walk_nrm)
  refine ReachE.ctl rfl stepG_region_end ?_
  refine ReachE.ctl rfl stepG_seq ?_
  (refine ReachE.ctl rfl stepG_region ?_; simp only [List.size_toArray, List.length_cons, List.length_nil, Nat.reduceAdd, Nat.zero_add, List.range, List.range.loop])
  have hce := mkchan_e
  (refine ReachE.oper rfl (by rfl) (by decide) (fun K hK => ?_); go_simp; refine hK _ _ ⟨(by rw [listed_nil (by simp [go_sem, *])]; simp), ?_⟩; clear hK K; try walk_nrm)
  clear hce
  (refine ReachE.oper rfl (by rfl) (by decide) (fun K hK => ?_); go_simp; refine hK _ _ ⟨(by rw [listed_nil (by simp [go_sem])]; simp), ?_⟩; clear hK K; try walk_nrm)
  refine ReachE.oper rfl (by rfl) (by decide) (fun K hK => ?_)
  go_simp
  refine hK _ _ ⟨?_, ?_⟩
  · intro e he
    have hm := mem_listed he
    simp [go_sem, storedEv] at hm
    subst hm
    exact evL_cell _ _ _ _ _ (by omega)
  clear hK K
  try walk_nrm
  refine ReachE.ctl rfl stepG_region_end ?_
  refine ReachE.ctl rfl stepG_seq ?_
  refine ReachE.ctl rfl stepG_seq ?_
  (refine ReachE.ctl rfl stepG_region ?_; simp only [List.size_toArray, List.length_cons, List.length_nil, Nat.reduceAdd, Nat.zero_add, List.range, List.range.loop])
  (refine ReachE.oper rfl (by rfl) (by decide) (fun K hK => ?_); go_simp; refine hK _ _ ⟨(by rw [listed_nil (by simp [go_sem])]; simp), ?_⟩; clear hK K; try walk_nrm)
  refine ReachE.ctl rfl stepG_region_end ?_
  refine ReachE.ctl rfl stepG_block ?_
  refine ReachE.ctl rfl stepG_loop ?_
  refine ReachE.done ?_
  refine hS _ ?_ ?_ ?_ ?_ ?_ ?_ ?_
  · exact five_size w _ _ _ _ _
  · exact five0 w _ _ _ _ _
  · exact five1 w _ _ _ _ _
  · exact five2 w _ _ _ _ _
  · exact five3 w _ _ _ _ _
  · exact five4 w _ _ _ _ _
  · exact (((((Upto.refl w).alloc _).alloc _).alloc _).alloc _).alloc _
end Go.Proofs.YtpejmgellidhbaaGreatDoor
