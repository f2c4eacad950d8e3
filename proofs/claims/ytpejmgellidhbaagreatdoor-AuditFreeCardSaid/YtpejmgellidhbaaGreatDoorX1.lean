/-
  Behind Wait: what is held of the memory ('FX': the world of the loop's head but for the group's block, the channel's and C; some new blocks with what they hold); its laws; what a step may list; Load.
-/
import Derived.Test.YtpejmgellidhbaaGreatDoorW5
import Derived.Conc.CompanyMem
import Derived.Below
set_option linter.all false
set_option linter.unusedSimpArgs false
namespace Go.Proofs.YtpejmgellidhbaaGreatDoor
open Go Go.Proofs Go.Conc Go.ConcN Go.RowKit Go.Conc.Lib Go.ConcR.Gen Go.ConcN.Gen
open Go.ConcR (KK wgBlock WgAt stA smA rd wr mk Payload Aside2 DC0 ofEvent_cell)

structure FX (N C : Nat) (w₀ : World) (l : List (Nat × Obj)) (w : World) : Prop where
  tape : w.tape = w₀.tape
  os : w.os = w₀.os
  output : w.output = w₀.output
  lo : N + 5 ≤ w.heap.size
  block : ∀ b, b < N + 5 → b ≠ N + 1 → b ≠ N + 3 → b ≠ C → w.heap[b]? = w₀.heap[b]?
  ext : ∀ x ∈ l, N + 5 ≤ x.1 ∧ w.heap[x.1]? = some x.2

abbrev RP (N C : Nat) : World → World → Prop := RC 87 (N + 1) C
abbrev DPx (N : Nat) : World → World → Array Event → Prop := DP (N + 1) (Own N) (Rd N) 4 (N + 5)

section
variable {N C : Nat} {w₀ w w₁ : World} {l : List (Nat × Obj)}
theorem FX.rely (hC : C < N) (h : FX N C w₀ l w) (r : RP N C w w₁) : FX N C w₀ l w₁ := by
  have a := r.aside
  refine ⟨a.tape.trans h.tape, a.os.trans h.os, a.output.trans h.output, by rw [a.size]; exact h.lo, fun b h1 h2 h3 h4 => (a.block b h4 h2).trans (h.block b h1 h2 h3 h4), fun x hx => ⟨(h.ext x hx).1, ?_⟩⟩
  have := (h.ext x hx).1
  exact (a.block _ (by omega) (by omega)).trans (h.ext x hx).2

theorem FX.alloc (h : FX N C w₀ l w) (o : Obj) : FX N C w₀ ((w.heap.size, o) :: l) (w.alloc o) := by
  have hl := h.lo
  have old : ∀ b, b < w.heap.size → (w.alloc o).heap[b]? = w.heap[b]? := fun b hb => Below.heap_alloc w o b hb
  refine ⟨h.tape, h.os, h.output, by simp; omega, fun b h1 h2 h3 h4 => (old b (by omega)).trans (h.block b h1 h2 h3 h4), fun x hx => ?_⟩
  rcases List.mem_cons.1 hx with rfl | hx
  · exact ⟨hl, by simpa using heap_alloc_new w o⟩
  · have hx' := h.ext x hx
    exact ⟨hx'.1, (old _ (Array.getElem?_eq_some_iff.1 hx'.2).1).trans hx'.2⟩

theorem FX.drew (h : FX N C w₀ l w) : FX N C w₀ l { w with drawn := w.drawn + 1 } := ⟨h.tape, h.os, h.output, h.lo, h.block, h.ext⟩

/-- What is said of new blocks may be forgotten. -/
theorem FX.less {l' : List (Nat × Obj)} (h : FX N C w₀ l w) (hl : ∀ x ∈ l', x ∈ l) : FX N C w₀ l' w := ⟨h.tape, h.os, h.output, h.lo, h.block, fun x hx => h.ext x (hl x hx)⟩
theorem FX.nil (h : FX N C w₀ l w) : FX N C w₀ [] w := h.less (by simp)

theorem FX.cell (h : FX N C w₀ l w) {b : Nat} (h1 : b < N + 5) (h2 : b ≠ N + 1) (h3 : b ≠ N + 3) (h4 : b ≠ C) (o : Nat) : w.cell? ⟨b, o, none⟩ = w₀.cell? ⟨b, o, none⟩ := cell_of_block (h.block b h1 h2 h3 h4) o
theorem FX.extCell (h : FX N C w₀ l w) {b : Nat} {cs : Array Value} {T : TypeId} {fr : Nat × Nat} (hx : (b, .cells cs T fr) ∈ l) (o : Nat) : w.cell? ⟨b, o, none⟩ = cs[o]? := by
  have := (h.ext _ hx).2
  simp [World.cell?, this]
theorem FX.extThaw (h : FX N C w₀ l w) {b : Nat} {cs : Array Value} {T : TypeId} (hx : (b, .cells cs T (0, 0)) ∈ l) (o : Nat) : w.frozen? ⟨b, o, none⟩ = false := by
  have := (h.ext _ hx).2
  simp [World.frozen?, this]

/-- A store into a new block. -/
theorem FX.set (h : FX N C w₀ l w) {b : Nat} {cs : Array Value} {T : TypeId} {fr : Nat × Nat} (hx : (b, .cells cs T fr) ∈ l) (i : Nat) (v : Value) (l' : List (Nat × Obj)) (hl : ∀ x ∈ l', x ∈ l ∧ x.1 ≠ b) :
    FX N C w₀ ((b, .cells (cs.setIfInBounds i v) T fr) :: l') (w.setCell ⟨b, i, none⟩ v) := by
  have hb := h.ext _ hx
  have hA := aside_setCell w ⟨b, i, none⟩ v
  refine ⟨hA.tape.trans h.tape, hA.os.trans h.os, hA.output.trans h.output, by rw [hA.size]; exact h.lo, fun k h1 h2 h3 h4 => (hA.block k (by have := hb.1; simp only at this ⊢; omega)).trans (h.block k h1 h2 h3 h4), fun x hx' => ?_⟩
  rcases List.mem_cons.1 hx' with rfl | hx'
  · refine ⟨hb.1, ?_⟩
    have := hb.2
    simp only at this ⊢
    simp [World.setCell, Array.getElem?_modify, this]
  · have h2 := hl x hx'
    have h3 := h.ext x h2.1
    exact ⟨h3.1, (hA.block _ h2.2).trans h3.2⟩

abbrev z3 : Array Value := #[.int .i64 0, .int .i64 0, .int .i64 0]
/-- Three noughts are laid over three noughts. -/
theorem FX.zero3 {B : Nat} (h : FX N C w₀ [(B, .cells z3 95)] w) : FX N C w₀ [(B, .cells z3 95)] (((w.setCell ⟨B, 0, none⟩ (.int .i64 0)).setCell ⟨B, 1, none⟩ (.int .i64 0)).setCell ⟨B, 2, none⟩ (.int .i64 0)) := by
  have h1 := h.set (List.mem_cons_self) 0 (.int .i64 0) [] (by simp)
  have h2 := h1.set (List.mem_cons_self) 1 (.int .i64 0) [] (by simp)
  have h3 := h2.set (List.mem_cons_self) 2 (.int .i64 0) [] (by simp)
  simpa using h3
theorem low_zero3 {B : Nat} (hB : N + 5 ≤ B) : ∀ b, b < N + 5 → (((w.setCell ⟨B, 0, none⟩ (.int .i64 0)).setCell ⟨B, 1, none⟩ (.int .i64 0)).setCell ⟨B, 2, none⟩ (.int .i64 0)).heap[b]? = w.heap[b]? :=
  fun b hb => ((aside_setCell _ ⟨B, 2, none⟩ _).block b (by simp; omega)).trans (((aside_setCell _ ⟨B, 1, none⟩ _).block b (by simp; omega)).trans ((aside_setCell _ ⟨B, 0, none⟩ _).block b (by simp; omega)))

theorem termsP (N C : Nat) : Terms (RP N C) (DPx N) := ⟨fun _ _ _ h k => h.trans k, fun _ => ⟨fun _ _ => rfl, by simp⟩⟩
theorem drawP (N : Nat) : LetsDraw (DPx N) := fun _ => ⟨fun _ _ => rfl, by simp⟩
theorem ownDrawP (N C : Nat) (w : World) : RP N C w { w with drawn := w.drawn + 1 } := ⟨⟨rfl, rfl, rfl, rfl, fun _ _ _ => rfl⟩, id⟩

theorem ev0_new {j : Nat} (a : Addr) (x s : Bool) (h : N + 5 ≤ a.block) : Ev0 (N + 1) (Own N) (Rd N) j ⟨.cell a, x, s⟩ := by
  refine ⟨fun fn pos => ⟨rfl, fun y hy => ?_⟩, by simp, by simp, by simp⟩
  simp only [ofEvent_cell, MemAct.touch?, Option.some.injEq] at hy
  subst hy
  refine .inr ⟨fun ⟨a', e, hb⟩ => by cases e; omega, fun k _ _ e => e, fun _ k _ _ e => ?_⟩
  cases e
  simp at h

/-- Below N + 5 nothing turns: an alloc, a store into a new block. -/
theorem low_alloc (h : N + 5 ≤ w.heap.size) (o : Obj) : ∀ b, b < N + 5 → (w.alloc o).heap[b]? = w.heap[b]? := fun b hb => Below.heap_alloc _ _ _ (by omega)
theorem low_set (a : Addr) (v : Value) (ha : N + 5 ≤ a.block) : ∀ b, b < N + 5 → (w.setCell a v).heap[b]? = w.heap[b]? := fun b hb => (aside_setCell w a v).block b (by omega)
end

section
variable {main : Bool} {R : World → World → Prop} {D : World → World → Array Event → Prop} {fn : FuncId} {Q : Exit → Act → World → Prop} {a : Act} {w : World}
theorem x79_n : (Tryz.f79.name == "runtime.NumGoroutine") = false := by kernel_rfl
theorem x79_b : Tryz.f79.body.isNone = true := by kernel_rfl
theorem x79_x : Extern.findNext Tryz.f79 = none := by kernel_rfl
theorem x79_f : Extern.find Tryz.f79 = some (Extern.Atomic.loadT (.int .i64)) := by kernel_rfl

/-- sync/atomic.LoadInt64. -/
theorem opsC_load64 {ops : Array Oper} {i : Nat} {rest : List Nat} {o : Oper} {x : Operand} {ats : Array TypeId} {n : Nat} {ad : Addr} {v : Int} (ho : ops[i]? = some o) (hw : Region.wanted o (yielded ops a.tmps) = true)
    (hop : o.op = .call { callee := .value (.func 79), args := #[x], argTypes := ats }) (hx : a.eval x = .pointer (some ad))
    (h : ∀ w₁, R w w₁ → w₁.cell? ad = some (.int .i64 v) ∧ D w₁ w₁ #[⟨.cell ad, false, true⟩] ∧ OpsC Tryz.prog main R D fn ops rest n Q (a.put o.dst (.int .i64 v)) w₁) : OpsC Tryz.prog main R D fn ops (i :: rest) (n + 1) Q a w := by
  refine opsC_cons ho hw fun w₁ h₁ => ?_
  obtain ⟨hc, hd, hn⟩ := h w₁ h₁
  have e1 : execOp a.eval o = callFunc 79 #[.pointer (some ad)] := by
    have ef : a.eval (.func 79) = .func (.func 79) #[] #[] := rfl
    unfold execOp
    simp [hop, resolve, Deferred.ofValue, invoke, ef, hx]
  have hr : (execOp a.eval o).run Tryz.prog w₁ = .ok (.value (.int .i64 v)) w₁ := by rw [e1]; exact run_call_load Tryz.func79 x79_n x79_b x79_x .i64 x79_f hc
  have hl : listed Tryz.prog fn a o w₁ = #[⟨.cell ad, false, true⟩] := by
    unfold listed
    rw [e1, events_call_load Tryz.func79 x79_n x79_b x79_x .i64 x79_f hc, seen_extern_sync]
  rw [hr, hl]
  exact ⟨hd, hn⟩
end

set_option maxRecDepth 100000 in
/-- (*atomic.Int64).Load. -/
theorem load_c {N C : Nat} {w₀ : World} {l : List (Nat × Obj)} (hC : C < N) (hl : w₀.cell? ⟨N + 2, 0, none⟩ = some (.int .i64 0)) : ∃ k, ∀ w : World, FX N C w₀ l w →
    CallsC Tryz.prog true (RP N C) (DPx N) 33 #[pa (N + 2)] k w fun v w' => v = .int .i64 0 ∧ FX N C w₀ l w' := by
  co_apply Exists.intro
  intro w hF
  co_apply callsC_of_wpC Tryz.func33 (by rfl) rfl
  simp only [Tryz.ntmps33, List.size_toArray, List.length_cons, List.length_nil, Nat.reduceAdd, Nat.reduceSub, Array.replicate_succ, Array.replicate_zero, List.push_toArray, List.append_toArray, List.nil_append, List.cons_append]
  co_stmt (termsP N C) (FX.rely hC) hF (co_quiet (termsP N C))
  co_apply wpC_seq (termsP N C)
  co_reg (termsP N C)
  co_op (FX.rely hC) hF (co_quiet (termsP N C))
  co_op (FX.rely hC) hF (co_quiet (termsP N C))
  co_op (FX.rely hC) hF (co_quiet (termsP N C))
  co_apply opsC_load64 (ad := ⟨N + 2, 0, none⟩) (v := 0) rfl rfl rfl rfl
  intro w₁ h₁
  replace hF := FX.rely hC hF h₁
  clear h₁
  refine ⟨(hF.cell (by omega) (by omega) (by omega) (by omega) 0).trans hl, ⟨fun _ _ => rfl, fun e he => ?_⟩, ?_⟩
  · rw [List.mem_toArray, List.mem_singleton] at he
    subst he
    exact ev0_cell _ _ (by simp)
  walk_nrm
  co_op (FX.rely hC) hF (co_quiet (termsP N C))
  co_apply opsC_nil (termsP N C)
  co_then
  co_ctl (termsP N C)
  exact ⟨rfl, _, resultsC_tmp (by rfl) _, by simp, hF⟩
end Go.Proofs.YtpejmgellidhbaaGreatDoor
