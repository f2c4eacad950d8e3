/-
  A worker of words (f28): from its birth to its receive; behind the receive (the channel is closed) to its end, by the library's walk of Done.
  WHERE THE BLOCKS LIE (N: how many there are at words' entry): N the variable a · N + 1 THE WAIT GROUP · N + 2 looked · N + 3 THE CHANNEL · N + 4 the variable todo.
-/
import Derived.Test.YtpejmgellidhbaaGreatDoorW1
set_option linter.all false
namespace Go.Proofs.YtpejmgellidhbaaGreatDoor
open Go Go.Proofs Go.Conc Go.ConcN Go.RowKit Go.Conc.Lib Go.ConcR.Gen Go.ConcN.Gen
open Go.ConcR (KK wgBlock WgAt stA smA rd wr mk Payload Aside2 DC0 ofEvent_cell)

instance : Payload := ⟨75⟩

def b28 : Frame := baseD 28
noncomputable def bot28 : Frame := { (default : Frame) with fn := Tryz.prog.funcs.size, defers := [], mode := .panicking [goexitEntry] }
noncomputable def body28 : Code := Tryz.f28.body.getD .skip
def Own (_N : Nat) (_k : Nat) : Loc → Prop := fun _ => False
/-- What a worker may read: the variable todo. -/
def Rd (N : Nat) (_k : Nat) : Loc → Prop := fun l => l = .cell ⟨N + 4, 0, none⟩
/-- What a worker knows of the world. -/
def KT (N : Nat) (w : World) : Prop := w.heap[N + 4]? = some (.cells #[.chan (some (N + 3))] 90)

theorem apart (N : Nat) : Apart (ShN (N + 1)) (Own N) (Rd N) := by
  refine ⟨fun k k' l h => h.elim, fun k k' l h => h.elim, fun k l h => h.elim, fun k l h h' => ?_⟩
  cases h
  obtain ⟨a, e, hb⟩ := h'
  cases e
  simp at hb

def call28 (N : Nat) : Deferred := { target := .fn (.func 28) #[.pointer (some ⟨N + 1, 0, none⟩), .pointer (some ⟨N + 4, 0, none⟩), .pointer (some ⟨N, 0, none⟩), .pointer (some ⟨N + 2, 0, none⟩)], args := #[] }
abbrev pa (b : Nat) : Value := .pointer (some ⟨b, 0, none⟩)

theorem born_step (N : Nat) (w : World) : stepG Tryz.prog false (born Tryz.prog (call28 N)) w =
    .go (G (b28.at ⟨#[pa (N + 1), pa (N + 4), pa N, pa (N + 2), undef, undef, undef, undef, undef, undef, undef, undef, undef, undef, undef, undef, undef, undef], []⟩ [.code body28]) [bot28]) w #[] := by
  simp [born, call28, stepG, unwind, callDeferred, invoke, callFunc, Tryz.func28, Tryz.f28, seen, GStep.after, G, Frame.enter, Frame.at, b28, baseD, bot28, body28]

theorem evIdle_todo (N : Nat) : EvIdle (N + 1) (Own N) (Rd N) ⟨.cell ⟨N + 4, 0, none⟩, false, false⟩ := by
  refine ⟨fun k => ⟨fun fn pos => ⟨rfl, fun y hy => ?_⟩, by simp, by simp, by simp⟩, by simp⟩
  simp only [ofEvent_cell, MemAct.touch?, Option.some.injEq] at hy
  subst hy
  exact .inr (.inr ⟨rfl, rfl⟩)

theorem loud28 : (Tryz.prog.funcs[b28.fn]?).any (·.norace) = false := by kernel_rfl

section
variable {P : Program} {K : World → Prop} {E : Event → Prop} {c : Nat} {z : Value} {h g g' : Goroutine} {n : Nat}
theorem OnWay.ctl (hs : g.status = .running) (hst : ∀ w, stepG P false g w = .go g' w #[]) (x : OnWay P K E c z h n g') : OnWay P K E c z h (n + 1) g := ⟨hs, g', #[], by simp, fun w _ => hst w, x⟩
end

section
variable {main : Bool} {b : Frame} {a : Act} {kk : List Item} {cs : List Frame} {w : World} {ops : Array Oper} {i : Nat} {rest : List Nat} {o : Oper}
theorem stepG_load90 {x : Operand} (ho : ops[i]? = some o) (hw : Region.wanted o (yielded ops a.tmps) = true) (hk : b.kind ≠ .early) (hop : o.op = .load 90 x) {ad : Addr} {v : Value}
    (hx : a.eval x = .pointer (some ad)) (hc : w.cell? ad = some v) (hq : (Tryz.prog.funcs[b.fn]?).any (·.norace) = false) :
    stepG Tryz.prog main (G (b.at a (.inRegion ops (i :: rest) :: kk)) cs) w = .go (G (b.at (a.put o.dst v) (.inRegion ops rest :: kk)) cs) w #[⟨.cell ad, false, false⟩] := by
  have hr : (execOp a.eval o).run Tryz.prog w = .ok (.value v) w := by
    unfold execOp
    simp only [hop, hx]
    simp [go_sem, hc]
  have he : (execOp a.eval o).events Tryz.prog w #[] = #[⟨.cell ad, false, false⟩] := by
    unfold execOp
    simp only [hop, hx]
    simp [go_sem, hc]
  rw [stepG_value ho hw hk hr]
  unfold listed
  rw [he, seen_eq hq (by simp)]

theorem stepG_recv90 {x : Operand} (ho : ops[i]? = some o) (hw : Region.wanted o (yielded ops a.tmps) = true) (hk : b.kind ≠ .early) (hop : o.op = .recv 90 x true) {c : Nat}
    (hx : a.eval x = .chan (some c)) :
    stepG Tryz.prog main (G (b.at a (.inRegion ops (i :: rest) :: kk)) cs) w = .comm (G (b.at a (.inRegion ops (i :: rest) :: kk)) cs) #[rcase c (.int .i64 0)] true (.recv true) w #[] := by
  have hr : (execOp a.eval o).run Tryz.prog w = .ok (.comm #[rcase c (.int .i64 0)] true (.recv true)) w := by
    unfold execOp
    simp only [hop, hx]
    simp [go_sem]
    rfl
  have he : (execOp a.eval o).events Tryz.prog w #[] = #[] := by
    unfold execOp
    simp only [hop, hx]
    simp [go_sem]
  rw [stepG_comm ho hw hk hr]
  unfold listed
  rw [he, seen_none]
end

/-- A worker's record behind its receive. -/
noncomputable def h28 (N : Nat) : Goroutine :=
  G (b28.at ⟨#[pa (N + 1), pa (N + 4), pa N, pa (N + 2), undef, .chan (some (N + 3)), .tuple #[.int .i64 0, .bool false], undef, undef, undef, undef, undef, undef, undef, undef, undef, undef, undef], [dcall 29 #[pa (N + 1)]]⟩
    [.inRegion (match body28 with | .seq _ (.seq _ (.block _ (.loop (.seq (.region _ ops _) _)))) => ops | _ => #[]) [1], .code (match body28 with | .seq _ (.seq _ (.block _ (.loop (.seq _ r)))) => r | _ => .skip), .inLoop (match body28 with | .seq _ (.seq _ (.block _ (.loop r))) => r | _ => .skip), .inBlock 0]) [bot28]

set_option maxRecDepth 100000 in
/-- FROM ITS BIRTH TO ITS RECEIVE. -/
theorem onWay28 (N : Nat) : OnWay Tryz.prog (KT N) (EvIdle (N + 1) (Own N) (Rd N)) (N + 3) (.int .i64 0) (h28 N) 13 (born Tryz.prog (call28 N)) := by
  refine .ctl rfl (born_step N) ?_
  simp only [h28, body28, Tryz.f28, Option.getD_some]
  refine .ctl rfl (fun w => stepG_seq) ?_
  refine .ctl rfl (fun w => stepG_region) ?_
  simp only [List.size_toArray, List.length_cons, List.length_nil, Nat.zero_add, List.range, List.range.loop]
  refine .ctl rfl (fun w => stepG_defer rfl rfl (by decide) rfl) ?_
  walk_nrm
  refine .ctl rfl (fun w => stepG_region_end) ?_
  refine .ctl rfl (fun w => stepG_seq) ?_
  refine .ctl rfl (fun w => stepG_region) ?_
  simp only [List.size_toArray, List.length_cons, List.length_nil, Nat.zero_add, List.range, List.range.loop]
  refine ⟨rfl, _, _, fun e he => ?_, fun w hw => stepG_load90 (v := .chan (some (N + 3))) rfl rfl (by decide) rfl rfl (by simp [World.cell?, show w.heap[N + 4]? = _ from hw]) loud28, ?_⟩
  · simp only [List.mem_toArray, List.mem_singleton] at he
    subst he
    exact evIdle_todo N
  walk_nrm
  refine .ctl rfl (fun w => stepG_region_end) ?_
  refine .ctl rfl (fun w => stepG_block) ?_
  refine .ctl rfl (fun w => stepG_loop) ?_
  refine .ctl rfl (fun w => stepG_seq) ?_
  refine .ctl rfl (fun w => stepG_region) ?_
  simp only [List.size_toArray, List.length_cons, List.length_nil, Nat.reduceAdd, Nat.zero_add, List.range, List.range.loop]
  refine ⟨rfl, _, #[], by simp, fun w hw => stepG_recv90 rfl rfl (by decide) rfl rfl, ?_⟩
  rfl
/-- The literal's own way out, once Done has left: it only leaves. -/
theorem quitsTail28 (T : Array Value) : QuitsD Tryz.prog 2 0 (G { b28.at ⟨T, []⟩ [] with mode := .returning } [bot28]) := by
  refine QuitsD.ctl (g' := G bot28 []) rfl (fun w => ?_) ?_
  · simp [G, stepG, unwind, doReturn, results, Frame.at, b28, baseD, bot28, Tryz.func28, Tryz.f28, seen, GStep.after, goexitEntry]
  refine QuitsD.ctl (g' := { G bot28 [] with status := .finished }) rfl (fun w => ?_) ⟨rfl, rfl⟩
  simp [G, stepG, unwind, bot28, goexitEntry, Frame.catches]
  rfl

set_option maxRecDepth 100000 in
set_option maxHeartbeats 4000000 in
/-- BEHIND ITS RECEIVE: TO ITS END. -/
theorem works28 {N C Low k : Nat} {v : Value} {w : World} (hK : WgLive 87 (N + 1) w ∧ Has C (k - 1) v w) :
    ∃ m, Goes Tryz.prog false (RW 87 (N + 1) C 4 Low (k - 1)) (DWs (N + 1) (Own N) (Rd N) C 4 k) (AtR0 Tryz.prog 87 (N + 1) C 4 Low k v) m (h28 N) w := by
  refine ⟨40, ?_⟩
  simp only [h28, body28, Tryz.f28, Option.getD_some]
  u_op kn_rely hK
  u_c stepG_region_end kn_rely hK
  u_c stepG_seq kn_rely hK
  u_cond false kn_rely hK
  u_exit kn_rely hK
  u_c stepG_end kn_rely hK
  u_in kn_rely hK
  rw [stepG_unwind_enter rfl Tryz.func29 (nm_done link) rfl]
  simp only [goes_go]
  refine ⟨by u_nil, ?_⟩
  walk_nrmf Tryz.f29
  have hA := @doneN _ link Tryz.prog wgLib (Own N) (Rd N) (N + 1) C 4 Low k v
  simp only [body_done, doneFn, Option.getD_some] at hA
  refine (hA rfl (quitsTail28 _) _ hK).mono (by decide)
end Go.Proofs.YtpejmgellidhbaaGreatDoor
