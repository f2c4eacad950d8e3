/-
  'Reach': alone, by steps that touch nothing new and name no mark but that of want of room, a goroutine comes to a state that meets S. Its words.
-/
import Derived.Test.YtpejmgellidhbaaGreatDoorM7
import Derived.Conc.CompanyWords
set_option linter.all false
namespace Go.Proofs.YtpejmgellidhbaaGreatDoor
open Go Go.Conc Go.Proofs

section
variable {P : Program}
theorem goes_cat {E : Event → Prop} {g1 : Goroutine} {w1 : World} {Stop : Goroutine → World → Prop} {m : Nat} (h1 : Goes P true Eq (DE E) Stop m g1 w1) :
    ∀ (n : Nat) (g : Goroutine) (w : World), Goes P true Eq (DE E) (fun x y => x = g1 ∧ y = w1) n g w → Goes P true Eq (DE E) Stop (m + n) g w := by
  intro n
  induction n with
  | zero =>
    intro g w h
    obtain ⟨rfl, rfl⟩ := h w rfl
    exact h1
  | succ n ih =>
    intro g w h
    rcases h with h | ⟨hs, h⟩
    · obtain ⟨rfl, rfl⟩ := h w rfl
      exact h1.mono (by omega)
    · refine .inr ⟨hs, fun w₁ e => ?_⟩
      obtain ⟨g', w', es, he, k⟩ := goes_elim (h w₁ e)
      rw [he, goes_go]
      exact ⟨k.1, ih _ _ k.2⟩

theorem goes_DE {E E' : Event → Prop} (hE : ∀ e, E e → E' e) {Stop : Goroutine → World → Prop} : ∀ (n : Nat) (g : Goroutine) (w : World), Goes P true Eq (DE E) Stop n g w → Goes P true Eq (DE E') Stop n g w := by
  intro n
  induction n with
  | zero => exact fun g w h => h
  | succ n ih =>
    intro g w h
    rcases h with h | ⟨hs, h⟩
    · exact .inl h
    · refine .inr ⟨hs, fun w₁ e => ?_⟩
      obtain ⟨g', w', es, he, k⟩ := goes_elim (h w₁ e)
      rw [he, goes_go]
      exact ⟨fun e he => hE e (k.1 e he), ih _ _ k.2⟩

theorem EvP.mono {B B' : Nat} (h : B ≤ B') (e : Event) (x : EvP B e) : EvP B' e := ⟨x.1, Loc.low_mono h x.2⟩
end

def Reach (g : Goroutine) (w : World) (S : Goroutine → World → Prop) : Prop :=
  ∃ (n : Nat) (g' : Goroutine) (w' : World), S g' w' ∧ w.heap.size ≤ w'.heap.size ∧ Goes Tryz.prog true Eq (DE (EvP w'.heap.size)) (fun x y => x = g' ∧ y = w') n g w

section
variable {g g' : Goroutine} {w w' : World} {S S' : Goroutine → World → Prop}
theorem Reach.done (h : S g w) : Reach g w S := ⟨0, g, w, h, Nat.le_refl _, fun w₁ e => ⟨rfl, e.symm⟩⟩
theorem Reach.weak (h : Reach g w S) (hs : ∀ g w, S g w → S' g w) : Reach g w S' := by
  obtain ⟨n, g', w', h1, h2, h3⟩ := h
  exact ⟨n, g', w', hs _ _ h1, h2, h3⟩
theorem Reach.bind (h : Reach g w fun g' w' => Reach g' w' S) : Reach g w S := by
  obtain ⟨n, g', w', ⟨m, g2, w2, h1, h2, h3⟩, h4, h5⟩ := h
  exact ⟨m + n, g2, w2, h1, Nat.le_trans h4 h2, goes_cat h3 n g w (goes_DE (EvP.mono h2) n g w h5)⟩
/-- One step. -/
theorem Reach.one (hs : g.status = .running) {es : Array Event} (h : stepG Tryz.prog true g w = .go g' w' es) (hz : w.heap.size ≤ w'.heap.size) (he : ∀ e ∈ es, EvP w'.heap.size e) (k : Reach g' w' S) : Reach g w S := by
  obtain ⟨n, g2, w2, h1, h2, h3⟩ := k
  refine ⟨n + 1, g2, w2, h1, Nat.le_trans hz h2, Goes.step hs fun w₁ e => ?_⟩
  subst e
  rw [h, goes_go]
  exact ⟨fun e hx => EvP.mono h2 e (he e hx), h3⟩
/-- A move of control. -/
theorem Reach.ctl (hs : g.status = .running) (h : stepG Tryz.prog true g w = .go g' w #[]) (k : Reach g' w S) : Reach g w S := Reach.one hs h (Nat.le_refl _) (by simp) k
theorem Reach.step (hs : g.status = .running) (h : (stepG Tryz.prog true g w).goes fun g' w' es => w.heap.size ≤ w'.heap.size ∧ (∀ e ∈ es, EvP w'.heap.size e) ∧ Reach g' w' S) : Reach g w S := by
  obtain ⟨g', w', es, he, h1, h2, h3⟩ := goes_elim h
  exact Reach.one hs he h1 h2 h3
end

section
variable {S : Goroutine → World → Prop} {b : Frame} {a : Act} {k : List Item} {cs : List Frame} {w : World}
/-- A piece of code of good operations, left the normal way. -/
theorem Reach.piece {c : Code} (hc : goodCode seqF c = true) (hb : b.kind = .normal) (ha : a.defers = []) (h : c.wp Tryz.prog (fun e a' w' => e = .normal ∧ Reach (G (b.at a' k) cs) w' S) a w) : Reach (G (b.at a (.code c :: k)) cs) w S := by
  obtain ⟨n, a', w', h1, h2, h3⟩ := goes_piece listed hc h b hb ha k cs
  exact Reach.bind ⟨n, _, w', h1, h2, h3⟩
/-- An operation. -/
theorem Reach.oper {ops : Array Oper} {i : Nat} {rest : List Nat} {o : Oper} (ho : ops[i]? = some o) (hw : Region.wanted o (yielded ops a.tmps) = true) (hk : b.kind ≠ .early)
    (h : ∀ K' : Act → World → Prop, (∀ a' w', w.heap.size ≤ w'.heap.size ∧ (∀ e ∈ Conc.listed Tryz.prog b.fn a o w, EvP w'.heap.size e) ∧ Reach (G (b.at a' (.inRegion ops rest :: k)) cs) w' S → K' a' w') → uponK o a K' ((execOp a.eval o).run Tryz.prog w)) :
    Reach (G (b.at a (.inRegion ops (i :: rest) :: k)) cs) w S := Reach.step rfl (goes_oper_k ho hw hk h)
theorem Reach.unwanted {ops : Array Oper} {i : Nat} {rest : List Nat} {o : Oper} (ho : ops[i]? = some o) (hw : Region.wanted o (yielded ops a.tmps) = false)
    (h : Reach (G (b.at (a.put o.dst undef) (.inRegion ops rest :: k)) cs) w S) : Reach (G (b.at a (.inRegion ops (i :: rest) :: k)) cs) w S := Reach.ctl rfl (stepG_unwanted ho hw) h
/-- Into a call. -/
theorem Reach.call {ops : Array Oper} {i : Nat} {rest : List Nat} {o : Oper} {f : FuncId} {fn : Func} {c : Code} {args : Array Operand} {vs : Array Value} {ats : Array TypeId}
    (ho : ops[i]? = some o) (hw : Region.wanted o (yielded ops a.tmps) = true) (hk : b.kind ≠ .early) (hop : o.op = .call { callee := .value (.func f), args, argTypes := ats })
    (hf : Tryz.prog.funcs[f]? = some fn) (hname : (fn.name == "runtime.NumGoroutine") = false) (hb : fn.body = some c) (hv : args.map a.eval = vs)
    (h : Reach (G ((base f).at { tmps := vs ++ Array.replicate (fn.ntmps - vs.size) undef, defers := [] } [.code c]) (b.at a (.inRegion ops (i :: rest) :: k) :: cs)) w S) :
    Reach (G (b.at a (.inRegion ops (i :: rest) :: k)) cs) w S := by
  subst hv
  exact Reach.step rfl (goes_call ho hw hk hop hf hname hb ⟨Nat.le_refl _, by simp, h⟩)
/-- Back from a call, at a return. -/
theorem Reach.ret {f : FuncId} {fn : Func} (hf : Tryz.prog.funcs[f]? = some fn) {a' : Act} {ops : Array Oper} {i : Nat} {rest : List Nat} {o : Oper} (ho : ops[i]? = some o) {v : Value} {k' : List Item} (hd : a'.defers = []) (hr : ResultsC Tryz.prog fn a'.tmps v)
    (h : Reach (G (b.at (a.put o.dst v) (.inRegion ops rest :: k)) cs) w S) : Reach (G ((base f).at a' (.code .ret :: k')) (b.at a (.inRegion ops (i :: rest) :: k) :: cs)) w S := by
  refine Reach.ctl rfl stepG_ret' (Reach.ctl rfl (stepG_leave (b := base f) rfl hd hf (hr w).1 (hr w).2) ?_)
  rw [Frame.finish_at, ho]
  exact h
theorem Reach.fin {f : FuncId} {fn : Func} (hf : Tryz.prog.funcs[f]? = some fn) {a' : Act} {ops : Array Oper} {i : Nat} {rest : List Nat} {o : Oper} (ho : ops[i]? = some o) {v : Value} (hd : a'.defers = []) (hr : ResultsC Tryz.prog fn a'.tmps v)
    (h : Reach (G (b.at (a.put o.dst v) (.inRegion ops rest :: k)) cs) w S) : Reach (G ((base f).at a' []) (b.at a (.inRegion ops (i :: rest) :: k) :: cs)) w S := by
  refine Reach.ctl rfl stepG_end (Reach.ctl rfl (stepG_leave (b := base f) rfl hd hf (hr w).1 (hr w).2) ?_)
  rw [Frame.finish_at, ho]
  exact h
end

end Go.Proofs.YtpejmgellidhbaaGreatDoor
