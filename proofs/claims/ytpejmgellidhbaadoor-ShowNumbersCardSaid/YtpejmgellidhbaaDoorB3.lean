/- The stack of values of the method look, in memory. -/
import Derived.Test.YtpejmgellidhbaaDoorB2
import Derived.WalkSmall
namespace Go.Proofs.YtpejmgellidhbaaDoor
open Go.RowKit

theorem vcells_length (xs : List (Int × Int)) : (vcells xs).length = xs.length * 2 := by
  induction xs with
  | nil => rfl
  | cons x r ih => simp only [vcells, List.flatMap_cons, List.length_append, List.length_cons, List.length_nil] at *; omega
theorem vcells_append (xs ys : List (Int × Int)) : vcells (xs ++ ys) = vcells xs ++ vcells ys := by simp [vcells]
/-- A stack's values in a row of the call's own, the top last. -/
def StackAt (w : World) (B : Nat) (sv : Value) (stk : List (Int × Int)) : Prop := w.ownsRow B 27 2 sv stk.length (vcells stk.reverse)

theorem StackAt.nilForm {w : World} {B : Nat} {sv : Value} (h : StackAt w B sv []) : ∃ A c, sv = .slice A 0 c := by
  rcases h.2 with ⟨rfl, _⟩ | ⟨g, cap, cur, rfl, _⟩
  · exact ⟨none, 0, rfl⟩
  · exact ⟨_, cap, rfl⟩
theorem StackAt.form {w : World} {B : Nat} {sv : Value} {stk : List (Int × Int)} (h : StackAt w B sv stk) : ∃ A c, sv = .slice A stk.length c := by
  rcases h.2 with ⟨rfl, h0⟩ | ⟨g, cap, cur, rfl, _⟩
  · exact ⟨none, 0, by rw [h0]⟩
  · exact ⟨_, cap, rfl⟩
theorem StackAt.top {w : World} {B : Nat} {sv : Value} {x : Int × Int} {rest : List (Int × Int)} (h : StackAt w B sv (x :: rest)) :
    ∃ g cap cur, sv = .slice (some ⟨g, 0, none⟩) (rest.length + 1) cap ∧ B ≤ g ∧ w.heap[g]? = some (.cells cur 27 (0, 0)) ∧ w.cell? ⟨g, rest.length * 2, none⟩ = some (.int .i64 x.1) ∧
      w.cell? ⟨g, rest.length * 2 + 1, none⟩ = some (.int .i64 x.2) ∧ StackAt w B (.slice (some ⟨g, 0, none⟩) rest.length cap) rest ∧ rest.length + 1 ≤ cap ∧ cap ≤ maxLen := by
  have h' := h
  obtain ⟨hl, h2⟩ := h
  rcases h2 with ⟨_, h0⟩ | ⟨g, cap, cur, rfl, hB, hg, hn, hcap, hsz, ht⟩
  · simp at h0
  · have e : vcells (x :: rest).reverse = vcells rest.reverse ++ [.int .i64 x.1, .int .i64 x.2] := by
      rw [List.reverse_cons, vcells_append]
      rfl
    have hlen : (vcells rest.reverse).length = rest.length * 2 := by rw [vcells_length, List.length_reverse]
    have hadd : ∀ j, (⟨g, 0, none⟩ : Addr).add j = ⟨g, j, none⟩ := fun j => by unfold Addr.add; split <;> simp_all
    have hc := h'.cells (g := g) rfl
    refine ⟨g, cap, cur, rfl, hB, hg, ?_, ?_, ?_, hn, hcap⟩
    · rw [← hadd]
      refine hc _ _ ?_
      rw [e, List.getElem?_append_right (by omega), hlen]
      simp
    · rw [← hadd]
      refine hc _ _ ?_
      rw [e, List.getElem?_append_right (by omega), hlen]
      simp
    · refine ownsRow_pop (last := [.int .i64 x.1, .int .i64 x.2]) hlen ?_
      rw [← e]
      exact h'
/-- What keeps a stack. -/
theorem StackAt.grown {w w' : World} {B : Nat} {sv : Value} {stk : List (Int × Int)} (h : StackAt w B sv stk) {row : Option Nat} (hg : w.grownBy w' row) (hne : sv.ownBlock = none ∨ sv.ownBlock ≠ row) : StackAt w' B sv stk := World.ownsRow.kept h hg hne
theorem StackAt.below {w w' : World} {B : Nat} {sv : Value} {stk : List (Int × Int)} (h : StackAt w B sv stk) (hb : Below w.heap.size w w') : StackAt w' B sv stk :=
  h.grown (row := none) ⟨hb.os, hb.tape, hb.output, hb.size, fun k hk _ => hb.block k hk⟩ (by cases hq : sv.ownBlock <;> simp)
/-- A store into a block of another type. -/
theorem StackAt.store {w : World} {B : Nat} {sv : Value} {stk : List (Int × Int)} (h : StackAt w B sv stk) {g : Nat} {cs : Array Value} {T : TypeId} {fr : Nat × Nat} (hg : w.heap[g]? = some (.cells cs T fr)) (hT : T ≠ 27) (o : Nat) (v : Value) :
    StackAt (w.setCell ⟨g, o, none⟩ v) B sv stk := by
  refine h.grown (row := some g) ⟨rfl, rfl, rfl, by simp [World.setCell], fun k _ hk => Below.heap_setCell _ _ _ _ (fun e => hk (by simp [e]))⟩ (.inr ?_)
  rcases h.2 with ⟨rfl, _⟩ | ⟨g', cap, cur, rfl, _, hgg, _⟩
  · simp [Value.ownBlock]
  · intro e
    simp only [Value.ownBlock, Option.some.injEq] at e
    subst e
    rw [hg] at hgg
    simp only [Option.some.injEq, Obj.cells.injEq] at hgg
    exact hT hgg.2.1
theorem StackAt.one (w : World) (B : Nat) (hB : B ≤ w.heap.size) (x : Int × Int) : StackAt (w.alloc (.cells #[.int .i64 x.1, .int .i64 x.2] 27)) B (.slice (some ⟨w.heap.size, 0, none⟩) 1 1) [x] :=
  ⟨rfl, .inr ⟨w.heap.size, 1, #[.int .i64 x.1, .int .i64 x.2], rfl, hB, ha_new w _, by simp, by simp [maxLen], rfl, rfl⟩⟩
theorem WalkAt.row {w0 w : World} {B p m : Nat} {hv ov : Value} {c : Int} {ms : List (Int × Met)} {bs : List Nat} (h : WalkAt w0 w B p m hv ov c ms bs) {g : Nat} {cs : Array Value} {T : TypeId} {fr : Nat × Nat}
    (hg : w.heap[g]? = some (.cells cs T fr)) (hB : B ≤ g) (hT : T ≠ 69 ∧ T ≠ 84 ∧ T ≠ 3) (cs' : Array Value) : WalkAt w0 (w.setRow g cs') B p m hv ov c ms bs :=
  h.kept (below_setRow h.elder.1 hB _) fun _ hbb => setRow_other _ _ _ _ (h.ne hg hT hbb)
theorem results_tmp_cell {fn : Func} {t q : Tmp} {ty : TypeId} (h : fn.results = #[.tmp t, .cell q ty]) (tmps : Array Value) (P : Program) (w : World) :
    (results fn tmps).run P w = ((asAddr (tmps.getD q undef)).run P w).andThen fun a w1 => ((loadVar ty a).run P w1).andThen fun v w2 => .ok (.tuple #[tmps.getD t undef, v]) w2 := by
  simp only [results, h]
  simp [Sem.run_bind, Result.andThen]
theorem resT38 {fn : Func} {t q : Tmp} (h : fn.results = #[.tmp t, .cell q 38]) {tmps : Array Value} {w : World} {b : Nat} {cs : Array Value} {T : TypeId} {fr : Nat × Nat}
    (ht : tmps.getD q undef = .pointer (some ⟨b, 0, none⟩)) (hb : w.heap[b]? = some (.cells cs T fr)) (hs : cs.size = 2) :
    (results fn tmps).run Tryd.prog w = .ok (.tuple #[tmps.getD t undef, .agg cs]) w := by
  refine (results_tmp_cell h _ _ _).trans ?_
  have l2 := run_loadVar_row (P := Tryd.prog) w b T 38 cs fr _ hb Tryd.underlying38 rfl (by rw [hs]; kernel_rfl)
  rw [ht]
  simp only [run_asAddr, Result.andThen, l2]
theorem StackAt.alloc {w : World} {B : Nat} {sv : Value} {stk : List (Int × Int)} (h : StackAt w B sv stk) (o : Obj) : StackAt (w.alloc o) B sv stk := h.below ((Below.refl _ _).alloc (Nat.le_refl _) o)
end Go.Proofs.YtpejmgellidhbaaDoor
