/- What is pushed on the stack of look. -/
import Derived.Test.YtpejmgellidhbaaDoorB5
import Derived.OwnWalk
namespace Go.Proofs.YtpejmgellidhbaaDoor
open Go.RowKit

theorem val_info : (Tryd.prog.info? 27).map (fun i => (i.zero, i.size, i.bytes)) = some (some (.agg #[.int .i64 0, .int .i64 0]), 2, 16) := by kernel_rfl
theorem int_info : (Tryd.prog.info? 3).map (fun i => (i.zero, i.size, i.bytes)) = some (some (.int .i64 0), 1, 8) := by kernel_rfl
theorem StackAt.pushed {w' : World} {B : Nat} {v' : Value} {stk : List (Int × Int)} {x : Int × Int} (h : w'.ownsRow B 27 2 v' (stk.length + 1) (vcells stk.reverse ++ [.int .i64 x.1, .int .i64 x.2])) : StackAt w' B v' (x :: stk) := by
  unfold StackAt
  rw [List.reverse_cons, vcells_append]
  exact h
theorem StackAt.rowFact {w : World} {B : Nat} {sv : Value} {stk : List (Int × Int)} (h : StackAt w B sv stk) : ∀ k, sv.ownBlock = some k → B ≤ k ∧ ∃ cs, w.heap[k]? = some (.cells cs 27 (0, 0)) := by
  intro k hk
  rcases h.2 with ⟨rfl, _⟩ | ⟨g, cap, cur, rfl, hB, hg, _⟩
  · simp [Value.ownBlock] at hk
  · simp only [Value.ownBlock, Option.some.injEq] at hk
    subst hk
    exact ⟨hB, cur, hg⟩
theorem RdVals.grown {w w' : World} {v : Value} {xs : List (Int × Int)} (h : RdVals w v xs) {row : Option Nat} (hg : w.grownBy w' row) (hne : 0 < xs.length → ∀ k, v.ownBlock = some k → row ≠ some k) : RdVals w' v xs := by
  obtain ⟨A, c, rfl, hl, hx⟩ := h
  refine ⟨A, c, rfl, hl, fun h0 => ?_⟩
  obtain ⟨b, o, rfl, hb, hr⟩ := hx h0
  have hk : some b ≠ row := fun e => hne h0 b rfl e.symm
  exact ⟨b, o, rfl, Nat.lt_of_lt_of_le hb hg.size, fun j hj => ⟨hg.cell (hr j hj).1 hk, hg.cell (hr j hj).2 hk⟩⟩
theorem WalkAt.grownBy {w0 w w' : World} {B p m : Nat} {hv ov : Value} {c : Int} {ms : List (Int × Met)} {bs : List Nat} (h : WalkAt w0 w B p m hv ov c ms bs) {row : Option Nat} (hg : w.grownBy w' row)
    (hrow : ∀ k, row = some k → B ≤ k ∧ ∃ cs, w.heap[k]? = some (.cells cs 27 (0, 0))) : WalkAt w0 w' B p m hv ov c ms bs := by
  have hB : B ≤ w.heap.size := Nat.le_of_lt (Nat.lt_of_le_of_lt (h.lt (.inl rfl)).1 (h.lt (.inl rfl)).2)
  refine h.kept (h.elder.1.grown hg hB fun k hk => (hrow k hk).1) fun b hb => hg.block b (h.lt hb).2 fun e => ?_
  obtain ⟨_, cs, hcs⟩ := hrow b e.symm
  exact h.ne hcs (by decide) hb rfl
/-- What the pushing of parts has come to: those from j on are pushed. -/
structure PushAt (w0 w : World) (B p m rb : Nat) (hv ov : Value) (c : Int) (ms : List (Int × Met)) (bs : List Nat) (pv : Value) (xs rest : List (Int × Int)) (j : Nat) (sv iv : Value) : Prop where
  i : iv = .int .i64 ((j : Int) - 1)
  le : j ≤ xs.length
  walk : WalkAt w0 w B p m hv ov c ms bs
  stack : StackAt w B sv (xs.drop j ++ rest)
  vals : RdVals w pv xs
  apart : 0 < xs.length → ∀ k, pv.ownBlock = some k → sv.ownBlock ≠ some k
  err : w.heap[rb]? = some (.cells #[.int .i64 0, .int .i64 0] 38 (0, 0))
/-- One more is pushed. -/
theorem PushAt.next {w0 w w' : World} {B p m rb : Nat} {hv ov : Value} {c : Int} {ms : List (Int × Met)} {bs : List Nat} {pv : Value} {xs rest : List (Int × Int)} {j : Nat} {sv iv sv' iv' : Value}
    (h : PushAt w0 w B p m rb hv ov c ms bs pv xs rest (j + 1) sv iv) {x y : Int × Int} (hx : xs[j]? = some x)
    (hown : w'.ownsRow B 27 2 sv' ((xs.drop (j + 1) ++ rest).length + 1) (vcells (xs.drop (j + 1) ++ rest).reverse ++ [.int .i64 x.1, .int .i64 x.2]))
    (hg : (w.alloc (.cells #[.int .i64 y.1, .int .i64 y.2] 27)).grownBy w' sv.ownBlock) (hat : sv'.ownBlock = sv.ownBlock ∨ sv'.ownBlock = some (w.alloc (.cells #[.int .i64 y.1, .int .i64 y.2] 27)).heap.size)
    (hi : iv' = .int .i64 ((j : Int) - 1)) : PushAt w0 w' B p m rb hv ov c ms bs pv xs rest j sv' iv' := by
  have hlt : j < xs.length := by have := h.le; omega
  have hx2 : xs[j] = x := by simpa [List.getElem?_eq_getElem hlt] using hx
  have hS := h.stack.alloc (.cells #[.int .i64 y.1, .int .i64 y.2] 27)
  have hv2 := h.vals
  obtain ⟨A, cc, rfl, hl, hr⟩ := hv2
  obtain ⟨b, o, rfl, hb, _⟩ := hr (by omega)
  refine ⟨hi, by omega, (h.walk.alloc _).grownBy hg hS.rowFact, ?_, ?_, fun h0 k hk => ?_, ?_⟩
  · rw [List.drop_eq_getElem_cons hlt, hx2, List.cons_append]
    exact StackAt.pushed hown
  · exact (h.vals.below (B := w.heap.size) ((Below.refl _ _).alloc (Nat.le_refl _) _) (Nat.le_refl _)).grown hg h.apart
  · rcases hat with e | e
    · rw [e]
      exact h.apart h0 k hk
    · rw [e]
      simp only [Value.ownBlock, Option.some.injEq] at hk
      subst hk
      simp
      omega
  · have hrl := blk_lt h.err
    refine (hg.block rb (by simp; omega) fun e => ?_).trans (ha_old h.err)
    obtain ⟨_, cs, hcs⟩ := hS.rowFact rb e.symm
    rw [ha_old h.err] at hcs
    simp at hcs
/-- A slice that parts hands back does not lie in the stack's block. -/
theorem parts_apart {w0 w w' : World} {B : Nat} {fv pv sv : Value} {fs xs stk : List (Int × Int)} (hfv : RdVals w0 fv fs) (hB : w0.heap.size ≤ B) (hpv : RdVals w' pv xs) (hpb : ∀ g, pv.ownBlock = some g → w.heap.size ≤ g ∨ pv = fv)
    (hS : StackAt w B sv stk) : 0 < xs.length → ∀ k, pv.ownBlock = some k → sv.ownBlock ≠ some k := by
  intro hx k hk e
  obtain ⟨hBk, cs, hcs⟩ := hS.rowFact k e
  have hlt := blk_lt hcs
  rcases hpb k hk with h | rfl
  · omega
  · obtain ⟨A, c, e1, _, h1⟩ := hfv
    obtain ⟨A', c', e2, _, h2⟩ := hpv
    rw [e1, Value.slice.injEq] at e2
    obtain ⟨b, o, rfl, hb, _⟩ := h1 (by omega)
    rw [e1] at hk
    simp only [Value.ownBlock, Option.some.injEq] at hk
    omega
/-- A map's block is another one. -/
def mapPut (w : World) (m : Nat) (o : Obj) : World := { w with heap := w.heap.setIfInBounds m o }
theorem mapPut_same (w : World) {m : Nat} (o : Obj) (h : m < w.heap.size) : (mapPut w m o).heap[m]? = some o := by
  simp [mapPut, h]
theorem mapPut_ne (w : World) {m b : Nat} (o : Obj) (h : b ≠ m) : (mapPut w m o).heap[b]? = w.heap[b]? := by
  simp [mapPut, Ne.symm h]
theorem mapPut_size (w : World) (m : Nat) (o : Obj) : (mapPut w m o).heap.size = w.heap.size := by simp [mapPut]
theorem mapPut_below {B : Nat} {a w : World} (h : Below B a w) {m : Nat} (hm : B ≤ m) (o : Obj) : Below B a (mapPut w m o) :=
  h.trans ⟨rfl, rfl, rfl, by rw [mapPut_size]; exact Nat.le_refl _, fun k hk => mapPut_ne w o (by omega)⟩
/-- run_update67, the world by its name. -/
theorem run_put67 {w : World} {m : Nat} {es : Array MapEntry} {ks : List (Int × Nat)} (hm : w.heap[m]? = some (.map es ks.length)) (he : es.toList = mapEs ks 0) {n : Int} (hn : mapAt ks n = none) (b : Nat) :
    (Instr.mapUpdate 67 (.map (some m)) (.int .i64 n) (.pointer (some ⟨b, 0, none⟩))).run Tryd.prog w =
      .ok () (mapPut w m (.map (es.push { key := .int .i64 n, val := .pointer (some ⟨b, 0, none⟩), born := ks.length }) (ks.length + 1))) := run_update67 hm he hn b
theorem ownsRow_slice {w : World} {base : Nat} {e : TypeId} {size n : Nat} {v : Value} {xs : List Value} (h : w.ownsRow base e size v n xs) : ∃ A c, v = .slice A n c := by
  rcases h.2 with ⟨rfl, h0⟩ | ⟨g, cap, cur, rfl, _⟩
  · exact ⟨none, 0, by rw [h0]⟩
  · exact ⟨_, cap, rfl⟩
theorem WalkAt.order_ne {w0 w : World} {B p m : Nat} {hv ov : Value} {c : Int} {ms : List (Int × Met)} {bs : List Nat} (h : WalkAt w0 w B p m hv ov c ms bs) {g : Nat} {o : Obj} (hg : w.heap[g]? = some o) (ho : ∀ cs, o ≠ .cells cs 3 (0, 0)) : ov.ownBlock ≠ some g := by
  intro e
  rcases h.order.2 with ⟨rfl, _⟩ | ⟨g', cap, cur, rfl, hbg, hgg, rest⟩
  · simp [Value.ownBlock] at e
  · simp only [Value.ownBlock, Option.some.injEq] at e
    subst e
    rw [hgg, Option.some.injEq] at hg
    exact ho cur hg.symm
/-- A new object's number has come into the map and behind the order: the walk has it. -/
theorem WalkAt.enter {w0 w w1 : World} {B p m : Nat} {hv ov v1 : Value} {c : Int} {ms : List (Int × Met)} {bs : List Nat} (h : WalkAt w0 w B p m hv ov c ms bs) {n : Int} {nd : Nd} {rv fv ev : Value} {es : Array MapEntry}
    (hm : w.heap[m]? = some (.map es ms.length)) (he : es.toList = mapEs ((ms.map (·.1)).zip bs) 0) (hnew : metAt ms n = none) (hnv : NV w0 nd rv fv ev)
    {w5 : World} (h5 : w5.heap = (mapPut (w.alloc (.cells #[.int .i64 nd.id, .int .i64 nd.kind, rv, fv, ev, .int .i64 0, .int .i64 (-1), .bool false] 84)) m (.map (es.push { key := .int .i64 n, val := .pointer (some ⟨w.heap.size, 0, none⟩), born := ms.length }) (ms.length + 1))).heap)
    (h5b : Below B w0 w5)
    (hown1 : w1.ownsRow B 3 1 v1 (ms.length + 1) ((ms.map fun x => .int .i64 x.1) ++ [.int .i64 n])) {o : Obj} (hg1 : (w5.alloc o).grownBy w1 ov.ownBlock) :
    WalkAt w0 (w1.setCell ⟨p, 2, none⟩ v1) B p m hv v1 c (ms ++ [(n, ⟨nd, 0, -1, false⟩)]) (bs ++ [w.heap.size]) ∧ (∀ b c' T fr, w.heap[b]? = some (.cells c' T fr) → T ≠ 3 → b ≠ p → (w1.setCell ⟨p, 2, none⟩ v1).heap[b]? = some (.cells c' T fr)) ∧ B ≤ w.heap.size := by
  have hB : B ≤ w.heap.size := Nat.le_of_lt (Nat.lt_of_le_of_lt (h.lt (.inl rfl)).1 (h.lt (.inl rfl)).2)
  have hs5 : w5.heap.size = w.heap.size + 1 := by rw [h5, mapPut_size]; simp
  have hmlt := blk_lt hm
  have hplt := blk_lt h.own
  have hpm : p ≠ m := (h.p_ne (.inl rfl)).symm
  have key : ∀ b, b < w.heap.size → b ≠ m → ov.ownBlock ≠ some b → b ≠ p → (w1.setCell ⟨p, 2, none⟩ v1).heap[b]? = w.heap[b]? := fun b hb hbm hbo hbp => by
    rw [Below.heap_setCell _ _ _ _ hbp, hg1.block b (by simp; omega) (fun e => hbo e.symm), q_old _ _ (by omega), h5, mapPut_ne _ _ hbm, q_old _ _ hb]
  refine ⟨h.grow (es := es) hnew (Nat.le_refl _) hB he ?_ ?_ ⟨rv, fv, ev, ?_, hnv⟩ (fun b hb => ?_) ?_ ?_, fun b c' T fr hb hT hbp => ?_, hB⟩
  · have hp1 : w1.heap[p]? = some (.cells #[hv, .map (some m), ov, .int .i64 c] 69 (0, 0)) := by
      rw [hg1.block p (by simp; omega) (fun e => h.order_ne h.own (by simp) e.symm), q_old _ _ (by omega), h5, mapPut_ne _ _ hpm, q_old _ _ hplt]
      exact h.own
    exact (hs_same hp1).trans rfl
  · rw [Below.heap_setCell _ _ _ _ (Ne.symm hpm), hg1.block m (by simp; omega) (fun e => h.order_ne hm (by simp) e.symm), q_old _ _ (by omega), h5, mapPut_same _ _ (by simp; omega)]
  · rw [Below.heap_setCell _ _ _ _ (show w.heap.size ≠ p by omega), hg1.block _ (by simp; omega) (fun e => by have := (h.order.lt _ e.symm).2; omega), q_old _ _ (by omega), h5, mapPut_ne _ _ (by omega), q_new _ _ rfl]
  · obtain ⟨x, rv', fv', ev', hx, _⟩ := h.metOf hb
    refine key b (h.lt (.inr (.inr (.inl hb)))).2 ?_ (h.order_ne hx (by simp)) (h.p_ne (.inr (.inl hb)))
    intro e
    rw [e, hm] at hx
    simp at hx
  · refine World.ownsRow.kept hown1 (row := some p) ⟨rfl, rfl, rfl, by simp [World.setCell], fun k _ hk => Below.heap_setCell _ _ _ _ (fun e => hk (by simp [e]))⟩ (.inr ?_)
    intro e
    rcases hown1.2 with ⟨rfl, h0⟩ | ⟨g', cap, cur, rfl, _, hgg, _⟩
    · simp [Value.ownBlock] at e
    · simp only [Value.ownBlock, Option.some.injEq] at e
      subst e
      have hp1 : w1.heap[g']? = some (.cells #[hv, .map (some m), ov, .int .i64 c] 69 (0, 0)) := by
        rw [hg1.block g' (by simp; omega) (fun e => h.order_ne h.own (by simp) e.symm), q_old _ _ (by omega), h5, mapPut_ne _ _ hpm, q_old _ _ hplt]
        exact h.own
      rw [hp1] at hgg
      simp at hgg
  · exact ((h5b.alloc (by omega) o).grown hg1 (by simp; omega) fun k hk => (h.order.lt k hk).1).setCell h.base.1 _
  · refine (key b (blk_lt hb) ?_ (h.order_ne hb ?_) hbp).trans hb
    · intro e
      rw [e, hm] at hb
      simp at hb
    · intro cs e
      simp only [Obj.cells.injEq] at e
      exact hT e.2.1
theorem StackAt.held {w w' : World} {B : Nat} {sv : Value} {stk : List (Int × Int)} (h : StackAt w B sv stk) (hk : ∀ g cs, B ≤ g → w.heap[g]? = some (.cells cs 27 (0, 0)) → w'.heap[g]? = some (.cells cs 27 (0, 0))) : StackAt w' B sv stk := by
  refine ⟨h.1, ?_⟩
  rcases h.2 with hn | ⟨g, cap, cur, rfl, hB, hg, rest⟩
  · exact .inl hn
  · exact .inr ⟨g, cap, cur, rfl, hB, hk g cur hB hg, rest⟩
theorem put_grown (w : World) (m : Nat) (o1 o2 : Obj) : w.grownBy (mapPut (World.drew (w.alloc o1)) m o2) (some m) := by
  refine ⟨rfl, rfl, rfl, ?_, fun k hk hne => ?_⟩
  · rw [mapPut_size, size_drew]
    simp
  · rw [mapPut_ne _ _ (fun e => hne (by rw [e])), q_drew, q_old _ _ hk]

/-! The rounds of look in the model. -/
section
variable {nodes : List Nd} {k : Nat} {x : Int × Int} {rest : List (Int × Int)} {ms : List (Int × Met)} {c : Int}
theorem look_met {mm : Met} (h1 : ¬ 500 < c + 1) (h2 : validB x.1 x.2 = true) (h3 : x.1 = 2) (h4 : metAt ms x.2 = some mm) :
    lookM nodes (k + 1) (x :: rest) ms c = if mm.nd.kind = 4 ∧ 500 < c + 1 + mm.nd.raw.length then .large else lookM nodes k rest (metMod once x.2 ms) (c + 1 + grows mm.nd) := by
  have h3' : ¬ x.1 ≠ 2 := fun h => h h3
  have h2' : ¬ validB x.1 x.2 = false := by rw [h2]; decide
  simp only [lookM, if_neg h1, if_neg h3', if_neg h2', h4]
theorem look_new {nd : Nd} (h1 : ¬ 500 < c + 1) (h2 : validB x.1 x.2 = true) (h3 : x.1 = 2) (h4 : metAt ms x.2 = none) (h5 : findN nodes x.2 = some nd) :
    lookM nodes (k + 1) (x :: rest) ms c = if nd.kind = 4 ∧ 500 < c + 1 + nd.raw.length then .large
      else lookM nodes k (if kBox nd.kind then partsM nd.kind nd.fields ++ rest else rest) (ms ++ [(x.2, ⟨nd, 1, -1, false⟩)]) (c + 1 + grows nd) := by
  have h3' : ¬ x.1 ≠ 2 := fun h => h h3
  have h2' : ¬ validB x.1 x.2 = false := by rw [h2]; decide
  simp only [lookM, if_neg h1, if_neg h3', if_neg h2', h4, h5]
theorem look_lost (h1 : ¬ 500 < c + 1) (h2 : validB x.1 x.2 = true) (h3 : x.1 = 2) (h4 : metAt ms x.2 = none) (h5 : findN nodes x.2 = none) : lookM nodes (k + 1) (x :: rest) ms c = .err 30 := by
  have h3' : ¬ x.1 ≠ 2 := fun h => h h3
  have h2' : ¬ validB x.1 x.2 = false := by rw [h2]; decide
  simp only [lookM, if_neg h1, if_neg h3', if_neg h2', h4, h5]
end
end Go.Proofs.YtpejmgellidhbaaDoor
