/- What a walk does, as plain Lean: look. And what a walk is in memory. -/
import Derived.Test.YtpejmgellidhbaaDoorB1
namespace Go.Proofs.YtpejmgellidhbaaDoor
open Go.RowKit

/-- What a walk knows of an object. -/
structure Met where
  nd : Nd
  times : Int
  label : Int
  told : Bool
inductive LRes where
  | large
  | err (e : Int)
  | ok (ms : List (Int × Met))
def metAt (ms : List (Int × Met)) (n : Int) : Option Met := (ms.find? fun x => x.1 == n).map (·.2)
/-- The object of a number, turned. -/
def metMod (f : Met → Met) (n : Int) : List (Int × Met) → List (Int × Met)
  | [] => []
  | x :: r => if x.1 = n then (x.1, f x.2) :: r else x :: metMod f n r
/-- One time more. -/
def once (m : Met) : Met := { m with times := m.times + 1 }
/-- How much a text counts. -/
def grows (nd : Nd) : Int := if nd.kind = 4 then nd.raw.length else 0
def lookM (nodes : List Nd) : Nat → List (Int × Int) → List (Int × Met) → Int → LRes
  | 0, _, _, _ => .large
  | _ + 1, [], ms, _ => .ok ms
  | f + 1, x :: rest, ms, c =>
    if 500 < c + 1 then .large
    else if validB x.1 x.2 = false then .err 33
    else if x.1 ≠ 2 then lookM nodes f rest ms (c + 1)
    else match metAt ms x.2 with
      | some m => if m.nd.kind = 4 ∧ 500 < c + 1 + m.nd.raw.length then .large else lookM nodes f rest (metMod once x.2 ms) (c + 1 + grows m.nd)
      | none => match findN nodes x.2 with
        | none => .err 30
        | some nd => if nd.kind = 4 ∧ 500 < c + 1 + nd.raw.length then .large
          else lookM nodes f (if kBox nd.kind then partsM nd.kind nd.fields ++ rest else rest) (ms ++ [(x.2, ⟨nd, 1, -1, false⟩)]) (c + 1 + grows nd)

/-- A met object in its block; what it leads to lies in the elder world w0. -/
def MetAt (w0 w : World) (b : Nat) (m : Met) : Prop :=
  ∃ rv fv ev, w.heap[b]? = some (.cells #[.int .i64 m.nd.id, .int .i64 m.nd.kind, rv, fv, ev, .int .i64 m.times, .int .i64 m.label, .bool m.told] 84 (0, 0)) ∧ NV w0 m.nd rv fv ev
/-- A walk in memory: its own block p, its map's m, the slots 0, 2 and 3 of its block, its objects with their blocks. -/
structure WalkAt (w0 w : World) (B p m : Nat) (hv ov : Value) (c : Int) (ms : List (Int × Met)) (bs : List Nat) : Prop where
  own : w.heap[p]? = some (.cells #[hv, .map (some m), ov, .int .i64 c] 69 (0, 0))
  map : ∃ es, w.heap[m]? = some (.map es ms.length) ∧ es.toList = mapEs ((ms.map (·.1)).zip bs) 0
  len : bs.length = ms.length
  mets : ∀ (i : Nat) (b : Nat) (x : Int × Met), bs[i]? = some b → ms[i]? = some x → MetAt w0 w b x.2
  keys : (ms.map (·.1)).Nodup
  blocks : bs.Nodup
  order : w.ownsRow B 3 1 ov ms.length (ms.map fun x => .int .i64 x.1)
  base : B ≤ p ∧ B ≤ m ∧ ∀ b ∈ bs, B ≤ b
  elder : Below B w0 w ∧ w0.heap.size ≤ B

section
variable {w0 w w' : World} {B p m : Nat} {hv ov : Value} {c : Int} {ms : List (Int × Met)} {bs : List Nat}
theorem WalkAt.metOf (h : WalkAt w0 w B p m hv ov c ms bs) {b : Nat} (hb : b ∈ bs) : ∃ x, MetAt w0 w b x := by
  obtain ⟨i, hi, rfl⟩ := List.getElem_of_mem hb
  have hl : i < ms.length := by have := h.len; omega
  exact ⟨_, h.mets i bs[i] ms[i] (by simp) (List.getElem?_eq_getElem hl)⟩
/-- What keeps a walk: its blocks are as they were. -/
theorem WalkAt.kept (h : WalkAt w0 w B p m hv ov c ms bs) (hb : Below B w0 w')
    (hk : ∀ b, b = p ∨ b = m ∨ b ∈ bs ∨ ov.ownBlock = some b → w'.heap[b]? = w.heap[b]?) : WalkAt w0 w' B p m hv ov c ms bs := by
  obtain ⟨es, hm, he⟩ := h.map
  refine ⟨(hk p (.inl rfl)).trans h.own, ⟨es, (hk m (.inr (.inl rfl))).trans hm, he⟩, h.len, fun i b x hi hx => ?_, h.keys, h.blocks, ?_, h.base, hb, h.elder.2⟩
  · obtain ⟨rv, fv, ev, h1, h2⟩ := h.mets i b x hi hx
    exact ⟨rv, fv, ev, (hk b (.inr (.inr (.inl (List.mem_of_getElem? hi))))).trans h1, h2⟩
  · refine ⟨h.order.1, ?_⟩
    rcases h.order.2 with hn | ⟨g, cap, cur, rfl, hbg, hgg, rest⟩
    · exact .inl hn
    · exact .inr ⟨g, cap, cur, rfl, hbg, (hk g (.inr (.inr (.inr rfl)))).trans hgg, rest⟩
/-- A walk's blocks lie in the heap. -/
theorem WalkAt.lt (h : WalkAt w0 w B p m hv ov c ms bs) {b : Nat} (hb : b = p ∨ b = m ∨ b ∈ bs ∨ ov.ownBlock = some b) : B ≤ b ∧ b < w.heap.size := by
  obtain ⟨es, hm, he⟩ := h.map
  rcases hb with rfl | rfl | hb | hb
  · exact ⟨h.base.1, blk_lt h.own⟩
  · exact ⟨h.base.2.1, blk_lt hm⟩
  · obtain ⟨x, rv, fv, ev, h1, h2⟩ := h.metOf hb
    exact ⟨h.base.2.2 b hb, blk_lt h1⟩
  · exact h.order.lt b hb
/-- A block of another type is none of them. -/
theorem WalkAt.ne (h : WalkAt w0 w B p m hv ov c ms bs) {g : Nat} {cs : Array Value} {T : TypeId} {fr : Nat × Nat} (hg : w.heap[g]? = some (.cells cs T fr)) (hT : T ≠ 69 ∧ T ≠ 84 ∧ T ≠ 3)
    {b : Nat} (hb : b = p ∨ b = m ∨ b ∈ bs ∨ ov.ownBlock = some b) : b ≠ g := by
  intro e
  subst e
  obtain ⟨es, hm, he⟩ := h.map
  rcases hb with rfl | rfl | hb | hb
  · rw [h.own] at hg
    simp only [Option.some.injEq, Obj.cells.injEq] at hg
    exact hT.1 hg.2.1.symm
  · rw [hm] at hg
    simp at hg
  · obtain ⟨x, rv, fv, ev, h1, h2⟩ := h.metOf hb
    rw [h1] at hg
    simp only [Option.some.injEq, Obj.cells.injEq] at hg
    exact hT.2.1 hg.2.1.symm
  · rcases h.order.2 with ⟨rfl, _⟩ | ⟨g', cap, cur, rfl, hbg, hgg, rest⟩
    · simp [Value.ownBlock] at hb
    · simp only [Value.ownBlock, Option.some.injEq] at hb
      subst hb
      rw [hgg] at hg
      simp only [Option.some.injEq, Obj.cells.injEq] at hg
      exact hT.2.2 hg.2.1.symm
theorem WalkAt.below (h : WalkAt w0 w B p m hv ov c ms bs) (hb : Below w.heap.size w w') : WalkAt w0 w' B p m hv ov c ms bs := by
  have hB : B ≤ w.heap.size := Nat.le_of_lt (Nat.lt_of_le_of_lt (h.lt (.inl rfl)).1 (h.lt (.inl rfl)).2)
  exact h.kept (h.elder.1.trans (hb.mono hB)) fun b hbb => hb.block b (h.lt hbb).2
theorem WalkAt.alloc (h : WalkAt w0 w B p m hv ov c ms bs) (o : Obj) : WalkAt w0 (w.alloc o) B p m hv ov c ms bs := h.below ((Below.refl _ _).alloc (Nat.le_refl _) o)
theorem WalkAt.drew (h : WalkAt w0 w B p m hv ov c ms bs) : WalkAt w0 w.drew B p m hv ov c ms bs := h.below (Below.refl _ _).drew
/-- A store into a block of another type. -/
theorem WalkAt.store (h : WalkAt w0 w B p m hv ov c ms bs) {g : Nat} {cs : Array Value} {T : TypeId} {fr : Nat × Nat} (hg : w.heap[g]? = some (.cells cs T fr)) (hB : B ≤ g) (hT : T ≠ 69 ∧ T ≠ 84 ∧ T ≠ 3) (o : Nat) (v : Value) :
    WalkAt w0 (w.setCell ⟨g, o, none⟩ v) B p m hv ov c ms bs :=
  h.kept (h.elder.1.setCell hB v) fun _ hbb => Below.heap_setCell _ _ _ _ (h.ne hg hT hbb)
/-- The blocks of a walk are several. -/
theorem WalkAt.p_ne (h : WalkAt w0 w B p m hv ov c ms bs) {b : Nat} (hb : b = m ∨ b ∈ bs ∨ ov.ownBlock = some b) : b ≠ p := by
  intro e
  subst e
  obtain ⟨es, hm, he⟩ := h.map
  rcases hb with rfl | hb | hb
  · rw [h.own] at hm
    simp at hm
  · obtain ⟨x, rv, fv, ev, h1, h2⟩ := h.metOf hb
    have := h.own
    rw [h1] at this
    simp at this
  · rcases h.order.2 with ⟨rfl, _⟩ | ⟨g', cap, cur, rfl, hbg, hgg, rest⟩
    · simp [Value.ownBlock] at hb
    · simp only [Value.ownBlock, Option.some.injEq] at hb
      subst hb
      rw [h.own] at hgg
      simp at hgg
/-- The walk's count is another one. -/
theorem WalkAt.count (h : WalkAt w0 w B p m hv ov c ms bs) (c' : Int) : WalkAt w0 (w.setCell ⟨p, 3, none⟩ (.int .i64 c')) B p m hv ov c' ms bs := by
  obtain ⟨es, hm, he⟩ := h.map
  have hk : ∀ b, b = m ∨ b ∈ bs ∨ ov.ownBlock = some b → (w.setCell ⟨p, 3, none⟩ (.int .i64 c')).heap[b]? = w.heap[b]? := fun b hb => Below.heap_setCell _ _ _ _ (h.p_ne hb)
  refine ⟨(hs_same h.own).trans rfl, ⟨es, (hk m (.inl rfl)).trans hm, he⟩, h.len, fun i b x hi hx => ?_, h.keys, h.blocks, ?_, h.base, h.elder.1.setCell h.base.1 _, h.elder.2⟩
  · obtain ⟨rv, fv, ev, h1, h2⟩ := h.mets i b x hi hx
    exact ⟨rv, fv, ev, (hk b (.inr (.inl (List.mem_of_getElem? hi)))).trans h1, h2⟩
  · refine ⟨h.order.1, ?_⟩
    rcases h.order.2 with hn | ⟨g, cap, cur, rfl, hbg, hgg, rest⟩
    · exact .inl hn
    · exact .inr ⟨g, cap, cur, rfl, hbg, (hk g (.inr (.inr rfl))).trans hgg, rest⟩
end

end Go.Proofs.YtpejmgellidhbaaDoor
