/- Blocks behind stores and new blocks, as rules for simp. -/
import Derived.Test.YtpejmgellidhbaaDoorB3
namespace Go.Proofs.YtpejmgellidhbaaDoor
open Go.RowKit

/-- A store into a block. -/
def putIn (i : Nat) (v : Value) : Obj → Obj
  | .cells c T fr => .cells (c.setIfInBounds i v) T fr
  | o => o
theorem q_same (w : World) (b i : Nat) (v : Value) : (w.setCell ⟨b, i, none⟩ v).heap[b]? = (w.heap[b]?).map (putIn i v) := by
  simp only [World.setCell, Array.getElem?_modify, if_true]
  cases w.heap[b]? with
  | none => rfl
  | some o => cases o <;> rfl
theorem q_ne (w : World) {b b' : Nat} (i : Nat) (v : Value) (h : ¬ b' = b) : (w.setCell ⟨b, i, none⟩ v).heap[b']? = w.heap[b']? := Below.heap_setCell _ _ _ _ h
theorem q_new (w : World) (o : Obj) {b : Nat} (h : b = w.heap.size) : (w.alloc o).heap[b]? = some o := by rw [h]; exact ha_new w o
theorem q_old (w : World) (o : Obj) {b : Nat} (h : b < w.heap.size) : (w.alloc o).heap[b]? = w.heap[b]? := Below.heap_alloc w o b h
theorem q_drew (w : World) (b : Nat) : w.drew.heap[b]? = w.heap[b]? := rfl
theorem q_row (w : World) {b b' : Nat} (cs : Array Value) (h : ¬ b' = b) : (w.setRow b cs).heap[b']? = w.heap[b']? := setRow_other _ _ _ _ h
theorem size_drew (w : World) : w.drew.heap.size = w.heap.size := rfl
theorem q_below {w w1 : World} {B b : Nat} (hb : Below B w w1) (h : b < B) : w1.heap[b]? = w.heap[b]? := hb.block b h


/-! Two new variables, of a node and of a fault, a call that makes memory, and both stored: the six orders. -/
/-- A node's and a fault's variable, as they lie behind. -/
def Got (W wc : World) (nb fb : Nat) (a0 a1 a2 a3 a4 f0 f1 : Value) : Prop :=
  Below W.heap.size W wc ∧ wc.heap[nb]? = some (.cells #[a0, a1, a2, a3, a4] 34 (0, 0)) ∧ wc.heap[fb]? = some (.cells #[f0, f1] 38 (0, 0))
abbrev nil34 : Obj := .cells #[.int .i64 0, .int .i64 0, .slice none 0 0, .slice none 0 0, .slice none 0 0] 34
abbrev nil38 : Obj := .cells #[.int .i64 0, .int .i64 0] 38
section
variable {W w2 : World} {a0 a1 a2 a3 a4 f0 f1 : Value}
theorem got1 (hb : Below W.drew.heap.size W.drew w2) : Got W ((w2.alloc (.cells #[a0, a1, a2, a3, a4] 34)).alloc (.cells #[f0, f1] 38)) w2.heap.size (w2.heap.size + 1) a0 a1 a2 a3 a4 f0 f1 := by
  have h0 : Below W.heap.size W w2 := (Below.refl _ _).drew.trans hb
  refine ⟨(h0.alloc h0.size _).alloc (by simp; have := h0.size; omega) _, ?_, ?_⟩
  · rw [q_old _ _ (by simp), q_new _ _ rfl]
  · rw [q_new _ _ (by simp)]
theorem got2 (hb : Below W.drew.heap.size W.drew w2) : Got W ((w2.alloc (.cells #[f0, f1] 38)).alloc (.cells #[a0, a1, a2, a3, a4] 34)) (w2.heap.size + 1) w2.heap.size a0 a1 a2 a3 a4 f0 f1 := by
  have h0 : Below W.heap.size W w2 := (Below.refl _ _).drew.trans hb
  refine ⟨(h0.alloc h0.size _).alloc (by simp; have := h0.size; omega) _, ?_, ?_⟩
  · rw [q_new _ _ (by simp)]
  · rw [q_old _ _ (by simp), q_new _ _ rfl]
theorem got3 (hb : Below (W.alloc nil34).drew.heap.size (W.alloc nil34).drew w2) :
    Got W ((((((w2.setCell ⟨W.heap.size, 0, none⟩ a0).setCell ⟨W.heap.size, 1, none⟩ a1).setCell ⟨W.heap.size, 2, none⟩ a2).setCell ⟨W.heap.size, 3, none⟩ a3).setCell ⟨W.heap.size, 4, none⟩ a4).alloc (.cells #[f0, f1] 38)) W.heap.size w2.heap.size a0 a1 a2 a3 a4 f0 f1 := by
  have h0 : Below W.heap.size W w2 := ((Below.refl _ _).alloc (Nat.le_refl _) _).drew.trans (hb.mono (by rw [size_drew]; simp))
  have hs := hb.size
  simp only [size_drew, World.size_alloc] at hs
  have hn : w2.heap[W.heap.size]? = some nil34 := by
    rw [hb.block _ (by simp), q_drew, q_new _ _ rfl]
  refine ⟨(((((h0.setCell (Nat.le_refl _) _).setCell (Nat.le_refl _) _).setCell (Nat.le_refl _) _).setCell (Nat.le_refl _) _).setCell (Nat.le_refl _) _).alloc (by simp only [World.size_setCell]; omega) _, ?_, ?_⟩
  · rw [q_old _ _ (by simp only [World.size_setCell]; omega)]
    simp only [q_same, hn, Option.map_some]
    rfl
  · rw [q_new _ _ (by simp only [World.size_setCell])]
theorem got4 (hb : Below ((W.alloc nil34).alloc nil38).drew.heap.size ((W.alloc nil34).alloc nil38).drew w2) :
    Got W (((((((w2.setCell ⟨W.heap.size, 0, none⟩ a0).setCell ⟨W.heap.size, 1, none⟩ a1).setCell ⟨W.heap.size, 2, none⟩ a2).setCell ⟨W.heap.size, 3, none⟩ a3).setCell ⟨W.heap.size, 4, none⟩ a4).setCell ⟨W.heap.size + 1, 0, none⟩ f0).setCell ⟨W.heap.size + 1, 1, none⟩ f1)
      W.heap.size (W.heap.size + 1) a0 a1 a2 a3 a4 f0 f1 := by
  have h0 : Below W.heap.size W w2 := (((Below.refl _ _).alloc (Nat.le_refl _) _).alloc (by simp) _).drew.trans (hb.mono (by rw [size_drew]; simp; omega))
  have hn : w2.heap[W.heap.size]? = some nil34 := by
    rw [hb.block _ (by simp; omega), q_drew, q_old _ _ (by simp), q_new _ _ rfl]
  have hm : w2.heap[W.heap.size + 1]? = some nil38 := by
    rw [hb.block _ (by simp), q_drew, q_new _ _ (by simp)]
  refine ⟨((((((h0.setCell (Nat.le_refl _) _).setCell (Nat.le_refl _) _).setCell (Nat.le_refl _) _).setCell (Nat.le_refl _) _).setCell (Nat.le_refl _) _).setCell (by simp) _).setCell (by simp) _, ?_, ?_⟩
  · simp only [q_same, q_ne _ _ _ (show ¬ W.heap.size = W.heap.size + 1 by omega), hn, Option.map_some]
    rfl
  · simp only [q_same, q_ne _ _ _ (show ¬ W.heap.size + 1 = W.heap.size by omega), hm, Option.map_some]
    rfl
theorem got5 (hb : Below (W.alloc nil38).drew.heap.size (W.alloc nil38).drew w2) :
    Got W (((w2.setCell ⟨W.heap.size, 0, none⟩ f0).setCell ⟨W.heap.size, 1, none⟩ f1).alloc (.cells #[a0, a1, a2, a3, a4] 34)) w2.heap.size W.heap.size a0 a1 a2 a3 a4 f0 f1 := by
  have h0 : Below W.heap.size W w2 := ((Below.refl _ _).alloc (Nat.le_refl _) _).drew.trans (hb.mono (by rw [size_drew]; simp))
  have hs := hb.size
  simp only [size_drew, World.size_alloc] at hs
  have hn : w2.heap[W.heap.size]? = some nil38 := by
    rw [hb.block _ (by simp), q_drew, q_new _ _ rfl]
  refine ⟨((h0.setCell (Nat.le_refl _) _).setCell (Nat.le_refl _) _).alloc (by simp only [World.size_setCell]; omega) _, ?_, ?_⟩
  · rw [q_new _ _ (by simp only [World.size_setCell])]
  · rw [q_old _ _ (by simp only [World.size_setCell]; omega)]
    simp only [q_same, hn, Option.map_some]
    rfl
theorem got6 (hb : Below ((W.alloc nil38).alloc nil34).drew.heap.size ((W.alloc nil38).alloc nil34).drew w2) :
    Got W (((((((w2.setCell ⟨W.heap.size + 1, 0, none⟩ a0).setCell ⟨W.heap.size + 1, 1, none⟩ a1).setCell ⟨W.heap.size + 1, 2, none⟩ a2).setCell ⟨W.heap.size + 1, 3, none⟩ a3).setCell ⟨W.heap.size + 1, 4, none⟩ a4).setCell ⟨W.heap.size, 0, none⟩ f0).setCell ⟨W.heap.size, 1, none⟩ f1)
      (W.heap.size + 1) W.heap.size a0 a1 a2 a3 a4 f0 f1 := by
  have h0 : Below W.heap.size W w2 := (((Below.refl _ _).alloc (Nat.le_refl _) _).alloc (by simp) _).drew.trans (hb.mono (by rw [size_drew]; simp; omega))
  have hn : w2.heap[W.heap.size]? = some nil38 := by
    rw [hb.block _ (by simp; omega), q_drew, q_old _ _ (by simp), q_new _ _ rfl]
  have hm : w2.heap[W.heap.size + 1]? = some nil34 := by
    rw [hb.block _ (by simp), q_drew, q_new _ _ (by simp)]
  refine ⟨((((((h0.setCell (by simp) _).setCell (by simp) _).setCell (by simp) _).setCell (by simp) _).setCell (by simp) _).setCell (by simp) _).setCell (by simp) _, ?_, ?_⟩
  · simp only [q_same, q_ne _ _ _ (show ¬ W.heap.size + 1 = W.heap.size by omega), hm, Option.map_some]
    rfl
  · simp only [q_same, q_ne _ _ _ (show ¬ W.heap.size = W.heap.size + 1 by omega), hn, Option.map_some]
    rfl
end
end Go.Proofs.YtpejmgellidhbaaDoor
