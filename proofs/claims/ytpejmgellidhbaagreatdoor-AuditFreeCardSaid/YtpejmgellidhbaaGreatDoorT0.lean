/- Small laws of memory (as in the other seat's text A2). -/
import Derived.Test.YtpejmgellidhbaaGreatDoorM7
import Derived.WalkKit
import Derived.WalkSpells
import Derived.WalkLawsBesides
import Derived.Below
set_option linter.all false
namespace Go.Proofs.YtpejmgellidhbaaGreatDoor
open Go Go.RowKit Go.Proofs

theorem bcell {W w1 : World} (hb : Below W.heap.size W w1) : (∀ b o, b < W.heap.size → w1.cell? ⟨b, o, none⟩ = W.cell? ⟨b, o, none⟩) ∧ (∀ b o, b < W.heap.size → w1.frozen? ⟨b, o, none⟩ = W.frozen? ⟨b, o, none⟩) :=
  ⟨fun b o h => hb.cell (p := ⟨b, o, none⟩) h, fun b o h => hb.frozen (p := ⟨b, o, none⟩) h⟩

theorem hid {p : Prop} (h : p) : Hid p := h
/-! Blocks behind stores and new blocks. -/
theorem hs_same {w : World} {b i : Nat} {c : Array Value} {T : TypeId} {fr : Nat × Nat} {v : Value} (h : w.heap[b]? = some (.cells c T fr)) :
    (w.setCell ⟨b, i, none⟩ v).heap[b]? = some (.cells (c.setIfInBounds i v) T fr) := by
  simp [World.setCell, Array.getElem?_modify, h]
theorem hs_ne {w : World} {a : Addr} {b : Nat} {v : Value} (hne : b ≠ a.block) {o : Option Obj} (h : w.heap[b]? = o) : (w.setCell a v).heap[b]? = o := (Below.heap_setCell w a v b hne).trans h
theorem ha_old {w : World} {b : Nat} {x o : Obj} (h : w.heap[b]? = some o) : (w.alloc x).heap[b]? = some o :=
  (Below.heap_alloc w x b (Array.getElem?_eq_some_iff.1 h).1).trans h
theorem ha_new (w : World) (o : Obj) : (w.alloc o).heap[w.heap.size]? = some o := heap_alloc_new w o
theorem blk_lt {w : World} {b : Nat} {o : Obj} (h : w.heap[b]? = some o) : b < w.heap.size := (Array.getElem?_eq_some_iff.1 h).1
theorem blk_below {w w1 : World} {B b : Nat} {o : Obj} (hb : Below B w w1) (h : w.heap[b]? = some o) (hB : b < B) : w1.heap[b]? = some o := (hb.block b hB).trans h
theorem bc {w : World} {b : Nat} {c : Array Value} {T : TypeId} {fr : Nat × Nat} (h : w.heap[b]? = some (.cells c T fr)) (i : Nat) : w.cell? ⟨b, i, none⟩ = c[i]? := by
  simp [World.cell?, h]
theorem bf {w : World} {b : Nat} {c : Array Value} {T : TypeId} (h : w.heap[b]? = some (.cells c T (0, 0))) (i : Nat) : w.frozen? ⟨b, i, none⟩ = false := by
  simp [World.frozen?, h]

end Go.Proofs.YtpejmgellidhbaaGreatDoor
