/- The statement ShowNumbers: its walk. -/
import Derived.Test.YtpejmgellidhbaaDoorO1
import Derived.Test.YtpejmgellidhbaaDoorN7
namespace Go.Proofs.YtpejmgellidhbaaDoor
open Go.RowKit

/-! Where a fault comes to lie, in whatever order. -/
theorem flt_late {W w8 : World} (a : Int) (h : Below W.heap.size W w8) : ∃ fb, Value.pointer (some ⟨w8.heap.size, 0, none⟩) = .pointer (some ⟨fb, 0, none⟩) ∧ (w8.alloc (.cells #[.int .i64 a, .int .i64 0] 38)).heap[fb]? = some (.cells #[.int .i64 a, .int .i64 0] 38 (0, 0)) ∧ Below W.heap.size W (w8.alloc (.cells #[.int .i64 a, .int .i64 0] 38)) :=
  ⟨_, rfl, ha_new _ _, h.alloc h.size _⟩
theorem flt_early {W W1 w8 : World} (a : Int) (h1 : Below W.heap.size W W1) (h : Below (W1.alloc nil38).heap.size (W1.alloc nil38) w8) : ∃ fb, Value.pointer (some ⟨W1.heap.size, 0, none⟩) = .pointer (some ⟨fb, 0, none⟩) ∧ ((w8.setCell ⟨W1.heap.size, 0, none⟩ (.int .i64 a)).setCell ⟨W1.heap.size, 1, none⟩ (.int .i64 0)).heap[fb]? = some (.cells #[.int .i64 a, .int .i64 0] 38 (0, 0)) ∧
    Below W.heap.size W ((w8.setCell ⟨W1.heap.size, 0, none⟩ (.int .i64 a)).setCell ⟨W1.heap.size, 1, none⟩ (.int .i64 0)) := by
  have hb := blk_below h (ha_new W1 nil38) (by simp)
  have h2 : Below W.heap.size W w8 := (h1.alloc h1.size _).trans (h.mono (by have := h1.size; simp; omega))
  exact ⟨_, rfl, (hs_same (hs_same hb)).trans rfl, (h2.setCell h1.size _).setCell h1.size _⟩
theorem flt_first {W w7 w8 : World} (a : Int) (h7 : Below (W.alloc nil38).drew.heap.size (W.alloc nil38).drew w7) (h8 : Below w7.heap.size w7 w8) : ∃ fb, Value.pointer (some ⟨W.heap.size, 0, none⟩) = .pointer (some ⟨fb, 0, none⟩) ∧ ((w8.setCell ⟨W.heap.size, 0, none⟩ (.int .i64 a)).setCell ⟨W.heap.size, 1, none⟩ (.int .i64 0)).heap[fb]? = some (.cells #[.int .i64 a, .int .i64 0] 38 (0, 0)) ∧
    Below W.heap.size W ((w8.setCell ⟨W.heap.size, 0, none⟩ (.int .i64 a)).setCell ⟨W.heap.size, 1, none⟩ (.int .i64 0)) := by
  have h7' : Below (W.alloc nil38).heap.size (W.alloc nil38) w7 := (Below.refl (W.alloc nil38).heap.size (W.alloc nil38)).drew.trans h7
  exact flt_early a (Below.refl _ _) (h7'.trans (h8.mono h7'.size))
theorem hx_at {w : World} {o : Obj} {m : Nat} (h : w.heap.size = m) : (w.alloc o).heap[m]? = some o := by rw [← h]; exact ha_new w o
theorem new_at {W : World} {g : Nat} {cs : Array Value} {T : TypeId} {fr : Nat × Nat} (h : W.heap[g]? = some (.cells cs T fr)) : ∀ j u, cs.toList[j]? = some u → W.cell? ((⟨g, 0, none⟩ : Addr).add j) = some u := by
  intro j u hj
  rw [Go.WideShapes.add_plain, Nat.zero_add, bc h]
  simpa using hj
theorem nd34_info : (Tryd.prog.info? 34).map (fun i => (i.zero, i.size, i.bytes)) = some (some (.agg #[.int .i64 0, .int .i64 0, .slice none 0 0, .slice none 0 0, .slice none 0 0]), 5, 88) := by kernel_rfl
/-- The node that the statement makes, as far as its fields are made. -/
structure FldAt (W1 w : World) (mb : Nat) (id kd : Int) (rv fv : Value) (fs : List (Int × Int)) : Prop where
  own : w.heap[mb]? = some (.cells #[.int .i64 id, .int .i64 kd, rv, fv, .slice none 0 0] 34 (0, 0))
  at_ : mb = W1.heap.size
  row : w.ownsRow (mb + 1) 27 2 fv fs.length (valCells fs)
  below : Below W1.heap.size W1 w
section
variable {W1 w w' : World} {mb : Nat} {id kd : Int} {rv fv : Value} {fs : List (Int × Int)}
theorem FldAt.after (h : FldAt W1 w mb id kd rv fv fs) (hb : Below w.heap.size w w') : FldAt W1 w' mb id kd rv fv fs :=
  ⟨blk_below hb h.own (blk_lt h.own), h.at_, own_same h.row fun b hbq => hb.block b (by obtain ⟨_, cs, hcs⟩ := own_blk h.row b hbq; exact blk_lt hcs), h.below.trans (hb.mono h.below.size)⟩
theorem FldAt.grown_own (h : FldAt W1 w mb id kd rv fv fs) (hg : w.grownBy w' fv.ownBlock) : w'.heap[mb]? = some (.cells #[.int .i64 id, .int .i64 kd, rv, fv, .slice none 0 0] 34 (0, 0)) := by
  refine (hg.block mb (blk_lt h.own) fun e => ?_).trans h.own
  have := (own_blk h.row mb e.symm).1
  omega
theorem valCells_snoc (fs : List (Int × Int)) (x : Int × Int) : valCells (fs ++ [x]) = valCells fs ++ [.int .i64 x.1, .int .i64 x.2] := by simp [valCells]
theorem FldAt.add {w3 : World} (h : FldAt W1 w mb id kd rv fv fs) (hb : Below w.heap.size w w') {x : Int × Int} {v1 : Value} {n : Nat} (hn : n = fs.length + 1)
    (hown : w3.ownsRow (mb + 1) 27 2 v1 n (valCells fs ++ [.int .i64 x.1, .int .i64 x.2])) (hg : w'.grownBy w3 fv.ownBlock) : FldAt W1 (w3.setCell ⟨mb, 3, none⟩ v1) mb id kd rv v1 (fs ++ [x]) := by
  subst hn
  have h2 := h.after hb
  have hlt : W1.heap.size ≤ mb := by rw [h.at_]; exact Nat.le_refl _
  refine ⟨(hs_same (h2.grown_own hg)).trans rfl, h.at_, ?_, ?_⟩
  · rw [valCells_snoc, List.length_append]
    refine own_same hown fun b hbq => ?_
    have := (own_blk hown b hbq).1
    exact Below.heap_setCell _ _ _ _ (show b ≠ mb by omega)
  · exact (h2.below.grown hg h2.below.size fun k hk => by have := (own_blk h2.row k hk).1; omega).setCell hlt _
end
end Go.Proofs.YtpejmgellidhbaaDoor
