/-
  'Reach' through one operation of the good kinds: what it lists need not be reckoned.
-/
import Derived.Test.YtpejmgellidhbaaGreatDoorM8
set_option linter.all false
namespace Go.Proofs.YtpejmgellidhbaaGreatDoor
open Go Go.Conc Go.Proofs

section
variable {S : Goroutine → World → Prop} {b : Frame} {a : Act} {k : List Item} {cs : List Frame} {w : World}
theorem Reach.gop {ops : Array Oper} {i : Nat} {rest : List Nat} {o : Oper} (ho : ops[i]? = some o) (hw : Region.wanted o (yielded ops a.tmps) = true) (hk : b.kind ≠ .early) (hg : goodOp seqF o.op = true)
    (h : ∀ K' : Act → World → Prop, (∀ a' w', Reach (G (b.at a' (.inRegion ops rest :: k)) cs) w' S → K' a' w') → uponK o a K' ((execOp a.eval o).run Tryz.prog w)) :
    Reach (G (b.at a (.inRegion ops (i :: rest) :: k)) cs) w S := by
  refine Reach.oper ho hw hk fun K' hK' => ?_
  have h1 := h _ (fun _ _ x => x)
  have hok := execOp_ok listed o hg a.eval (fun f => rfl)
  have hl := Ok.low hok w #[] (by simp)
  have hm := (Ok.run hok w #[] (by simp)).1
  rw [Sem.runT_eq] at hl hm
  have hs : ∀ e ∈ Conc.listed Tryz.prog b.fn a o w, EvP (wOf ((execOp a.eval o).run Tryz.prog w)).heap.size e := by
    intro e he
    unfold Conc.listed at he
    exact ⟨silent_seen (P := Tryz.prog) (fn := b.fn) hm e he, (grows_seen (P := Tryz.prog) (fn := b.fn) hl).low e he⟩
  have hz := hl.size
  simp only at hz
  generalize (execOp a.eval o).run Tryz.prog w = r at h1 hs hz ⊢
  cases r with
  | ok n w' => cases n <;> first | exact hK' _ _ ⟨hz, hs, h1⟩ | exact h1
  | halt x w' => exact h1
end
end Go.Proofs.YtpejmgellidhbaaGreatDoor
