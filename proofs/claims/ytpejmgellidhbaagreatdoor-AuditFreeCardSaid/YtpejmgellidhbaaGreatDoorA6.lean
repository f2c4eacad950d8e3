/-
  Alone to the end: the machine's run, and what is said of its end.
-/
import Derived.Test.YtpejmgellidhbaaGreatDoorA4
import Derived.Test.YtpejmgellidhbaaGreatDoorA5
set_option linter.all false
set_option linter.unusedSimpArgs false
namespace Go.Proofs.YtpejmgellidhbaaGreatDoor
open Go Go.Conc Go.ConcN Go.RowKit Go.Proofs

theorem solo_end {w0 : World} {g : Goroutine} {w : World} (h : Reach g w (AtDone w0)) :
    ∃ N last o w' t', runNT Tryz.prog (N + 1) (solo g w) #[] = (.ended o w', t') ∧ runN Tryz.prog N (solo g w) = .next last ∧ step Tryz.prog last = .ended o w' ∧
      Conc.Good Tryz.prog (fun v w' => v = .bool true ∧ Upto [] w0 w') last o w' t' := by
  obtain ⟨n, g1, w1, ⟨a, k, rfl, hd, hv, hu⟩, _, hg⟩ := h
  have hg' : Goes Tryz.prog true Eq (DE (EvP w1.heap.size)) (fun x y => x = G { (base 3).at a (.code .ret :: k) with mode := .returning } [] ∧ y = w1) (1 + n) g w :=
    goes_cat (Goes.step rfl fun w₁ e => by
      subst e
      rw [stepG_ret', goes_go]
      exact ⟨by intro e he; simp at he, fun w₂ e => ⟨rfl, e.symm⟩⟩) n g w hg
  obtain ⟨k0, a0, w2, u, hrun, ⟨rfl, rfl⟩, h0⟩ := solo_goesE #[] hg'
  have hst := ended3 a (.code .ret :: k) w2 (.bool true) hd hv
  have hT : stepT Tryz.prog (solo (G { (base 3).at a (.code .ret :: k) with mode := .returning } []) w2) = (.ended (.done (.bool true)) w2, #[]) := by
    rw [stepT_solo rfl]
    simp [runT, solo, Array.swapAt!, Array.swapAt, hst, GStep.es, MemOp.ofEvents]
  have h00 : ∀ op ∈ u, op.g = 0 := fun op hop => (h0 op hop).1
  refine ⟨k0, solo (G { (base 3).at a (.code .ret :: k) with mode := .returning } []) w2, .done (.bool true), w2, u, ?_, ?_, ?_, .bool true, rfl, ⟨rfl, hu⟩, ?_, ?_, ⟨?_, rfl⟩, ?_⟩
  · rw [runNT_add, hrun]
    simp [runNT, hT]
  · rw [← runNT_fst Tryz.prog _ _ #[], hrun]
  · rw [step, hT]
  · intro said
    have := noRace_append (t := #[]) (u := u) (g := 0) (noRace_nil said) h00 (fun i a ha => by simp [touchAt, Trace.act?] at ha)
    simpa using this
  · intro i g hg hne
    exfalso
    simp only [Trace.g?, Option.map_eq_some_iff] at hg
    obtain ⟨op, hop, rfl⟩ := hg
    exact hne (h00 op (Array.mem_of_getElem? hop))
  · intro g hg
    simp [solo] at hg
  · intro i g hg hne
    exfalso
    cases i with
    | zero => exact hne rfl
    | succ i => simp [solo] at hg
end Go.Proofs.YtpejmgellidhbaaGreatDoor
