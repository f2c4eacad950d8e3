/- What may have turned ('Upto'); the table of one page: isFree, rise, TakeClass. -/
import Derived.Test.YtpejmgellidhbaaGreatDoorT7
set_option linter.all false
set_option linter.unusedSimpArgs false
set_option maxRecDepth 10000
namespace Go.Proofs.YtpejmgellidhbaaGreatDoor
open Go Go.RowKit Go.Proofs

/-- Of the blocks that were there, only those in L may have turned. -/
structure Upto (L : List Nat) (w w' : World) : Prop where
  os : w'.os = w.os
  tape : w'.tape = w.tape
  output : w'.output = w.output
  size : w.heap.size ≤ w'.heap.size
  block : ∀ b, b < w.heap.size → b ∉ L → w'.heap[b]? = w.heap[b]?
theorem Upto.refl (w : World) : Upto [] w w := ⟨rfl, rfl, rfl, Nat.le_refl _, fun _ _ _ => rfl⟩
theorem Upto.trans {L L' : List Nat} {a b c : World} (h : Upto L a b) (k : Upto L' b c) : Upto (L ++ L') a c :=
  ⟨k.os.trans h.os, k.tape.trans h.tape, k.output.trans h.output, Nat.le_trans h.size k.size, fun x hx hn => (k.block x (Nat.lt_of_lt_of_le hx h.size) (fun m => hn (List.mem_append.2 (.inr m)))).trans (h.block x hx (fun m => hn (List.mem_append.2 (.inl m))))⟩
theorem Upto.less {L L' : List Nat} {a b : World} (h : Upto L a b) (hl : ∀ x ∈ L, x ∈ L') : Upto L' a b := ⟨h.os, h.tape, h.output, h.size, fun x hx hn => h.block x hx fun m => hn (hl x m)⟩
theorem Upto.of_below {w w' : World} (h : Below w.heap.size w w') : Upto [] w w' := ⟨h.os, h.tape, h.output, h.size, fun x hx _ => h.block x hx⟩
theorem Upto.draw {L : List Nat} {a b : World} (h : Upto L a b) (d : Nat) : Upto L a { b with drawn := d } := ⟨h.os, h.tape, h.output, h.size, h.block⟩
theorem Upto.alloc {L : List Nat} {a b : World} (h : Upto L a b) (o : Obj) : Upto L a (b.alloc o) :=
  ⟨h.os, h.tape, h.output, by have := h.size; simp; omega, fun x hx hn => (Below.heap_alloc b o x (by have := h.size; omega)).trans (h.block x hx hn)⟩
theorem Upto.setCell {L : List Nat} {a b : World} (h : Upto L a b) (p : Addr) (v : Value) (hp : p.block ∈ L ∨ a.heap.size ≤ p.block) : Upto L a (b.setCell p v) :=
  ⟨h.os, h.tape, h.output, by have := h.size; simp [World.setCell]; omega, fun x hx hn => (Below.heap_setCell b p v x (by rcases hp with m | m; exact fun e => hn (e ▸ m); omega)).trans (h.block x hx hn)⟩
theorem Upto.get {L : List Nat} {a b : World} (h : Upto L a b) {x : Nat} {o : Obj} (hx : a.heap[x]? = some o) (hn : x ∉ L) : b.heap[x]? = some o := (h.block x (blk_lt hx) hn).trans hx

set_option maxHeartbeats 400000 in
theorem isFree_ok (T G : Nat) (a b : Value) (w : World) (ht : w.heap[T]? = some (.cells #[.slice (some ⟨G, 0, none⟩) 1 1, a, b] 102)) (hg : w.heap[G]? = some (.cells #[i0, i0, i0] 95)) :
    Calls Tryz.prog 92 #[ptr T, .int .i64 0] w fun e w' => e = .returned (.bool true) ∧ w' = w := by
  have c0 : w.cell? ⟨T, 0, none⟩ = some (.slice (some ⟨G, 0, none⟩) 1 1) := bc ht 0
  have g0 : w.cell? ⟨G, 0, none⟩ = some i0 := bc hg 0
  have g1 : w.cell? ⟨G, 1, none⟩ = some i0 := bc hg 1
  have g2 : w.cell? ⟨G, 2, none⟩ = some i0 := bc hg 2
  go_enter Tryz.func92, Tryz.ntmps92
  go_wp2
  go_ret
  exact ⟨rfl, rfl⟩

set_option maxHeartbeats 400000 in
theorem rise_ok (T G : Nat) (b : Value) (w : World) (ht : w.heap[T]? = some (.cells #[.slice (some ⟨G, 0, none⟩) 1 1, i0, b] 102)) (hg : w.heap[G]? = some (.cells #[i0, i0, i0] 95)) :
    Calls Tryz.prog 91 #[ptr T] w fun e w' => e = .returned (.tuple #[]) ∧ ∃ d, w' = { w with drawn := d } := by
  have c0 : w.cell? ⟨T, 0, none⟩ = some (.slice (some ⟨G, 0, none⟩) 1 1) := bc ht 0
  have c1 : w.cell? ⟨T, 1, none⟩ = some i0 := bc ht 1
  have d0 : w.drew.cell? ⟨T, 0, none⟩ = some (.slice (some ⟨G, 0, none⟩) 1 1) := bc ht 0
  have d1 : w.drew.cell? ⟨T, 1, none⟩ = some i0 := bc ht 1
  go_enter Tryz.func91, Tryz.ntmps91
  go_wp2
  refine wp_loop_rounds 1 ?_
  rw [rounds_succ]
  go_wp2
  go_region_law (go_simp; go_at_call 92; refine (isFree_ok T G _ _ _ (by exact ht) (by exact hg)).mono ?_; rintro e w2 ⟨rfl, rfl⟩)
  all_goals go_wp2
  all_goals go_end0
  all_goals exact ⟨rfl, _, rfl⟩
theorem TakeClass_ok (N : Nat) (w : World) (ht : w.heap[N + 1]? = some (.cells #[.slice (some ⟨N, 0, none⟩) 1 1, i0, .int .i64 1] 102)) (hg : w.heap[N]? = some (.cells #[i0, i0, i0] 95)) :
    Calls Tryz.prog 47 #[ptr (N + 1), .int .i64 1] w fun e w' => e = .returned (.tuple #[i0, i0]) ∧ Upto [N, N + 1] w w' := by
  go_enter Tryz.func47, Tryz.ntmps47
  go_wp2_with (first
    | (go_at_call 51; refine (Words1 _).mono ?_; rintro e w1 ⟨rfl, hb⟩
       have U := Upto.of_below hb
       clear hb
       replace ht := U.get ht (by simp)
       replace hg := U.get hg (by simp))
    | (go_at_call 91; refine (rise_ok (N + 1) N _ _ ht hg).mono ?_; rintro e w2 ⟨rfl, d, rfl⟩))
  generalize hW : ({ w1 with drawn := d } : World) = w2
  replace U : Upto [] w w2 := hW ▸ U.draw d
  replace ht : w2.heap[N + 1]? = some (.cells #[.slice (some ⟨N, 0, none⟩) 1 1, i0, .int .i64 1] 102) := by subst hW; exact ht
  replace hg : w2.heap[N]? = some (.cells #[i0, i0, i0] 95) := by subst hW; exact hg
  clear hW
  have c0 : w2.drew.cell? ⟨N + 1, 0, none⟩ = some (.slice (some ⟨N, 0, none⟩) 1 1) := bc (w := w2.drew) ht 0
  have c1 : w2.drew.cell? ⟨N + 1, 1, none⟩ = some i0 := bc (w := w2.drew) ht 1
  have c2 : w2.drew.drew.cell? ⟨N + 1, 2, none⟩ = some (.int .i64 1) := bc (w := w2.drew.drew) ht 2
  have e0 : w2.drew.drew.cell? ⟨N + 1, 0, none⟩ = some (.slice (some ⟨N, 0, none⟩) 1 1) := bc (w := w2.drew.drew) ht 0
  have e1 : w2.drew.drew.cell? ⟨N + 1, 1, none⟩ = some i0 := bc (w := w2.drew.drew) ht 1
  have g0 : w2.drew.drew.cell? ⟨N, 0, none⟩ = some i0 := bc (w := w2.drew.drew) hg 0
  have g1 : w2.drew.drew.cell? ⟨N, 1, none⟩ = some i0 := bc (w := w2.drew.drew) hg 1
  have g2 : w2.drew.drew.cell? ⟨N, 2, none⟩ = some i0 := bc (w := w2.drew.drew) hg 2
  have fg : ∀ o, w2.drew.drew.frozen? ⟨N, o, none⟩ = false := bf (w := w2.drew.drew) hg
  have ft : ∀ o, w2.drew.drew.frozen? ⟨N + 1, o, none⟩ = false := bf (w := w2.drew.drew) ht
  have p0 : w2.cell? ⟨N + 1, 0, none⟩ = some (.slice (some ⟨N, 0, none⟩) 1 1) := bc ht 0
  have p1 : w2.cell? ⟨N + 1, 1, none⟩ = some i0 := bc ht 1
  have p2 : w2.cell? ⟨N + 1, 2, none⟩ = some (.int .i64 1) := bc ht 2
  have q0 : w2.cell? ⟨N, 0, none⟩ = some i0 := bc hg 0
  have q1 : w2.cell? ⟨N, 1, none⟩ = some i0 := bc hg 1
  have q2 : w2.cell? ⟨N, 2, none⟩ = some i0 := bc hg 2
  have fq : ∀ o, w2.frozen? ⟨N, o, none⟩ = false := bf hg
  have fp : ∀ o, w2.frozen? ⟨N + 1, o, none⟩ = false := bf ht
  have hn : ¬ (N + 1 = N) := by omega
  have hn' : ¬ (N = N + 1) := by omega
  clear ht hg
  go_region
  all_goals go_wp2
  all_goals go_region
  all_goals go_wp2
  all_goals go_ret2
  all_goals exact ⟨rfl, by
    repeat first
      | exact U.less (by simp)
      | exact ((U.less (L' := [N, N + 1]) (by simp)).draw _)
      | refine Upto.setCell ?_ _ _ (.inl (by simp))
      | refine Upto.draw (d := _) ?_ ⟩
end Go.Proofs.YtpejmgellidhbaaGreatDoor
