/-
  words (f9), from the head of the loop that starts the workers: four rounds; the close; into Wait. (Blocks: see W2.)
-/
import Derived.Test.YtpejmgellidhbaaGreatDoorW3
set_option linter.all false
set_option linter.unusedSimpArgs false
namespace Go.Proofs.YtpejmgellidhbaaGreatDoor
open Go Go.Proofs Go.Conc Go.ConcN Go.RowKit Go.Conc.Lib Go.ConcR.Gen Go.ConcN.Gen
open Go.ConcR (KK wgBlock WgAt stA smA rd wr mk Payload Aside2 DC0 ofEvent_cell)

noncomputable def body9 : Code := Tryz.f9.body.getD .skip
/-- The loop's round; what stands behind the loop. -/
noncomputable def L9 : Code := match body9 with | .seq _ (.seq _ (.seq _ (.seq _ (.seq (.seq _ (.block _ (.loop c))) _)))) => c | _ => .skip
noncomputable def R9 : Code := match body9 with | .seq _ (.seq _ (.seq _ (.seq _ (.seq _ r)))) => r | _ => .skip
/-- The region of the call of Wait; what stands behind it. -/
noncomputable def ops15 : Array Oper := match R9 with | .seq _ (.seq _ (.seq (.region _ ops _) _)) => ops | _ => #[]
noncomputable def tail15 : Code := match R9 with | .seq _ (.seq _ (.seq _ r)) => r | _ => .skip

/-- What the world is, but for the group's block (and the count of draws): w₀. -/
def FA (N : Nat) (w₀ w : World) : Prop := Aside (N + 1) w₀ w
theorem FA.at {N : Nat} {w₀ : World} : ∀ (w : World) (d : Nat), FA N w₀ w → FA N w₀ (w.at d) := fun _ _ h => ⟨h.tape, h.os, h.output, h.size, h.block⟩
theorem FA.set {N : Nat} {w₀ : World} : ∀ (w : World) (v : Value), FA N w₀ w → FA N w₀ (w.setCell (stA (N + 1)) v) := fun w v h => h.trans (aside_setCell w (stA (N + 1)) v)

/-- The auditor's cells: p pages, in the block Pg; the words in Wd; the blocks' map M. -/
def audC (p Wd Pg M : Nat) : Array Value :=
  #[.slice (some ⟨Wd, 0, none⟩) (64 * p) (64 * p), .slice (some ⟨Pg, 0, none⟩) p p, .slice none 0 0, .int .i64 (-1), .int .i64 (-1), .int .i64 (-1), .int .i64 (-1), .int .i64 (-1), .int .i64 (-1), .int .i64 (-1), .int .i64 (-1), .int .i64 0,
    .map (some M), .slice none 0 0, .int .i32 0, .int .u32 0, .slice none 0 0]

/-- What is held of the memory at the loop's head. -/
structure Mem9 (N A C p Wd Pg M : Nat) (c4 : Array Value) (w₀ : World) : Prop where
  size : w₀.heap.size = N + 5
  box : w₀.heap[N]? = some (.cells #[pa A] 42)
  looked : w₀.heap[N + 2]? = some (.cells #[.int .i64 0] 89)
  chan : w₀.heap[N + 3]? = some (.chan 0 #[] false 0 0 false)
  todo : KT N w₀
  aud : w₀.heap[A]? = some (.cells (audC p Wd Pg M) 52)
  pages : w₀.heap[Pg]? = some (.cells (Array.replicate (3 * p) (.int .i64 0)) 95)
  pay : w₀.heap[C]? = some (.cells c4 75)
  four : c4.size = 4
  ltC : C < N
  ltA : A < N
  ltP : Pg < N
  neA : A ≠ C
  neP : Pg ≠ C

/-- A frame of words at the head of its loop. -/
noncomputable def T9 (A N : Nat) (k : Value) (j9 j10 j11 j12 : Value) : Array Value :=
  #[pa A, pa N, pa (N + 1), pa (N + 2), pa (N + 4), undef, undef, .chan (some (N + 3)), k, j9, j10, j11, j12, undef, undef, undef, undef, undef, undef, undef, undef, undef, undef, undef, undef, undef, undef, undef, undef, undef, undef, undef, undef, undef, undef, undef]
noncomputable def g9 (A N : Nat) (k : Value) (j9 j10 j11 j12 : Value) (cs : List Frame) : Goroutine := G ((base 9).at ⟨T9 A N k j9 j10 j11 j12, []⟩ [.code L9, .inLoop L9, .inBlock 0, .code R9]) cs

theorem ev0_cell {N j : Nat} (a : Addr) (s : Bool) (h : a.block ≠ N + 1) : Ev0 (N + 1) (Own N) (Rd N) j ⟨.cell a, false, s⟩ := by
  refine ⟨fun fn pos => ⟨rfl, fun y hy => ?_⟩, by simp, by simp, by simp⟩
  simp only [ofEvent_cell, MemAct.touch?, Option.some.injEq] at hy
  subst hy
  exact .inr ⟨fun ⟨a', e, hb⟩ => by cases e; exact h hb, fun k _ _ e => e, fun e => by cases e⟩

section
variable {N A C : Nat} {c4 : Array Value} {w₀ : World} {S0 : Goroutine → World → Prop} {cs : List Frame}

theorem f9_rely {N : Nat} {w₀ : World} {ty : TypeId} {Wg v : Nat} {w w₁ : World} (h : FW (FA N w₀) ty Wg v w) (r : AtRel w w₁) : FW (FA N w₀) ty Wg v w₁ := by
  obtain ⟨d, rfl⟩ := r
  exact ⟨FA.at _ _ h.1, h.2⟩

/-- All started: what comes next. -/
abbrev Fin9 (N : Nat) (S0 : Goroutine → World → Prop) (g : Goroutine) (w : World) : Prop := ∃ m, GA Tryz.prog (N + 1) (Own N) (Rd N) (N + 5) 4 S0 m g w
abbrev SpX (N : Nat) (S0 : Goroutine → World → Prop) : Nat → Goroutine → World → Prop := SpawnsX Tryz.prog (N + 1) 4 (Own N) (Rd N) (N + 5) (KT N) (N + 3) (.int .i64 0) (fun _ => h28 N) (Fin9 N S0)
/-- The next stop, r workers being still to be started. -/
def StopX (N : Nat) (S0 : Goroutine → World → Prop) : Nat → Goroutine → World → Prop
  | 0 => S0
  | r + 1 => AtDisX Tryz.prog (N + 1) (Own N) (Rd N) (N + 5) (KT N) (N + 3) (.int .i64 0) (fun _ => h28 N) (4 - (r + 1)) (SpX N S0 r)
theorem spX_iff (r : Nat) (g : Goroutine) (w : World) : SpX N S0 r g w ↔ ∃ m, GA Tryz.prog (N + 1) (Own N) (Rd N) (N + 5) (4 - r) (StopX N S0 r) m g w := by cases r <;> exact Iff.rfl

set_option maxRecDepth 100000 in
set_option maxHeartbeats 8000000 in
/-- ONE ROUND: k workers are started. -/
theorem round9 (k r f : Nat) (hk : k + (r + 1) = 4) (j9 j10 j11 j12 : Value) (w : World) (hF : FW (FA N w₀) 87 (N + 1) k w)
    (hN : ∀ j9 j10 j11 j12 w, FW (FA N w₀) 87 (N + 1) (k + 1) w → GA Tryz.prog (N + 1) (Own N) (Rd N) (N + 5) (k + 1) (StopX N S0 r) f (g9 A N (.int .i64 ((k : Int) + 1)) j9 j10 j11 j12 cs) w) :
    GA Tryz.prog (N + 1) (Own N) (Rd N) (N + 5) k (StopX N S0 (r + 1)) 30 (g9 A N (.int .i64 k) j9 j10 j11 j12 cs) w := by
  have e4 : 4 - (r + 1) = k := by omega
  have e5 : 4 - r = k + 1 := by omega
  have hlt : (k : Int) < 4 := by omega
  have hk0 : (0 : Int) ≤ k := by omega
  have hdec : decide ((k : Int) < 4) = true := decide_eq_true hlt
  have hw1 : IntKind.i64.wrap ((k : Int) + 1) = (k : Int) + 1 := by rw [IntKind.wrap_i64]; omega
  have hA := fun (b₀ : Frame) (a₀ : Act) (ops₀ : Array Oper) (i₀ : Nat) (rest₀ : List Nat) (k₀ : List Item) (cs : List Frame) (mT : Nat) => addPosX (L := link) (K := KT N) (c := N + 3) (z := .int .i64 0) (h := fun _ => h28 N) (Wg := N + 1) (Own := Own N) (Rd := Rd N) (Low := N + 5) (v := k) (j := k)
    (Next := SpX N S0 r) (F := FA N w₀) (b₀ := b₀) (a₀ := a₀) (ops₀ := ops₀) (i₀ := i₀) (rest₀ := rest₀) (k₀ := k₀) (cs := cs) (mT := mT) wgLib (by omega) FA.at FA.set
  simp only [StopX, e4]
  simp only [g9, T9, L9, R9, body9, body_add, Tryz.f9, addFn, Option.getD_some] at hA hN ⊢
  u_c stepG_seq f9_rely hF
  u_reg f9_rely hF
  u_op f9_rely hF
  u_c stepG_region_end f9_rely hF
  u_c stepG_seq f9_rely hF
  u_cond true f9_rely hF
  u_c stepG_skip f9_rely hF
  u_c stepG_seq f9_rely hF
  u_c stepG_block f9_rely hF
  u_c stepG_seq f9_rely hF
  u_reg f9_rely hF
  u_in f9_rely hF
  refine goes_call rfl rfl (by decide) rfl Tryz.func27 (nm_add link) rfl ⟨by u_nil, ?_⟩
  walk_nrmf Tryz.f27
  refine (hA _ _ _ _ _ _ _ 30 (fun w h1 h2 => ?_) _ hF.1 hF.2).mono (by decide)
  clear hF hA
  have hF : FW (FA N w₀) 87 (N + 1) (k + 1) w := ⟨h1, h2⟩
  clear h1 h2
  walk_nrm
  u_c stepG_region_end f9_rely hF
  u_reg f9_rely hF
  u_op f9_rely hF
  refine Goes.stop (fun w₁ h₁ => ?_)
  replace hF := f9_rely hF h₁
  clear h₁
  refine ⟨rfl, fun dd => ?_⟩
  replace hF := f9_rely hF ⟨dd, rfl⟩
  refine ⟨_, _, 13, Eq.trans (stepG_spawn (d := call28 N) (w' := w₁.at dd) rfl rfl (by decide) ?_ rfl) (congrArg (fun es => GStep.spawn _ _ _ es) (listed_nil ?_)), onWay28 N, ?_⟩
  · unfold execOp
    simp [resolve, Deferred.ofValue, go_sem, call28, Act.eval]
  · unfold execOp
    simp [resolve, Deferred.ofValue, go_sem, call28, Act.eval]
  rw [spX_iff, e5]
  refine ⟨f + 10, ?_⟩
  walk_nrm
  u_c stepG_region_end f9_rely hF
  u_c stepG_inBlock f9_rely hF
  u_reg f9_rely hF
  u_op f9_rely hF
  u_op f9_rely hF
  u_c stepG_region_end f9_rely hF
  u_c stepG_inLoop f9_rely hF
  exact (hN _ _ _ _ _ hF).mono (by omega)
end
end Go.Proofs.YtpejmgellidhbaaGreatDoor
