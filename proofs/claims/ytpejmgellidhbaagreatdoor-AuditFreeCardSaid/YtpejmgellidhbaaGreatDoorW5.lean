/-
  words (f9): all four are started: over no places; the close; into Wait ('fin9'); from there on the library's walk of Wait.
-/
import Derived.Test.YtpejmgellidhbaaGreatDoorW4
import Derived.Conc.TokenWalk
set_option linter.all false
set_option linter.unusedSimpArgs false
namespace Go.Proofs.YtpejmgellidhbaaGreatDoor
open Go Go.Proofs Go.Conc Go.ConcN Go.RowKit Go.Conc.Lib Go.ConcR.Gen Go.ConcN.Gen
open Go.ConcR (KK wgBlock WgAt stA smA rd wr mk Payload Aside2 DC0 ofEvent_cell)

/-- What the world is behind the close, but for the group's block, the channel's and C. -/
structure FP (N C : Nat) (w₀ w : World) : Prop where
  tape : w.tape = w₀.tape
  os : w.os = w₀.os
  output : w.output = w₀.output
  size : w.heap.size = w₀.heap.size
  block : ∀ b, b ≠ N + 1 → b ≠ N + 3 → b ≠ C → w.heap[b]? = w₀.heap[b]?

theorem fp2 {N C : Nat} {w₀ : World} : ∀ w w', Aside2 C (N + 1) w w' → FP N C w₀ w → FP N C w₀ w' := fun _ _ h x =>
  ⟨h.tape.trans x.tape, h.os.trans x.os, h.output.trans x.output, h.size.trans x.size, fun b h1 h2 h3 => (h.block b h3 h1).trans (x.block b h1 h2 h3)⟩

section
variable {N A C p Wd Pg M : Nat} {c4 : Array Value} {w₀ w : World}
theorem fa_cell (h : FA N w₀ w) {b : Nat} (hb : b ≠ N + 1) (o : Nat) : w.cell? ⟨b, o, none⟩ = w₀.cell? ⟨b, o, none⟩ := cell_of_block (h.block b hb) o
theorem Mem9.cbox (m : Mem9 N A C p Wd Pg M c4 w₀) (h : FA N w₀ w) : w.cell? ⟨N, 0, none⟩ = some (pa A) := (fa_cell h (by omega) 0).trans (by simp [World.cell?, m.box])
theorem Mem9.cplaces (m : Mem9 N A C p Wd Pg M c4 w₀) (h : FA N w₀ w) : w.cell? ⟨A, 13, none⟩ = some (.slice none 0 0) := (fa_cell h (by have := m.ltA; omega) 13).trans (by simp [World.cell?, m.aud, audC])
theorem Mem9.ctodo (m : Mem9 N A C p Wd Pg M c4 w₀) (h : FA N w₀ w) : w.cell? ⟨N + 4, 0, none⟩ = some (.chan (some (N + 3))) := (fa_cell h (by omega) 0).trans (by have := m.todo; simp [World.cell?, show w₀.heap[N + 4]? = _ from this])
theorem Mem9.hchan (m : Mem9 N A C p Wd Pg M c4 w₀) (h : FA N w₀ w) : w.heap[N + 3]? = some (.chan 0 #[] false 0 0 false) := (h.block _ (by omega)).trans m.chan

/-- The world behind the close. -/
def shutW (N : Nat) (w : World) : World := w.setChan (N + 3) 0 #[] true 0 0 false
theorem shut_block {b : Nat} (hb : b ≠ N + 3) : (shutW N w).heap[b]? = w.heap[b]? := by simp [shutW, World.setChan, Array.getElem?_setIfInBounds_ne (Ne.symm hb)]
theorem Mem9.fp (m : Mem9 N A C p Wd Pg M c4 w₀) (h : FA N w₀ w) : FP N C w₀ (shutW N w) :=
  ⟨h.tape, h.os, h.output, by simp [shutW, World.setChan, h.size], fun b h1 h2 _ => (shut_block h2).trans (h.block b h1)⟩

/-- THE ANCHOR AT THE HEAD OF Wait's LOOP: below it waits some frame of words'. -/
noncomputable def cW (T : Array Value) : Frame := (base 9).at ⟨T, []⟩ (.inRegion ops15 (0 :: []) :: [.code tail15])
def AnW (N C : Nat) (w₀ : World) (cs : List Frame) (g : Goroutine) (w : World) : Prop :=
  ∃ T : Array Value, T.size = 36 ∧ T[1]? = some (pa N) ∧ T[3]? = some (pa (N + 2)) ∧ AnchWN link (FP N C w₀) (N + 1) (cW T) cs g w

theorem loud9 : (Tryz.prog.funcs[(base 9).fn]?).any (·.norace) = false := by kernel_rfl

theorem ev0_close : ∀ e ∈ closeEvents (N + 3), Ev0 (N + 1) (Own N) (Rd N) 4 e := by
  intro e he
  simp only [closeEvents, List.mem_toArray, List.mem_cons, List.not_mem_nil, or_false] at he
  rcases he with rfl | rfl
  · refine ⟨fun fn pos => ⟨rfl, fun y hy => ?_⟩, by simp, by simp, by simp⟩
    simp only [MemAct.ofEvent, MemAct.touch?, Option.some.injEq] at hy
    subst hy
    exact .inr ⟨fun ⟨a', e, _⟩ => (by cases e), fun k _ _ e => e, fun e => (by cases e)⟩
  · refine ⟨fun fn pos => ⟨rfl, fun y hy => ?_⟩, by simp, by simp, by simp⟩
    simp [MemAct.ofEvent, MemAct.touch?] at hy

set_option maxRecDepth 100000 in
set_option maxHeartbeats 8000000 in
theorem fin9 (m : Mem9 N A C p Wd Pg M c4 w₀) (j9 j10 j11 j12 : Value) (cs : List Frame) (w : World) (hF : FW (FA N w₀) 87 (N + 1) 4 w) :
    GA Tryz.prog (N + 1) (Own N) (Rd N) (N + 5) 4 (AtCloseX Tryz.prog 87 (N + 1) C 4 (Own N) (Rd N) (N + 5) (fun i => c4.getD i undef) (AnW N C w₀ cs) (KT N) (N + 3) (fun _ => h28 N)) 40 (g9 A N (.int .i64 4) j9 j10 j11 j12 cs) w := by
  simp only [g9, T9, L9, R9, body9, Tryz.f9, Option.getD_some]
  u_c stepG_seq f9_rely hF
  u_reg f9_rely hF
  u_op f9_rely hF
  u_c stepG_region_end f9_rely hF
  u_c stepG_seq f9_rely hF
  u_cond false f9_rely hF
  u_exit f9_rely hF
  u_c stepG_seq f9_rely hF
  u_c stepG_seq f9_rely hF
  u_reg f9_rely hF
  g_opw f9_rely hF [m.cbox hF.1] (fun _ _ => rfl) (ev0_cell _ _ (by simp))
  u_op f9_rely hF
  u_op f9_rely hF
  g_opw f9_rely hF [m.cplaces hF.1] (fun _ _ => rfl) (ev0_cell _ _ (by simp; have := m.ltA; omega))
  u_op f9_rely hF
  u_op f9_rely hF
  u_c stepG_region_end f9_rely hF
  u_c stepG_block f9_rely hF
  u_c stepG_loop f9_rely hF
  u_c stepG_seq f9_rely hF
  u_reg f9_rely hF
  u_op f9_rely hF
  u_c stepG_region_end f9_rely hF
  u_c stepG_seq f9_rely hF
  u_cond false f9_rely hF
  u_exit f9_rely hF
  u_c stepG_seq f9_rely hF
  u_reg f9_rely hF
  g_opw f9_rely hF [m.ctodo hF.1] (fun _ _ => rfl) (ev0_cell _ _ (by simp))
  walk_nrm
  refine Goes.stop (fun w₁ h₁ => ?_)
  replace hF := f9_rely hF h₁
  clear h₁
  refine ⟨rfl, rfl, fun dd => ?_⟩
  replace hF := f9_rely hF ⟨dd, rfl⟩
  have hc := m.hchan hF.1
  refine ⟨_, shutW N (w₁.at dd), _, stepG_close rfl rfl (by decide) rfl rfl hc loud9, rfl, (shut_block (by omega)).trans ((hF.1.block _ (by omega)).trans m.todo), ⟨0, 0, 0, false, ?_⟩, ev0_close, ?_, ?_, fun i hi => ?_, ?_⟩
  · have hlt : N + 3 < (w₁.at dd).heap.size := (Array.getElem?_eq_some_iff.1 hc).1
    simp [shutW, World.setChan, hlt]
  · exact hF.2.of_block (shut_block (by omega))
  · exact ⟨c4, (shut_block (by have := m.ltC; omega)).trans ((hF.1.block _ (by have := m.ltC; omega)).trans m.pay), m.four⟩
  · refine works28 (C := C) ⟨⟨_, _, hF.2.of_block (shut_block (by omega))⟩, ?_⟩
    have : (shutW N (w₁.at dd)).heap[C]? = some (.cells c4 75) := (shut_block (by have := m.ltC; omega)).trans ((hF.1.block _ (by have := m.ltC; omega)).trans m.pay)
    have h4 := m.four
    simp [Has, World.cell?, this, h4, hi]
  · refine ⟨20, ?_⟩
    have hG : FP N C w₀ (shutW N (w₁.at dd)) ∧ WgLive 87 (N + 1) (shutW N (w₁.at dd)) := ⟨m.fp hF.1, ⟨_, _, hF.2.of_block (shut_block (by omega))⟩⟩
    have hA := fun (a₀ : Act) (ops₀ : Array Oper) (i₀ : Nat) (rest₀ : List Nat) (k₀ : List Item) => waitStartN (L := link) (P := Tryz.prog) (Wg := N + 1) (C := C) (n := 4) (Low := N + 5) (Own := Own N) (Rd := Rd N) (F := FP N C w₀) (b₀ := base 9) (a₀ := a₀) (ops₀ := ops₀) (i₀ := i₀) (rest₀ := rest₀) (k₀ := k₀) (cs := cs) wgLib fp2
    simp only [body_wait, waitFn, Option.getD_some] at hA
    clear hF hc
    walk_nrm
    u_c stepG_region_end (fl_rely fp2) hG
    u_c stepG_seq (fl_rely fp2) hG
    u_reg (fl_rely fp2) hG
    u_in (fl_rely fp2) hG
    refine goes_call rfl rfl (by decide) rfl Tryz.func32 (nm_wait link) rfl ⟨by u_nil, ?_⟩
    walk_nrmf Tryz.f32
    refine (goes_mono (fun _ _ y => AtKd.mono (fun _ _ z => ⟨_, ?_, ?_, ?_, z⟩) y) (hA _ _ _ _ _ _ hG)).mono (by decide)
    all_goals simp
end
end Go.Proofs.YtpejmgellidhbaaGreatDoor
