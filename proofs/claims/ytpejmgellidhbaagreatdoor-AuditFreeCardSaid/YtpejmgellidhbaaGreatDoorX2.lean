/-
  free (f11), in company: over free pages alone nothing is found: a round of its loop over the pages. PRINTED BY A PROGRAM (gen_x2.py).
-/
import Derived.Test.YtpejmgellidhbaaGreatDoorX1
set_option linter.all false
set_option linter.unusedSimpArgs false
namespace Go.Proofs.YtpejmgellidhbaaGreatDoor
open Go Go.Proofs Go.Conc Go.ConcN Go.RowKit Go.Conc.Lib Go.ConcR.Gen Go.ConcN.Gen
open Go.ConcR (KK wgBlock WgAt stA smA rd wr mk Payload Aside2 DC0 ofEvent_cell)

section
variable {N A C p Wd Pg M : Nat} {c4 : Array Value} {w₀ w : World} {l : List (Nat × Obj)}
theorem Mem9.aPages (m : Mem9 N A C p Wd Pg M c4 w₀) (h : FX N C w₀ l w) : w.cell? ⟨A, 1, none⟩ = some (.slice (some ⟨Pg, 0, none⟩) p p) :=
  (h.cell (by have := m.ltA; omega) (by have := m.ltA; omega) (by have := m.ltA; omega) m.neA 1).trans (by simp [World.cell?, m.aud, audC])
theorem Mem9.aHead (m : Mem9 N A C p Wd Pg M c4 w₀) (h : FX N C w₀ l w) (c : Nat) (hc : c < 8) : w.cell? ⟨A, 3 + c, none⟩ = some (.int .i64 (-1)) := by
  refine (h.cell (by have := m.ltA; omega) (by have := m.ltA; omega) (by have := m.ltA; omega) m.neA (3 + c)).trans ?_
  have : c = 0 ∨ c = 1 ∨ c = 2 ∨ c = 3 ∨ c = 4 ∨ c = 5 ∨ c = 6 ∨ c = 7 := by omega
  rcases this with rfl | rfl | rfl | rfl | rfl | rfl | rfl | rfl <;> simp [World.cell?, m.aud, audC]
theorem Mem9.page (m : Mem9 N A C p Wd Pg M c4 w₀) (h : FX N C w₀ l w) {o : Nat} (ho : o < 3 * p) : w.cell? ⟨Pg, o, none⟩ = some (.int .i64 0) :=
  (h.cell (by have := m.ltP; omega) (by have := m.ltP; omega) (by have := m.ltP; omega) m.neP o).trans (by simp [World.cell?, m.pages, ho])

theorem build95 (c : Nat) (w : World) : (Instr.build 95 #[(0, .int .i64 1), (1, .int .i64 c)]).run Tryz.prog w = .ok (.agg #[.int .i64 1, .int .i64 c, .int .i64 0]) w := by kernel_rfl
theorem build95e (c : Nat) (w : World) (es : Array Event) : (Instr.build 95 #[(0, .int .i64 1), (1, .int .i64 c)]).events Tryz.prog w es = es := by kernel_rfl
theorem eqG95 (c : Nat) (w : World) : (eqGuard .neq 95 (.tmp 23) (.tmp 25) (.agg #[.int .i64 0, .int .i64 0, .int .i64 0]) (.agg #[.int .i64 1, .int .i64 c, .int .i64 0])).run Tryz.prog w = .ok () w := by kernel_rfl
theorem eqG95e (c : Nat) (w : World) (es : Array Event) : (eqGuard .neq 95 (.tmp 23) (.tmp 25) (.agg #[.int .i64 0, .int .i64 0, .int .i64 0]) (.agg #[.int .i64 1, .int .i64 c, .int .i64 0])).events Tryz.prog w es = es := by kernel_rfl
theorem neq95 (c : Nat) (w : World) : (binOp .neq 95 (.agg #[.int .i64 0, .int .i64 0, .int .i64 0]) (.agg #[.int .i64 1, .int .i64 c, .int .i64 0])).run Tryz.prog w = .ok (.bool true) w := by kernel_rfl
theorem neq95e (c : Nat) (w : World) (es : Array Event) : (binOp .neq 95 (.agg #[.int .i64 0, .int .i64 0, .int .i64 0]) (.agg #[.int .i64 1, .int .i64 c, .int .i64 0])).events Tryz.prog w es = es := by kernel_rfl

noncomputable def body11 : Code := Tryz.f11.body.getD .skip
noncomputable def L11 : Code := match body11 with | .seq _ (.seq (.seq _ (.block _ (.loop c))) _) => c | _ => .skip
/-- The frame of free at the head of its loop over the pages. -/
def T11 (A Pg p c i : Nat) (j5 j6 j19 j20 j21 j22 j23 j24 j25 j26 j54 : Value) : Array Value := #[pa A, .int .i64 c, undef, undef, .slice none 0 0, j5, j6, undef, undef, undef, undef, undef, pa A, pa A, .pointer (some ⟨A, 0, none⟩), .pointer (some ⟨A, 1, none⟩), .slice (some ⟨Pg, 0, none⟩) p p, .int .i64 p, .int .i64 i, j19, j20, j21, j22, j23, j24, j25, j26, undef, undef, undef, undef, undef, undef, undef, undef, undef, undef, undef, undef, undef, undef, undef, undef, undef, undef, undef, undef, undef, undef, undef, undef, undef, undef, undef, j54, undef, undef, undef, undef, undef, undef, undef, undef, undef, undef, undef, undef, undef, undef, undef, undef, undef, undef, undef, undef, undef, undef, undef, undef, undef, undef, undef, undef, undef, undef, undef, undef, undef, undef, undef, undef, undef, undef, undef, undef, undef, undef, undef, undef, undef, undef, undef, undef]
/-- What a round comes to. -/
def Q11 (N C : Nat) (w₀ : World) (A Pg p c i : Nat) (e : Exit) (a : Act) (w : World) : Prop :=
  ((e = .normal ∧ i < p ∧ ∃ j5 j6 j19 j20 j21 j22 j23 j24 j25 j26 j54, a = ⟨T11 A Pg p c (i + 1) j5 j6 j19 j20 j21 j22 j23 j24 j25 j26 j54, []⟩) ∨ (e = .exit 0 ∧ i = p ∧ ∃ j5 j6 j19 j20 j21 j22 j23 j24 j25 j26 j54, a = ⟨T11 A Pg p c i j5 j6 j19 j20 j21 j22 j23 j24 j25 j26 j54, []⟩)) ∧ FX N C w₀ [] w

set_option maxRecDepth 100000 in
set_option maxHeartbeats 4000000 in
theorem round11 (m : Mem9 N A C p Wd Pg M c4 w₀) (hp : p ≤ 4096) (c : Nat) (hc8 : c < 8) : ∃ r, ∀ (i : Nat), i ≤ p → ∀ j5 j6 j19 j20 j21 j22 j23 j24 j25 j26 j54 w, FX N C w₀ [] w →
    L11.wpC Tryz.prog true (RP N C) (DPx N) 11 r (Q11 N C w₀ A Pg p c i) ⟨T11 A Pg p c i j5 j6 j19 j20 j21 j22 j23 j24 j25 j26 j54, []⟩ w := by
  have hC := m.ltC
  have hA := m.ltA
  co_apply Exists.intro
  intro i hi j5 j6 j19 j20 j21 j22 j23 j24 j25 j26 j54 w hF
  have hbl := build95 c
  have hbe := build95e c
  have hg := eqG95 c
  have hge := eqG95e c
  have hn := neq95 c
  have hne := neq95e c
  simp only [L11, body11, Tryz.f11, Option.getD_some, T11]
  co_stmt (termsP N C) (FX.rely hC) hF (co_quiet (termsP N C))
  co_apply wpC_seq (termsP N C)
  co_split (termsP N C) (decide ((i : Int) < (p : Int)))
  · intro ht
    have hlt : i < p := by have := of_decide_eq_true ht; omega
    co_ctl (termsP N C)
    co_then
    co_apply wpC_seq (termsP N C)
    co_apply wpC_block (termsP N C)
    co_apply wpC_seq (termsP N C)
    co_reg (termsP N C)
    co_op (FX.rely hC) hF (co_quiet (termsP N C))
    have hi0 : (0 : Int) ≤ (i : Int) := by omega
    have hiP : (i : Int) < (p : Int) := by omega
    co_opw (FX.rely hC) hF (skip) (co_still (termsP N C))
    co_opw (FX.rely hC) hF (have h0 := m.page hF (o := i * 3) (by omega); have h1 := m.page hF (o := i * 3 + 1) (by omega); have h2 := m.page hF (o := i * 3 + 2) (by omega)) (refine ⟨fun _ _ => rfl, ?_⟩; intro e he; have hm := mem_listed he; simp [go_sem, *] at hm; rcases hm with rfl | rfl | rfl <;> exact ev0_cell _ _ (by have := m.ltP; simp; omega))
    clear h0 h1 h2
    -- the page's own variable
    co_opw (FX.rely hC) hF (have hlo := hF.lo) (refine ⟨low_alloc hlo _, ?_⟩; co_evs (skip))
    replace hF := hF.alloc (.cells z3 95)
    clear hlo
    rename_i wB
    generalize wB.heap.size = B at hF ⊢
    have hB : N + 5 ≤ B := (hF.ext _ (List.mem_cons_self)).1
    co_op (FX.rely hC) hF (co_quiet (termsP N C))
    co_opw (FX.rely hC) hF (have h0 := hF.extCell (List.mem_cons_self) 0; have h1 := hF.extCell (List.mem_cons_self) 1; have h2 := hF.extCell (List.mem_cons_self) 2; have f0 := hF.extThaw (List.mem_cons_self) 0; have f1 := hF.extThaw (List.mem_cons_self) 1; have f2 := hF.extThaw (List.mem_cons_self) 2; simp at h0 h1 h2) (refine ⟨low_zero3 hB, ?_⟩; intro e he; have hm := mem_listed he; simp [go_sem, storedEv, *] at hm; rcases hm with rfl | rfl | rfl <;> exact ev0_new _ _ _ (by simpa using hB))
    replace hF := hF.zero3
    clear h0 h1 h2 f0 f1 f2
    co_apply opsC_nil (termsP N C)
    co_then
    co_apply wpC_seq (termsP N C) (n₂ := 0)
    co_apply wpC_seq (termsP N C)
    co_reg (termsP N C)
    co_opw (FX.rely hC) hF (have h0 := hF.extCell (List.mem_cons_self) 0; have h1 := hF.extCell (List.mem_cons_self) 1; have h2 := hF.extCell (List.mem_cons_self) 2; simp at h0 h1 h2) (refine ⟨fun _ _ => rfl, ?_⟩; intro e he; have hm := mem_listed he; simp [go_sem, *] at hm; rcases hm with rfl | rfl | rfl <;> exact ev0_new _ _ _ (by simpa using hB))
    clear h0 h1 h2
    co_op (FX.rely hC) hF (co_quiet (termsP N C))
    co_opw (FX.rely hC) hF (skip) (co_still (termsP N C))
    co_opw (FX.rely hC) hF (skip) (co_still (termsP N C))
    co_apply opsC_nil (termsP N C)
    co_then
    co_apply wpC_cond (termsP N C) (t := true)
    · rfl
    simp only [if_true]
    co_ctl (termsP N C)
    co_then
    have hw1 : IntKind.i64.wrap ((i : Int) + 1) = ((i + 1 : Nat) : Int) := by rw [IntKind.wrap_i64]; omega
    co_reg (termsP N C)
    co_op (FX.rely hC) hF (co_quiet (termsP N C))
    co_op (FX.rely hC) hF (co_quiet (termsP N C))
    co_apply opsC_nil (termsP N C)
    exact ⟨.inl ⟨rfl, hlt, _, _, _, _, _, _, _, _, _, _, _, rfl⟩, hF.nil⟩
  · intro hf
    co_ctl (termsP N C)
    co_then
    exact ⟨.inr ⟨rfl, by have := of_decide_eq_false hf; omega, _, _, _, _, _, _, _, _, _, _, _, rfl⟩, hF⟩
end
end Go.Proofs.YtpejmgellidhbaaGreatDoor
