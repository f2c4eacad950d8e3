/-
  pages (f10), in company: over free pages alone nothing is found. PRINTED BY A PROGRAM (gen_x4.py).
-/
import Derived.Test.YtpejmgellidhbaaGreatDoorX3
set_option linter.all false
set_option linter.unusedSimpArgs false
namespace Go.Proofs.YtpejmgellidhbaaGreatDoor
open Go Go.Proofs Go.Conc Go.ConcN Go.RowKit Go.Conc.Lib Go.ConcR.Gen Go.ConcN.Gen
open Go.ConcR (KK wgBlock WgAt stA smA rd wr mk Payload Aside2 DC0 ofEvent_cell)

section
variable {N A C p Wd Pg M : Nat} {c4 : Array Value} {w₀ w : World} {l : List (Nat × Obj)}
theorem Mem9.aPlaces (m : Mem9 N A C p Wd Pg M c4 w₀) (h : FX N C w₀ l w) : w.cell? ⟨A, 13, none⟩ = some (.slice none 0 0) :=
  (h.cell (by have := m.ltA; omega) (by have := m.ltA; omega) (by have := m.ltA; omega) m.neA 13).trans (by simp [World.cell?, m.aud, audC])

theorem build95z (w : World) : (Instr.build 95 #[]).run Tryz.prog w = .ok (.agg #[.int .i64 0, .int .i64 0, .int .i64 0]) w := by kernel_rfl
theorem build95ze (w : World) (es : Array Event) : (Instr.build 95 #[]).events Tryz.prog w es = es := by kernel_rfl
theorem eqG95z (w : World) : (eqGuard .eql 95 (.tmp 40) (.tmp 41) (.agg #[.int .i64 0, .int .i64 0, .int .i64 0]) (.agg #[.int .i64 0, .int .i64 0, .int .i64 0])).run Tryz.prog w = .ok () w := by kernel_rfl
theorem eqG95ze (w : World) (es : Array Event) : (eqGuard .eql 95 (.tmp 40) (.tmp 41) (.agg #[.int .i64 0, .int .i64 0, .int .i64 0]) (.agg #[.int .i64 0, .int .i64 0, .int .i64 0])).events Tryz.prog w es = es := by kernel_rfl
theorem eql95z (w : World) : (binOp .eql 95 (.agg #[.int .i64 0, .int .i64 0, .int .i64 0]) (.agg #[.int .i64 0, .int .i64 0, .int .i64 0])).run Tryz.prog w = .ok (.bool true) w := by kernel_rfl
theorem eql95ze (w : World) (es : Array Event) : (binOp .eql 95 (.agg #[.int .i64 0, .int .i64 0, .int .i64 0]) (.agg #[.int .i64 0, .int .i64 0, .int .i64 0])).events Tryz.prog w es = es := by kernel_rfl

noncomputable def body10 : Code := Tryz.f10.body.getD .skip
noncomputable def L10 : Code := match body10 with | .seq _ (.seq _ (.seq _ (.seq _ (.block _ (.loop c))))) => c | _ => .skip
/-- The frame of pages at the head of its loop over the pages. -/
def T10 (A Pg p B0 i : Nat) (j6 j7 j8 j32 j33 j34 j35 j36 j37 j38 j39 j40 j41 j42 j80 j81 j82 j83 j84 j88 j93 j94 j95 j96 j100 j101 j105 : Value) : Array Value := #[pa A, undef, .map (some B0), undef, undef, .int .i64 0, j6, j7, j8, .map (some B0), pa A, pa A, .pointer (some ⟨A, 13, none⟩), .slice none 0 0, .int .i64 0, .int .i64 0, .bool false, undef, undef, undef, undef, undef, undef, undef, undef, pa A, pa A, .pointer (some ⟨A, 0, none⟩), .pointer (some ⟨A, 1, none⟩), .slice (some ⟨Pg, 0, none⟩) p p, .int .i64 p, .int .i64 i, j32, j33, j34, j35, j36, j37, j38, j39, j40, j41, j42, undef, undef, undef, undef, undef, undef, undef, undef, undef, undef, undef, undef, undef, undef, undef, undef, undef, undef, undef, undef, undef, undef, undef, undef, undef, undef, undef, undef, undef, undef, undef, undef, undef, undef, undef, undef, undef, j80, j81, j82, j83, j84, undef, undef, undef, j88, undef, undef, undef, undef, j93, j94, j95, j96, undef, undef, undef, j100, j101, undef, undef, undef, j105]
/-- What a round comes to. -/
def Q10 (N C : Nat) (w₀ : World) (A Pg p B0 i : Nat) (e : Exit) (a : Act) (w : World) : Prop :=
  ((e = .normal ∧ i < p ∧ ∃ j6 j7 j8 j32 j33 j34 j35 j36 j37 j38 j39 j40 j41 j42 j80 j81 j82 j83 j84 j88 j93 j94 j95 j96 j100 j101 j105, a = ⟨T10 A Pg p B0 (i + 1) j6 j7 j8 j32 j33 j34 j35 j36 j37 j38 j39 j40 j41 j42 j80 j81 j82 j83 j84 j88 j93 j94 j95 j96 j100 j101 j105, []⟩) ∨ (e = .exit 2 ∧ i = p ∧ ∃ j6 j7 j8 j32 j33 j34 j35 j36 j37 j38 j39 j40 j41 j42 j80 j81 j82 j83 j84 j88 j93 j94 j95 j96 j100 j101 j105, a = ⟨T10 A Pg p B0 i j6 j7 j8 j32 j33 j34 j35 j36 j37 j38 j39 j40 j41 j42 j80 j81 j82 j83 j84 j88 j93 j94 j95 j96 j100 j101 j105, []⟩)) ∧ FX N C w₀ [] w

set_option maxRecDepth 100000 in
set_option maxHeartbeats 4000000 in
theorem round10 (m : Mem9 N A C p Wd Pg M c4 w₀) (hp : p ≤ 4096) : ∃ r, ∀ (B0 i : Nat), i ≤ p → ∀ j6 j7 j8 j32 j33 j34 j35 j36 j37 j38 j39 j40 j41 j42 j80 j81 j82 j83 j84 j88 j93 j94 j95 j96 j100 j101 j105 w, FX N C w₀ [] w →
    L10.wpC Tryz.prog true (RP N C) (DPx N) 10 r (Q10 N C w₀ A Pg p B0 i) ⟨T10 A Pg p B0 i j6 j7 j8 j32 j33 j34 j35 j36 j37 j38 j39 j40 j41 j42 j80 j81 j82 j83 j84 j88 j93 j94 j95 j96 j100 j101 j105, []⟩ w := by
  have hC := m.ltC
  have hA := m.ltA
  co_apply Exists.intro
  intro B0 i hi j6 j7 j8 j32 j33 j34 j35 j36 j37 j38 j39 j40 j41 j42 j80 j81 j82 j83 j84 j88 j93 j94 j95 j96 j100 j101 j105 w hF
  have hbl := build95z
  have hbe := build95ze
  have hg := eqG95z
  have hge := eqG95ze
  have hn := eql95z
  have hne := eql95ze
  simp only [L10, body10, Tryz.f10, Option.getD_some, T10]
  co_stmt (termsP N C) (FX.rely hC) hF (co_quiet (termsP N C))
  co_apply wpC_seq (termsP N C)
  co_split (termsP N C) (decide ((i : Int) < (p : Int)))
  · intro ht
    have hlt : i < p := by have := of_decide_eq_true ht; omega
    co_ctl (termsP N C)
    co_then
    co_apply wpC_seq (termsP N C)
    co_apply wpC_block (termsP N C)
    co_apply wpC_seq (termsP N C)
    co_reg (termsP N C)
    co_op (FX.rely hC) hF (co_quiet (termsP N C))
    have hi0 : (0 : Int) ≤ (i : Int) := by omega
    have hiP : (i : Int) < (p : Int) := by omega
    co_opw (FX.rely hC) hF (skip) (co_still (termsP N C))
    co_opw (FX.rely hC) hF (have h0 := m.page hF (o := i * 3) (by omega); have h1 := m.page hF (o := i * 3 + 1) (by omega); have h2 := m.page hF (o := i * 3 + 2) (by omega)) (refine ⟨fun _ _ => rfl, ?_⟩; intro e he; have hm := mem_listed he; simp [go_sem, *] at hm; rcases hm with rfl | rfl | rfl <;> exact ev0_cell _ _ (by have := m.ltP; simp; omega))
    clear h0 h1 h2
    co_opw (FX.rely hC) hF (have hlo := hF.lo) (refine ⟨low_alloc hlo _, ?_⟩; co_evs (skip))
    replace hF := hF.alloc (.cells z3 95)
    clear hlo
    rename_i wB
    generalize wB.heap.size = B at hF ⊢
    have hB : N + 5 ≤ B := (hF.ext _ (List.mem_cons_self)).1
    co_op (FX.rely hC) hF (co_quiet (termsP N C))
    co_opw (FX.rely hC) hF (have h0 := hF.extCell (List.mem_cons_self) 0; have h1 := hF.extCell (List.mem_cons_self) 1; have h2 := hF.extCell (List.mem_cons_self) 2; have f0 := hF.extThaw (List.mem_cons_self) 0; have f1 := hF.extThaw (List.mem_cons_self) 1; have f2 := hF.extThaw (List.mem_cons_self) 2; simp at h0 h1 h2) (refine ⟨low_zero3 hB, ?_⟩; intro e he; have hm := mem_listed he; simp [go_sem, storedEv, *] at hm; rcases hm with rfl | rfl | rfl <;> exact ev0_new _ _ _ (by simpa using hB))
    replace hF := hF.zero3
    clear h0 h1 h2 f0 f1 f2
    co_apply opsC_nil (termsP N C)
    co_then
    co_apply wpC_seq (termsP N C)
    co_reg (termsP N C)
    co_op (FX.rely hC) hF (co_quiet (termsP N C))
    co_apply opsC_nil (termsP N C)
    co_then
    co_apply wpC_seq (termsP N C)
    co_apply wpC_seq (termsP N C)
    co_reg (termsP N C)
    co_op (FX.rely hC) hF (co_quiet (termsP N C))
    co_opw (FX.rely hC) hF (have h0 := hF.extCell (List.mem_cons_self) 0; simp at h0) (refine ⟨fun _ _ => rfl, ?_⟩; co_evs (exact ev0_new _ _ _ (by simpa using hB)))
    clear h0
    co_apply opsC_nil (termsP N C)
    co_then
    co_apply wpC_block (termsP N C)
    co_apply wpC_seq (termsP N C)
    co_reg (termsP N C)
    co_op (FX.rely hC) hF (co_quiet (termsP N C))
    co_op (FX.rely hC) hF (co_quiet (termsP N C))
    co_apply opsC_nil (termsP N C)
    co_then
    co_apply wpC_cond (termsP N C) (t := true)
    · rfl
    simp only [if_true]
    co_reg (termsP N C)
    co_opw (FX.rely hC) hF (have h0 := hF.extCell (List.mem_cons_self) 0; have h1 := hF.extCell (List.mem_cons_self) 1; have h2 := hF.extCell (List.mem_cons_self) 2; simp at h0 h1 h2) (refine ⟨fun _ _ => rfl, ?_⟩; intro e he; have hm := mem_listed he; simp [go_sem, *] at hm; rcases hm with rfl | rfl | rfl <;> exact ev0_new _ _ _ (by simpa using hB))
    clear h0 h1 h2
    co_opw (FX.rely hC) hF (skip) (co_still (termsP N C))
    co_opw (FX.rely hC) hF (skip) (co_still (termsP N C))
    co_op (FX.rely hC) hF (co_quiet (termsP N C))
    co_apply opsC_nil (termsP N C)
    co_then
    co_apply wpC_seq (termsP N C)
    co_apply wpC_block (termsP N C)
    co_apply wpC_seq (termsP N C)
    co_reg (termsP N C)
    co_op (FX.rely hC) hF (co_quiet (termsP N C))
    co_opw (FX.rely hC) hF (have h0 := hF.extCell (List.mem_cons_self) 0; simp at h0) (refine ⟨fun _ _ => rfl, ?_⟩; co_evs (exact ev0_new _ _ _ (by simpa using hB)))
    clear h0
    co_op (FX.rely hC) hF (co_quiet (termsP N C))
    co_op (FX.rely hC) hF (co_quiet (termsP N C))
    co_apply opsC_unwanted (termsP N C) rfl (by rfl)
    walk_nrm
    co_apply opsC_unwanted (termsP N C) rfl (by rfl)
    walk_nrm
    co_apply opsC_unwanted (termsP N C) rfl (by rfl)
    walk_nrm
    co_op (FX.rely hC) hF (co_quiet (termsP N C))
    co_op (FX.rely hC) hF (co_quiet (termsP N C))
    co_apply opsC_nil (termsP N C)
    co_then
    co_apply wpC_cond (termsP N C) (t := false)
    · rfl
    simp only [Bool.false_eq_true, if_false]
    co_apply wpC_seq (termsP N C)
    co_reg (termsP N C)
    co_op (FX.rely hC) hF (co_quiet (termsP N C))
    co_opw (FX.rely hC) hF (have h0 := hF.extCell (List.mem_cons_self) 0; simp at h0) (refine ⟨fun _ _ => rfl, ?_⟩; co_evs (exact ev0_new _ _ _ (by simpa using hB)))
    clear h0
    co_op (FX.rely hC) hF (co_quiet (termsP N C))
    co_op (FX.rely hC) hF (co_quiet (termsP N C))
    co_apply opsC_nil (termsP N C)
    co_then
    co_apply wpC_cond (termsP N C) (t := false)
    · rfl
    simp only [Bool.false_eq_true, if_false]
    co_reg (termsP N C)
    co_op (FX.rely hC) hF (co_quiet (termsP N C))
    co_apply opsC_nil (termsP N C)
    co_then
    co_apply wpC_seq (termsP N C)
    co_reg (termsP N C)
    co_op (FX.rely hC) hF (co_quiet (termsP N C))
    co_op (FX.rely hC) hF (co_quiet (termsP N C))
    co_apply opsC_nil (termsP N C)
    co_then
    co_apply wpC_cond (termsP N C) (t := false)
    · rfl
    simp only [Bool.false_eq_true, if_false]
    co_ctl (termsP N C)
    co_then
    have hw1 : IntKind.i64.wrap ((i : Int) + 1) = ((i + 1 : Nat) : Int) := by rw [IntKind.wrap_i64]; omega
    co_reg (termsP N C)
    co_op (FX.rely hC) hF (co_quiet (termsP N C))
    co_op (FX.rely hC) hF (co_quiet (termsP N C))
    co_apply opsC_nil (termsP N C)
    exact ⟨.inl ⟨rfl, hlt, _, _, _, _, _, _, _, _, _, _, _, _, _, _, _, _, _, _, _, _, _, _, _, _, _, _, _, rfl⟩, hF.nil⟩
  · intro hf
    co_ctl (termsP N C)
    co_then
    exact ⟨.inr ⟨rfl, by have := of_decide_eq_false hf; omega, _, _, _, _, _, _, _, _, _, _, _, _, _, _, _, _, _, _, _, _, _, _, _, _, _, _, _, rfl⟩, hF⟩
end
end Go.Proofs.YtpejmgellidhbaaGreatDoor
