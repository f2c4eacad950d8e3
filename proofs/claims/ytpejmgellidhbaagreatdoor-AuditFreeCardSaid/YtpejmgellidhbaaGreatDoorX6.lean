/-
  SortFunc (f12) and Compact (f16) over nothing, in company. PRINTED BY A PROGRAM (gen_x6.py).
-/
import Derived.Test.YtpejmgellidhbaaGreatDoorX5
set_option linter.all false
set_option linter.unusedSimpArgs false
namespace Go.Proofs.YtpejmgellidhbaaGreatDoor
open Go Go.Proofs Go.Conc Go.ConcN Go.RowKit Go.Conc.Lib Go.ConcR.Gen Go.ConcN.Gen
open Go.ConcR (KK wgBlock WgAt stA smA rd wr mk Payload Aside2 DC0 ofEvent_cell)

theorem opsC_callv {P : Program} {main : Bool} {R : World → World → Prop} {D : World → World → Array Event → Prop} (T : Terms R D) {fn : FuncId} {Q : Exit → Act → World → Prop} {a : Act} {w : World} {ops : Array Oper} {i : Nat} {rest : List Nat} {o : Oper} {f : FuncId} {args : Array Operand} {vs : Array Value} {ats : Array TypeId} {nf n : Nat} {Post : Value → World → Prop}
    (ho : ops[i]? = some o) (hw : Region.wanted o (yielded ops a.tmps) = true) (hop : o.op = .call { callee := .value (.func f), args, argTypes := ats }) (hv : args.map a.eval = vs)
    (hcall : CallsC P main R D f vs nf w Post) (hnext : ∀ v w', Post v w' → OpsC P main R D fn ops rest n Q (a.put o.dst v) w') : OpsC P main R D fn ops (i :: rest) (n + nf + 3) Q a w :=
  opsC_call T ho hw hop (hv ▸ hcall) hnext

section
variable {N C : Nat} {w₀ : World}
set_option maxRecDepth 100000 in
set_option maxHeartbeats 4000000 in
theorem fn89_c (hC : C < N) : ∃ k, ∀ (w : World), FX N C w₀ [] w →
    CallsC Tryz.prog true (RP N C) (DPx N) 89 #[.int .u64 0] k w fun v w' => (∃ x : Int, v = .int .i64 x) ∧ FX N C w₀ [] w' := by
  co_apply Exists.intro
  intro w hF
  co_apply callsC_of_wpC Tryz.func89 (by rfl) rfl
  simp only [Tryz.ntmps89, List.size_toArray, List.length_cons, List.length_nil, Nat.reduceAdd, Nat.reduceSub, Array.replicate_succ, Array.replicate_zero, List.push_toArray, List.append_toArray, List.nil_append, List.cons_append]
  co_apply wpC_seq (termsP N C)
  co_reg (termsP N C)
  co_op (FX.rely hC) hF (co_quiet (termsP N C))
  co_apply opsC_nil (termsP N C)
  co_then
  co_apply wpC_seq (termsP N C)
  co_apply wpC_seq (termsP N C)
  co_reg (termsP N C)
  co_op (FX.rely hC) hF (co_quiet (termsP N C))
  co_opw (FX.rely hC) hF (skip) (co_still (termsP N C))
  co_apply opsC_nil (termsP N C)
  co_then
  co_apply wpC_cond (termsP N C) (t := false)
  · rfl
  simp only [Bool.false_eq_true, if_false]
  co_ctl (termsP N C)
  co_then
  co_apply wpC_seq (termsP N C)
  co_apply wpC_seq (termsP N C)
  co_reg (termsP N C)
  co_op (FX.rely hC) hF (co_quiet (termsP N C))
  co_opw (FX.rely hC) hF (skip) (co_still (termsP N C))
  co_apply opsC_nil (termsP N C)
  co_then
  co_apply wpC_cond (termsP N C) (t := false)
  · rfl
  simp only [Bool.false_eq_true, if_false]
  co_ctl (termsP N C)
  co_then
  co_apply wpC_seq (termsP N C)
  co_apply wpC_seq (termsP N C)
  co_reg (termsP N C)
  co_op (FX.rely hC) hF (co_quiet (termsP N C))
  co_opw (FX.rely hC) hF (skip) (co_still (termsP N C))
  co_apply opsC_nil (termsP N C)
  co_then
  co_apply wpC_cond (termsP N C) (t := false)
  · rfl
  simp only [Bool.false_eq_true, if_false]
  co_ctl (termsP N C)
  co_then
  co_apply wpC_seq (termsP N C)
  co_reg (termsP N C)
  co_op (FX.rely hC) hF (co_quiet (termsP N C))
  co_op (FX.rely hC) hF (co_quiet (termsP N C))
  co_op (FX.rely hC) hF (co_quiet (termsP N C))
  simp only [show IntKind.u8.wrap 0 = 0 from rfl]
  co_opw (FX.rely hC) hF (skip) (rw [listed_nil (by simp [go_sem]; kernel_rfl)]; exact Terms.idle (termsP N C) _)
  co_op (FX.rely hC) hF (co_quiet (termsP N C))
  co_opw (FX.rely hC) hF (skip) (co_still (termsP N C))
  co_op (FX.rely hC) hF (co_quiet (termsP N C))
  co_apply opsC_nil (termsP N C)
  co_then
  co_ctl (termsP N C)
  exact ⟨rfl, _, resultsC_tmp (by rfl) _, ⟨_, rfl⟩, hF⟩

set_option maxRecDepth 100000 in
set_option maxHeartbeats 4000000 in
theorem fn39_c (hC : C < N) : ∃ k, ∀ (w : World), FX N C w₀ [] w →
    CallsC Tryz.prog true (RP N C) (DPx N) 39 #[.int .u64 0] k w fun v w' => (∃ x : Int, v = .int .i64 x) ∧ FX N C w₀ [] w' := by
  obtain ⟨k89, h89⟩ := fn89_c (w₀ := w₀) hC
  co_apply Exists.intro
  intro w hF
  co_apply callsC_of_wpC Tryz.func39 (by rfl) rfl
  simp only [Tryz.ntmps39, List.size_toArray, List.length_cons, List.length_nil, Nat.reduceAdd, Nat.reduceSub, Array.replicate_succ, Array.replicate_zero, List.push_toArray, List.append_toArray, List.nil_append, List.cons_append]
  co_apply wpC_seq (termsP N C)
  co_reg (termsP N C)
  co_op (FX.rely hC) hF (co_quiet (termsP N C))
  co_apply opsC_nil (termsP N C)
  co_then
  co_apply wpC_seq (termsP N C)
  co_apply wpC_cond (termsP N C) (t := false)
  · rfl
  simp only [Bool.false_eq_true, if_false]
  co_ctl (termsP N C)
  co_then
  co_apply wpC_seq (termsP N C)
  co_reg (termsP N C)
  co_op (FX.rely hC) hF (co_quiet (termsP N C))
  co_apply opsC_callv (termsP N C) (nf := k89) (by rfl) (by rfl) (by rfl) (by kernel_rfl) (h89 _ hF)
  clear hF
  rintro v w' ⟨⟨x, rfl⟩, hF⟩
  walk_nrm
  co_op (FX.rely hC) hF (co_quiet (termsP N C))
  co_apply opsC_nil (termsP N C)
  co_then
  co_ctl (termsP N C)
  exact ⟨rfl, _, resultsC_tmp (by rfl) _, ⟨_, rfl⟩, hF⟩

set_option maxRecDepth 100000 in
set_option maxHeartbeats 4000000 in
theorem fn80_c (hC : C < N) : ∃ k, ∀ (w : World), FX N C w₀ [] w →
    CallsC Tryz.prog true (RP N C) (DPx N) 80 #[.slice none 0 0, .int .i64 0, .int .i64 0, .func (.func 13) #[] #[]] k w fun v w' => v = .tuple #[] ∧ FX N C w₀ [] w' := by
  co_apply Exists.intro
  intro w hF
  co_apply callsC_of_wpC Tryz.func80 (by rfl) rfl
  simp only [Tryz.ntmps80, List.size_toArray, List.length_cons, List.length_nil, Nat.reduceAdd, Nat.reduceSub, Array.replicate_succ, Array.replicate_zero, List.push_toArray, List.append_toArray, List.nil_append, List.cons_append]
  co_apply wpC_seq (termsP N C)
  co_reg (termsP N C)
  co_op (FX.rely hC) hF (co_quiet (termsP N C))
  co_opw (FX.rely hC) hF (skip) (co_still (termsP N C))
  co_op (FX.rely hC) hF (co_quiet (termsP N C))
  co_apply opsC_nil (termsP N C)
  co_then
  co_apply wpC_block (termsP N C)
  generalize hgA : (Act.mk _ _) = a0
  co_apply wpC_loop (termsP N C) (fun a' w' => a' = a0 ∧ FX N C w₀ [] w') (fun _ _ => 0) _ 0
  · exact ⟨rfl, hF⟩
  · exact Nat.le_refl 0
  rintro a' w' ⟨rfl, hF⟩
  subst hgA
  co_apply wpC_seq (termsP N C) (n₂ := 0)
  co_apply wpC_seq (termsP N C)
  co_reg (termsP N C)
  co_op (FX.rely hC) hF (co_quiet (termsP N C))
  co_op (FX.rely hC) hF (co_quiet (termsP N C))
  co_opw (FX.rely hC) hF (skip) (co_still (termsP N C))
  co_apply opsC_nil (termsP N C)
  co_then
  co_apply wpC_cond (termsP N C) (t := false)
  · rfl
  simp only [Bool.false_eq_true, if_false]
  co_ctl (termsP N C)
  co_then
  exact ⟨rfl, _, resultsC_none (by rfl) _, rfl, hF⟩

set_option maxRecDepth 100000 in
set_option maxHeartbeats 4000000 in
theorem fn38_c (hC : C < N) : ∃ k, ∀ (x : Int) (w : World), FX N C w₀ [] w →
    CallsC Tryz.prog true (RP N C) (DPx N) 38 #[.slice none 0 0, .int .i64 0, .int .i64 0, .int .i64 x, .func (.func 13) #[] #[]] k w fun v w' => v = .tuple #[] ∧ FX N C w₀ [] w' := by
  obtain ⟨k80, h80⟩ := fn80_c (w₀ := w₀) hC
  co_apply Exists.intro
  intro x w hF
  co_apply callsC_of_wpC Tryz.func38 (by rfl) rfl
  simp only [Tryz.ntmps38, List.size_toArray, List.length_cons, List.length_nil, Nat.reduceAdd, Nat.reduceSub, Array.replicate_succ, Array.replicate_zero, List.push_toArray, List.append_toArray, List.nil_append, List.cons_append]
  co_apply wpC_seq (termsP N C)
  co_reg (termsP N C)
  co_op (FX.rely hC) hF (co_quiet (termsP N C))
  co_apply opsC_nil (termsP N C)
  co_then
  co_apply wpC_seq (termsP N C)
  co_reg (termsP N C)
  co_op (FX.rely hC) hF (co_quiet (termsP N C))
  co_apply opsC_nil (termsP N C)
  co_then
  co_apply wpC_block (termsP N C)
  generalize hgA : (Act.mk _ _) = a0
  co_apply wpC_loop (termsP N C) (fun a' w' => a' = a0 ∧ FX N C w₀ [] w') (fun _ _ => 0) _ 0
  · exact ⟨rfl, hF⟩
  · exact Nat.le_refl 0
  rintro a' w' ⟨rfl, hF⟩
  subst hgA
  co_apply wpC_block (termsP N C)
  co_apply wpC_seq (termsP N C)
  co_reg (termsP N C)
  co_op (FX.rely hC) hF (co_quiet (termsP N C))
  co_op (FX.rely hC) hF (co_quiet (termsP N C))
  co_opw (FX.rely hC) hF (skip) (co_still (termsP N C))
  co_op (FX.rely hC) hF (co_quiet (termsP N C))
  co_apply opsC_nil (termsP N C)
  co_then
  co_apply wpC_seq (termsP N C) (n₂ := 0)
  co_apply wpC_seq (termsP N C)
  co_reg (termsP N C)
  co_op (FX.rely hC) hF (co_quiet (termsP N C))
  co_opw (FX.rely hC) hF (skip) (co_still (termsP N C))
  co_apply opsC_nil (termsP N C)
  co_then
  co_apply wpC_cond (termsP N C) (t := true)
  · rfl
  simp only [if_true]
  co_apply wpC_seq (termsP N C)
  co_reg (termsP N C)
  co_op (FX.rely hC) hF (co_quiet (termsP N C))
  co_op (FX.rely hC) hF (co_quiet (termsP N C))
  co_op (FX.rely hC) hF (co_quiet (termsP N C))
  co_op (FX.rely hC) hF (co_quiet (termsP N C))
  co_apply opsC_callv (termsP N C) (nf := k80) (by rfl) (by rfl) (by rfl) (by kernel_rfl) (h80 _ hF)
  clear hF
  rintro v w' ⟨rfl, hF⟩
  walk_nrm
  co_apply opsC_nil (termsP N C)
  co_then
  co_ctl (termsP N C)
  exact ⟨rfl, _, resultsC_none (by rfl) _, rfl, hF⟩

set_option maxRecDepth 100000 in
set_option maxHeartbeats 4000000 in
theorem fn12_c (hC : C < N) : ∃ k, ∀ (w : World), FX N C w₀ [] w →
    CallsC Tryz.prog true (RP N C) (DPx N) 12 #[.slice none 0 0, .func (.func 13) #[] #[]] k w fun v w' => v = .tuple #[] ∧ FX N C w₀ [] w' := by
  obtain ⟨k39, h39⟩ := fn39_c (w₀ := w₀) hC
  obtain ⟨k38, h38⟩ := fn38_c (w₀ := w₀) hC
  co_apply Exists.intro
  intro w hF
  co_apply callsC_of_wpC Tryz.func12 (by rfl) rfl
  simp only [Tryz.ntmps12, List.size_toArray, List.length_cons, List.length_nil, Nat.reduceAdd, Nat.reduceSub, Array.replicate_succ, Array.replicate_zero, List.push_toArray, List.append_toArray, List.nil_append, List.cons_append]
  co_apply wpC_seq (termsP N C)
  co_reg (termsP N C)
  co_op (FX.rely hC) hF (co_quiet (termsP N C))
  co_op (FX.rely hC) hF (co_quiet (termsP N C))
  co_op (FX.rely hC) hF (co_quiet (termsP N C))
  co_apply opsC_nil (termsP N C)
  co_then
  co_reg (termsP N C)
  co_op (FX.rely hC) hF (co_quiet (termsP N C))
  co_op (FX.rely hC) hF (co_quiet (termsP N C))
  co_op (FX.rely hC) hF (co_quiet (termsP N C))
  co_opw (FX.rely hC) hF (skip) (co_still (termsP N C))
  co_apply opsC_callv (termsP N C) (nf := k39) (by rfl) (by rfl) (by rfl) (by kernel_rfl) (h39 _ hF)
  clear hF
  rintro v w' ⟨⟨x, rfl⟩, hF⟩
  walk_nrm
  co_op (FX.rely hC) hF (co_quiet (termsP N C))
  co_apply opsC_callv (termsP N C) (nf := k38) (by rfl) (by rfl) (by rfl) (by kernel_rfl) (h38 x _ hF)
  clear hF
  rintro v w' ⟨rfl, hF⟩
  walk_nrm
  co_apply opsC_nil (termsP N C)
  exact ⟨rfl, _, resultsC_none (by rfl) _, rfl, hF⟩

set_option maxRecDepth 100000 in
set_option maxHeartbeats 4000000 in
theorem fn16_c (hC : C < N) : ∃ k, ∀ (w : World), FX N C w₀ [] w →
    CallsC Tryz.prog true (RP N C) (DPx N) 16 #[.slice none 0 0] k w fun v w' => v = .slice none 0 0 ∧ FX N C w₀ [] w' := by
  co_apply Exists.intro
  intro w hF
  co_apply callsC_of_wpC Tryz.func16 (by rfl) rfl
  simp only [Tryz.ntmps16, List.size_toArray, List.length_cons, List.length_nil, Nat.reduceAdd, Nat.reduceSub, Array.replicate_succ, Array.replicate_zero, List.push_toArray, List.append_toArray, List.nil_append, List.cons_append]
  co_apply wpC_seq (termsP N C)
  co_reg (termsP N C)
  co_op (FX.rely hC) hF (co_quiet (termsP N C))
  co_apply opsC_nil (termsP N C)
  co_then
  co_apply wpC_seq (termsP N C) (n₂ := 0)
  co_apply wpC_seq (termsP N C)
  co_reg (termsP N C)
  co_op (FX.rely hC) hF (co_quiet (termsP N C))
  co_op (FX.rely hC) hF (co_quiet (termsP N C))
  co_opw (FX.rely hC) hF (skip) (co_still (termsP N C))
  co_apply opsC_nil (termsP N C)
  co_then
  co_apply wpC_cond (termsP N C) (t := true)
  · rfl
  simp only [if_true]
  co_apply wpC_seq (termsP N C)
  co_reg (termsP N C)
  co_op (FX.rely hC) hF (co_quiet (termsP N C))
  co_op (FX.rely hC) hF (co_quiet (termsP N C))
  co_apply opsC_nil (termsP N C)
  co_then
  co_ctl (termsP N C)
  exact ⟨rfl, _, resultsC_tmp (by rfl) _, by simp, hF⟩
end
end Go.Proofs.YtpejmgellidhbaaGreatDoor
