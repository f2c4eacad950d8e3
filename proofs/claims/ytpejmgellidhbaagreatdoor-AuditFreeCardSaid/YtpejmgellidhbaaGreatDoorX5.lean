/-
  pages (f10) whole, in company. PRINTED BY A PROGRAM (gen_x5.py).
-/
import Derived.Test.YtpejmgellidhbaaGreatDoorX4
import Derived.Carry
set_option linter.all false
set_option linter.unusedSimpArgs false
namespace Go.Proofs.YtpejmgellidhbaaGreatDoor
open Go Go.Proofs Go.Conc Go.ConcN Go.RowKit Go.Conc.Lib Go.ConcR.Gen Go.ConcN.Gen
open Go.ConcR (KK wgBlock WgAt stA smA rd wr mk Payload Aside2 DC0 ofEvent_cell)

theorem makeMap63 (w : World) : (Instr.makeMap 63 none).run Tryz.prog w = .ok (.map (some w.heap.size)) (w.alloc (.map #[] 0)) := rfl
theorem makeMap63e (w : World) (es : Array Event) : (Instr.makeMap 63 none).events Tryz.prog w es = es := rfl
def mu10 (p : Nat) (a : Act) (_ : World) : Nat := match (a.tmps[31]? : Option Value) with | some (Value.int _ n) => p - n.toNat | _ => 0

section
variable {N A C p Wd Pg M : Nat} {c4 : Array Value} {w₀ : World}
set_option maxRecDepth 100000 in
set_option maxHeartbeats 4000000 in
theorem pages_c (m : Mem9 N A C p Wd Pg M c4 w₀) (hp : p ≤ 4096) : ∃ k, ∀ w : World, FX N C w₀ [] w →
    CallsC Tryz.prog true (RP N C) (DPx N) 10 #[pa A] k w fun v w' => v = .tuple #[] ∧ FX N C w₀ [] w' := by
  have hC := m.ltC
  have hA := m.ltA
  obtain ⟨r, hr⟩ := round10 m hp
  simp only [L10, body10, Tryz.f10, Option.getD_some] at hr
  co_apply Exists.intro
  intro w hF
  co_apply callsC_of_wpC Tryz.func10 (by rfl) rfl
  simp only [Tryz.ntmps10, List.size_toArray, List.length_cons, List.length_nil, Nat.reduceAdd, Nat.reduceSub, Array.replicate_succ, Array.replicate_zero, List.push_toArray, List.append_toArray, List.nil_append, List.cons_append]
  co_apply wpC_seq (termsP N C)
  co_reg (termsP N C)
  co_opw (FX.rely hC) hF (have hlo := hF.lo; have hmk := makeMap63; have hme := makeMap63e) (refine ⟨low_alloc hlo _, ?_⟩; co_evs (skip))
  replace hF := (hF.alloc (.map #[] 0)).nil
  clear hlo hmk hme
  rename_i wB
  generalize wB.heap.size = B0 at hF ⊢
  co_op (FX.rely hC) hF (co_quiet (termsP N C))
  co_apply opsC_nil (termsP N C)
  co_then
  co_apply wpC_seq (termsP N C)
  co_apply wpC_seq (termsP N C)
  co_reg (termsP N C)
  co_op (FX.rely hC) hF (co_quiet (termsP N C))
  co_op (FX.rely hC) hF (co_quiet (termsP N C))
  co_op (FX.rely hC) hF (co_quiet (termsP N C))
  co_opw (FX.rely hC) hF (have hc := m.aPlaces hF) (refine ⟨fun _ _ => rfl, ?_⟩; co_evs (exact ev0_cell _ _ (by simp; omega)))
  clear hc
  co_op (FX.rely hC) hF (co_quiet (termsP N C))
  co_op (FX.rely hC) hF (co_quiet (termsP N C))
  co_apply opsC_nil (termsP N C)
  co_then
  co_apply wpC_block (termsP N C)
  generalize hgA : (Act.mk _ _) = a0
  co_apply wpC_loop (termsP N C) (fun a' w' => a' = a0 ∧ FX N C w₀ [] w') (fun _ _ => 0) _ 0
  · exact ⟨rfl, hF⟩
  · exact Nat.le_refl 0
  rintro a' w' ⟨rfl, hF⟩
  subst hgA
  co_apply wpC_seq (termsP N C)
  co_reg (termsP N C)
  co_op (FX.rely hC) hF (co_quiet (termsP N C))
  co_apply opsC_nil (termsP N C)
  co_then
  co_apply wpC_seq (termsP N C) (n₂ := 0)
  co_apply wpC_cond (termsP N C) (t := false)
  · rfl
  simp only [Bool.false_eq_true, if_false]
  co_ctl (termsP N C)
  co_then
  co_apply wpC_seq (termsP N C)
  co_reg (termsP N C)
  co_op (FX.rely hC) hF (co_quiet (termsP N C))
  co_apply opsC_nil (termsP N C)
  co_then
  co_apply wpC_seq (termsP N C)
  co_reg (termsP N C)
  co_op (FX.rely hC) hF (co_quiet (termsP N C))
  co_op (FX.rely hC) hF (co_quiet (termsP N C))
  co_op (FX.rely hC) hF (co_quiet (termsP N C))
  co_op (FX.rely hC) hF (co_quiet (termsP N C))
  co_opw (FX.rely hC) hF (have hc := m.aPages hF) (refine ⟨fun _ _ => rfl, ?_⟩; co_evs (exact ev0_cell _ _ (by simp; omega)))
  clear hc
  co_op (FX.rely hC) hF (co_quiet (termsP N C))
  co_op (FX.rely hC) hF (co_quiet (termsP N C))
  co_apply opsC_nil (termsP N C)
  co_then
  co_apply wpC_block (termsP N C)
  co_apply wpC_loop (termsP N C) (fun a w => ∃ i, i ≤ p ∧ (∃ j6 j7 j8 j32 j33 j34 j35 j36 j37 j38 j39 j40 j41 j42 j80 j81 j82 j83 j84 j88 j93 j94 j95 j96 j100 j101 j105, a = ⟨T10 A Pg p B0 i j6 j7 j8 j32 j33 j34 j35 j36 j37 j38 j39 j40 j41 j42 j80 j81 j82 j83 j84 j88 j93 j94 j95 j96 j100 j101 j105, []⟩) ∧ FX N C w₀ [] w) (mu10 p) r p
  · exact ⟨0, Nat.zero_le _, ⟨_, _, _, _, _, _, _, _, _, _, _, _, _, _, _, _, _, _, _, _, _, _, _, _, _, _, _, rfl⟩, hF⟩
  · simp [mu10]
  rintro a w ⟨i, hi, ⟨j6,j7,j8,j32,j33,j34,j35,j36,j37,j38,j39,j40,j41,j42,j80,j81,j82,j83,j84,j88,j93,j94,j95,j96,j100,j101,j105, rfl⟩, hF⟩
  refine wpC_mono (hr B0 i hi j6 j7 j8 j32 j33 j34 j35 j36 j37 j38 j39 j40 j41 j42 j80 j81 j82 j83 j84 j88 j93 j94 j95 j96 j100 j101 j105 w hF) ?_
  rintro e a' w' ⟨⟨rfl, hlt, l6,l7,l8,l32,l33,l34,l35,l36,l37,l38,l39,l40,l41,l42,l80,l81,l82,l83,l84,l88,l93,l94,l95,l96,l100,l101,l105, rfl⟩ | ⟨rfl, rfl, l6,l7,l8,l32,l33,l34,l35,l36,l37,l38,l39,l40,l41,l42,l80,l81,l82,l83,l84,l88,l93,l94,l95,l96,l100,l101,l105, rfl⟩, hF'⟩
  · refine ⟨⟨i + 1, by omega, ⟨_, _, _, _, _, _, _, _, _, _, _, _, _, _, _, _, _, _, _, _, _, _, _, _, _, _, _, rfl⟩, hF'⟩, ?_⟩
    simp only [mu10, T10, List.getElem?_toArray, List.getElem?_cons_succ, List.getElem?_cons_zero]
    omega
  · simp only [Exit.inBlock, Exit.then, if_true]
    exact ⟨rfl, _, resultsC_none (by rfl) _, rfl, hF'⟩
end
end Go.Proofs.YtpejmgellidhbaaGreatDoor
