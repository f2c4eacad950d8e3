/-
  free (f11), in company: append of one number to the nil slice; the rest of free behind its loop over the pages; free whole. PRINTED BY A PROGRAM (gen_x3.py).
-/
import Derived.Test.YtpejmgellidhbaaGreatDoorX2
import Derived.Conc.AppendWalk
import Derived.Laws.Append
set_option linter.all false
set_option linter.unusedSimpArgs false
namespace Go.Proofs.YtpejmgellidhbaaGreatDoor
open Go Go.Proofs Go.Conc Go.ConcN Go.RowKit Go.Conc.Lib Go.ConcR.Gen Go.ConcN.Gen
open Go.ConcR (KK wgBlock WgAt stA smA rd wr mk Payload Aside2 DC0 ofEvent_cell)

theorem info3 : (Tryz.prog.info? 3).map (fun i => (i.zero, i.size, i.bytes)) = some (some (.int .i64 0), 1, 8) := by kernel_rfl

section
variable {main : Bool} {R : World → World → Prop} {D : World → World → Array Event → Prop} {fn : FuncId} {Q : Exit → Act → World → Prop} {a : Act} {w : World}
/-- append(nil, v). -/
theorem opsC_append1 {ops : Array Oper} {i : Nat} {rest : List Nat} {o : Oper} {s x : Operand} {n B : Nat} {v : Int} (ho : ops[i]? = some o) (hw : Region.wanted o (yielded ops a.tmps) = true)
    (hop : o.op = .call { callee := .builtin .append, args := #[s, x], argTypes := #[23, 23] }) (hs : a.eval s = .slice none 0 0) (hx : a.eval x = .slice (some ⟨B, 0, none⟩) 1 1)
    (h : ∀ w₁, R w w₁ → w₁.cell? ⟨B, 0, none⟩ = some (.int .i64 v) ∧
      ∀ (cap : Nat) (z : Array Value), (∀ es : Array Event, (∀ ev ∈ es, (∃ ad, ev.loc = .cell ad ∧ ev.write = false ∧ ad.block = B) ∨ ∃ m, ev = ⟨.mark m, false, true⟩ ∧ Neutral m) → D w₁ (w₁.drew.alloc (.cells (#[.int .i64 v] ++ z) 3)) es) ∧
        OpsC Tryz.prog main R D fn ops rest n Q (a.put o.dst (.slice (some ⟨w₁.heap.size, 0, none⟩) 1 cap)) (w₁.drew.alloc (.cells (#[.int .i64 v] ++ z) 3))) : OpsC Tryz.prog main R D fn ops (i :: rest) (n + 1) Q a w := by
  refine opsC_cons ho hw fun w₁ h₁ => ?_
  obtain ⟨hc, hn⟩ := h w₁ h₁
  obtain ⟨i0, hi, hz0, hz1, hz2⟩ := info_parts info3
  have hnews : ∀ (j : Nat) (u : Value), [Value.int .i64 v][j]? = some u → w₁.cell? ((⟨B, 0, none⟩ : Addr).add j) = some u := by
    intro j u hj
    cases j with
    | zero => simp at hj; subst hj; simpa [Addr.add] using hc
    | succ j => simp at hj
  have hr := run_append_nil (P := Tryz.prog) (w := w₁) 23 o.type 3 i0 (.int .i64 0) Tryz.underlying23 hi hz0 ⟨B, 0, none⟩ 1 1 [.int .i64 v] (by simp [hz1]) hnews (by omega) (by omega) (by rw [hz2]; omega)
  obtain ⟨h1, h2⟩ := hn _ _
  refine uponK_append s x 23 hop hs hx hr ⟨h1 _ ?_, h2⟩
  intro ev hev
  have hm := mem_listed hev
  rw [events_append_op s x 23 hop hs hx] at hm
  rcases events_append_where (P := Tryz.prog) w₁ 0 23 o.type 3 i0 (.int .i64 0) 1 8 Tryz.underlying23 hi hz0 hz1 hz2 (.slice none 0 0) 0 [] ⟨rfl, .inl ⟨rfl, rfl⟩⟩ ⟨B, 0, none⟩ 1 1 [.int .i64 v] rfl hnews (by simp [Value.oneCell']) (by simp [maxLen]) (by omega) ev hm with ⟨ad, e1, e2⟩ | hm
  · rcases e2 with ⟨e2, e3⟩ | e2
    · exact .inl ⟨ad, e1, e2, e3⟩
    · simp [Value.ownBlock] at e2
  · exact .inr hm
end

section
variable {N A C p Wd Pg M : Nat} {c4 : Array Value} {w₀ : World}
theorem ev0_append {B : Nat} (hB : N + 5 ≤ B) (es : Array Event) (h : ∀ ev ∈ es, (∃ ad, ev.loc = .cell ad ∧ ev.write = false ∧ ad.block = B) ∨ ∃ m, ev = ⟨.mark m, false, true⟩ ∧ Neutral m) : ∀ ev ∈ es, Ev0 (N + 1) (Own N) (Rd N) 4 ev := by
  intro ev hev
  rcases h ev hev with ⟨ad, e1, e2, e3⟩ | ⟨m, rfl, hm⟩
  · obtain ⟨loc, wr, sy⟩ := ev
    cases e1
    cases e2
    exact ev0_new _ _ _ (by omega)
  · cases hm
    refine ⟨fun fn pos => ⟨rfl, fun y hy => ?_⟩, by simp, by simp, by simp⟩
    simp [MemAct.ofEvent, MemAct.touch?] at hy

set_option maxRecDepth 100000 in
theorem idx25e (A c : Nat) (hc : c < 8) (w : World) (es : Array Event) : (Instr.indexAt 25 (.pointer (some ⟨A, 3, none⟩)) (.int .i64 c)).events Tryz.prog w es = es := by
  have : c = 0 ∨ c = 1 ∨ c = 2 ∨ c = 3 ∨ c = 4 ∨ c = 5 ∨ c = 6 ∨ c = 7 := by omega
  rcases this with rfl | rfl | rfl | rfl | rfl | rfl | rfl | rfl <;> rfl

noncomputable def R11 : Code := match body11 with | .seq _ (.seq _ r) => r | _ => .skip

theorem drew_FX {w : World} {l : List (Nat × Obj)} (h : FX N C w₀ l w) : FX N C w₀ l w.drew := ⟨h.tape, h.os, h.output, h.lo, h.block, h.ext⟩

set_option maxRecDepth 100000 in
set_option maxHeartbeats 4000000 in
/-- The rest of free, behind its loop over the pages. -/
theorem tail11 (m : Mem9 N A C p Wd Pg M c4 w₀) (c : Nat) (hc8 : c < 8) : ∃ k, ∀ j5 j6 j19 j20 j21 j22 j23 j24 j25 j26 j54 w, FX N C w₀ [] w →
    R11.wpC Tryz.prog true (RP N C) (DPx N) 11 k (bodyPostC Tryz.prog Tryz.f11 fun v w' => v = .tuple #[] ∧ FX N C w₀ [] w') ⟨T11 A Pg p c p j5 j6 j19 j20 j21 j22 j23 j24 j25 j26 j54, []⟩ w := by
  have hC := m.ltC
  have hA := m.ltA
  co_apply Exists.intro
  intro j5 j6 j19 j20 j21 j22 j23 j24 j25 j26 j54 w hF
  simp only [R11, body11, Tryz.f11, Option.getD_some, T11]
  co_apply wpC_seq (termsP N C)
  co_reg (termsP N C)
  co_op (FX.rely hC) hF (co_quiet (termsP N C))
  co_opw (FX.rely hC) hF (have hlo := hF.lo) (refine ⟨low_alloc hlo _, ?_⟩; co_evs (skip))
  replace hF := hF.alloc (.cells #[.int .i64 (-1)] 3)
  clear hlo
  rename_i wB
  generalize wB.heap.size = B at hF ⊢
  have hB : N + 5 ≤ B := (hF.ext _ (List.mem_cons_self)).1
  co_apply opsC_append1 (B := B) (v := -1) rfl rfl rfl rfl rfl
  intro w₁ h₁
  replace hF := FX.rely hC hF h₁
  clear h₁
  refine ⟨by have := hF.extCell (List.mem_cons_self) 0; simpa using this, fun cap z => ⟨fun es hes => ⟨fun b hb => ?_, ev0_append hB es hes⟩, ?_⟩⟩
  · have hlo := hF.lo
    exact low_alloc (w := w₁.drew) (by simpa using hlo) _ b hb
  have hF := ((drew_FX hF).alloc (.cells (#[.int .i64 (-1)] ++ z) 3)).less (l' := [(w₁.drew.heap.size, .cells (#[.int .i64 (-1)] ++ z) 3)]) (by simp)
  simp only [World.drew] at hF ⊢
  generalize w₁.heap.size = B2 at hF ⊢
  have hB2 : N + 5 ≤ B2 := (hF.ext _ (List.mem_cons_self)).1
  walk_nrm
  co_op (FX.rely hC) hF (co_quiet (termsP N C))
  co_apply opsC_nil (termsP N C)
  co_then
  co_apply wpC_seq (termsP N C)
  co_apply wpC_seq (termsP N C)
  have hc0 : (0 : Int) ≤ (c : Int) := by omega
  have hc1 : (c : Int) < 8 := by omega
  have hz0 : (#[Value.int .i64 (-1)] ++ z)[0]? = some (.int .i64 (-1)) := by rw [Array.getElem?_append_left (by simp)]; rfl
  have hie := idx25e A c hc8
  co_held (termsP N C) (drawP N) (ownDrawP N C) (FX N C w₀ [(B2, .cells (#[.int .i64 (-1)] ++ z) 3)]) (FX.rely hC) hF
  co_take 0 (termsP N C) (FX.rely hC) hF hw (skip) (co_quiet (termsP N C))
  co_take 1 (termsP N C) (FX.rely hC) hF hw (skip) (co_quiet (termsP N C))
  co_take 2 (termsP N C) (FX.rely hC) hF hw (skip) (co_quiet (termsP N C))
  co_take 3 (termsP N C) (FX.rely hC) hF hw (skip) (co_quiet (termsP N C))
  co_take 4 (termsP N C) (FX.rely hC) hF hw (skip) (co_quiet (termsP N C))
  co_take 5 (termsP N C) (FX.rely hC) hF hw (skip) (co_still (termsP N C))
  co_take 6 (termsP N C) (FX.rely hC) hF hw (have hx := m.aHead hw c hc8) (refine ⟨fun _ _ => rfl, ?_⟩; co_evs (exact ev0_cell _ _ (by simp; omega)))
  co_take 7 (termsP N C) (FX.rely hC) hF hw (skip) (co_quiet (termsP N C))
  co_take 8 (termsP N C) (FX.rely hC) hF hw (skip) (co_still (termsP N C))
  co_take 9 (termsP N C) (FX.rely hC) hF hw (have hx := (hw.extCell (List.mem_cons_self) 0).trans hz0) (refine ⟨fun _ _ => rfl, ?_⟩; co_evs (exact ev0_new _ _ _ (by simpa using hB2)))
  co_take 10 (termsP N C) (FX.rely hC) hF hw (skip) (co_quiet (termsP N C))
  co_done
  co_apply wpC_cond (termsP N C) (t := false)
  · rfl
  simp only [Bool.false_eq_true, if_false]
  co_ctl (termsP N C)
  co_then
  co_apply wpC_seq (termsP N C)
  co_reg (termsP N C)
  co_op (FX.rely hC) hF (co_quiet (termsP N C))
  co_op (FX.rely hC) hF (co_quiet (termsP N C))
  co_op (FX.rely hC) hF (co_quiet (termsP N C))
  co_op (FX.rely hC) hF (co_quiet (termsP N C))
  co_apply opsC_nil (termsP N C)
  co_then
  co_apply wpC_block (termsP N C)
  generalize hgA : (Act.mk _ _) = a0
  co_apply wpC_loop (termsP N C) (fun a' w' => a' = a0 ∧ FX N C w₀ [] w') (fun _ _ => 0) _ 0
  · exact ⟨rfl, FX.nil hF⟩
  · exact Nat.le_refl 0
  rintro a' w' ⟨rfl, hF⟩
  subst hgA
  co_apply wpC_seq (termsP N C)
  co_reg (termsP N C)
  co_op (FX.rely hC) hF (co_quiet (termsP N C))
  co_apply opsC_nil (termsP N C)
  co_then
  co_apply wpC_seq (termsP N C) (n₂ := 0)
  co_apply wpC_cond (termsP N C) (t := false)
  · rfl
  simp only [Bool.false_eq_true, if_false]
  co_ctl (termsP N C)
  co_then
  exact ⟨rfl, _, resultsC_none (by rfl) _, rfl, hF⟩

def mu11 (p : Nat) (a : Act) (_ : World) : Nat := match (a.tmps[18]? : Option Value) with | some (Value.int _ n) => p - n.toNat | _ => 0

set_option maxRecDepth 100000 in
set_option maxHeartbeats 4000000 in
theorem free_c (m : Mem9 N A C p Wd Pg M c4 w₀) (hp : p ≤ 4096) (c : Nat) (hc8 : c < 8) : ∃ k, ∀ w : World, FX N C w₀ [] w →
    CallsC Tryz.prog true (RP N C) (DPx N) 11 #[pa A, .int .i64 c] k w fun v w' => v = .tuple #[] ∧ FX N C w₀ [] w' := by
  have hC := m.ltC
  have hA := m.ltA
  obtain ⟨r, hr⟩ := round11 m hp c hc8
  obtain ⟨k, hk⟩ := tail11 m c hc8
  simp only [L11, R11, body11, Tryz.f11, Option.getD_some] at hr hk
  co_apply Exists.intro
  intro w hF
  co_apply callsC_of_wpC Tryz.func11 (by rfl) rfl
  simp only [Tryz.ntmps11, List.size_toArray, List.length_cons, List.length_nil, Nat.reduceAdd, Nat.reduceSub, Array.replicate_succ, Array.replicate_zero, List.push_toArray, List.append_toArray, List.nil_append, List.cons_append]
  co_stmt (termsP N C) (FX.rely hC) hF (co_quiet (termsP N C))
  co_apply wpC_seq (termsP N C) (n₂ := k)
  co_apply wpC_seq (termsP N C)
  co_reg (termsP N C)
  co_op (FX.rely hC) hF (co_quiet (termsP N C))
  co_op (FX.rely hC) hF (co_quiet (termsP N C))
  co_op (FX.rely hC) hF (co_quiet (termsP N C))
  co_op (FX.rely hC) hF (co_quiet (termsP N C))
  co_opw (FX.rely hC) hF (have hc := m.aPages hF) (refine ⟨fun _ _ => rfl, ?_⟩; co_evs (exact ev0_cell _ _ (by simp; omega)))
  clear hc
  co_op (FX.rely hC) hF (co_quiet (termsP N C))
  co_op (FX.rely hC) hF (co_quiet (termsP N C))
  co_apply opsC_nil (termsP N C)
  co_then
  co_apply wpC_block (termsP N C)
  co_apply wpC_loop (termsP N C) (fun a w => ∃ i, i ≤ p ∧ (∃ j5 j6 j19 j20 j21 j22 j23 j24 j25 j26 j54, a = ⟨T11 A Pg p c i j5 j6 j19 j20 j21 j22 j23 j24 j25 j26 j54, []⟩) ∧ FX N C w₀ [] w) (mu11 p) r p
  · exact ⟨0, Nat.zero_le _, ⟨_, _, _, _, _, _, _, _, _, _, _, rfl⟩, hF⟩
  · simp [mu11]
  rintro a w ⟨i, hi, ⟨j5,j6,j19,j20,j21,j22,j23,j24,j25,j26,j54, rfl⟩, hF⟩
  refine wpC_mono (hr i hi j5 j6 j19 j20 j21 j22 j23 j24 j25 j26 j54 w hF) ?_
  rintro e a' w' ⟨⟨rfl, hlt, l5,l6,l19,l20,l21,l22,l23,l24,l25,l26,l54, rfl⟩ | ⟨rfl, rfl, l5,l6,l19,l20,l21,l22,l23,l24,l25,l26,l54, rfl⟩, hF'⟩
  · refine ⟨⟨i + 1, by omega, ⟨_, _, _, _, _, _, _, _, _, _, _, rfl⟩, hF'⟩, ?_⟩
    simp only [mu11, T11, List.getElem?_toArray, List.getElem?_cons_succ, List.getElem?_cons_zero]
    omega
  · simp only [Exit.inBlock, Exit.then, if_true]
    exact hk _ _ _ _ _ _ _ _ _ _ _ _ hF'
end
end Go.Proofs.YtpejmgellidhbaaGreatDoor
