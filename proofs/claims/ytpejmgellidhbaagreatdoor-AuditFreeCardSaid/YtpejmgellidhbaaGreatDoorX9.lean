/-
  AuditFree (f3), behind Check; from the end of Wait to the return. PRINTED BY A PROGRAM (gen_x9.py).
-/
import Derived.Test.YtpejmgellidhbaaGreatDoorX8
set_option linter.all false
set_option linter.unusedSimpArgs false
namespace Go.Proofs.YtpejmgellidhbaaGreatDoor
open Go Go.Proofs Go.Conc Go.ConcN Go.RowKit Go.Conc.Lib Go.ConcR.Gen Go.ConcN.Gen
open Go.ConcR (KK wgBlock WgAt stA smA rd wr mk Payload Aside2 DC0 ofEvent_cell)

noncomputable def body3 : Code := Tryz.f3.body.getD .skip
noncomputable def ops43 : Array Oper := match body3 with | .seq _ (.seq _ (.seq _ (.seq (.region _ ops _) _))) => ops | _ => #[]
noncomputable def rest3 : Code := match body3 with | .seq _ (.seq _ (.seq _ (.seq _ r))) => r | _ => .skip

section
variable {N A C p Wd Pg M : Nat} {c4 : Array Value} {w₀ w : World} {l : List (Nat × Obj)}
/-- At the return. -/
def QF (N C : Nat) (w₀ : World) (e : Exit) (a : Act) (w : World) : Prop := e = .ret ∧ a.defers = [] ∧ a.tmps.getD 2 undef = .bool true ∧ FX N C w₀ [] w

set_option maxRecDepth 100000 in
theorem law_end (m : Mem9 N A C p Wd Pg M c4 w₀) (hp1 : 1 ≤ p) (hp : p ≤ 4096) : ∃ k, ∀ (v1 v2 v3 v4 v5 v6 v7 v8 v9 v10 v11 v12 v13 v14 v15 v16 v17 v18 v19 v20 v21 v22 v23 v24 v25 v26 v27 v28 v29 v30 v31 v32 v33 v34 v35 v36 v37 v38 v39 v40 v41 v42 v43 : Value) (w : World), FX N C w₀ [] w →
    OpsC Tryz.prog true (RP N C) (DPx N) 3 ops43 [2] k (Exit.then (fun a' w' => rest3.wpC Tryz.prog true (RP N C) (DPx N) 3 k (QF N C w₀) a' w') (QF N C w₀)) ⟨#[.int .i64 p, v1, v2, v3, v4, v5, v6, v7, v8, v9, v10, v11, v12, v13, v14, v15, v16, v17, v18, v19, v20, v21, v22, v23, .slice none 0 0, v25, v26, v27, v28, v29, v30, v31, v32, v33, v34, v35, v36, v37, v38, v39, v40, v41, v42, v43], []⟩ w := by
  have hC := m.ltC
  have hA := m.ltA
  have h1 : (1 : Int) ≤ (p : Int) := by omega
  have h2 : (p : Int) ≤ 4096 := by omega
  have d1 : decide ((1 : Int) ≤ (p : Int)) = true := decide_eq_true h1
  have d2 : decide ((p : Int) ≤ 4096) = true := decide_eq_true h2
  have hrest : ∃ k, ∀ (v1 v2 v3 v4 v5 v6 v7 v8 v9 v10 v11 v12 v13 v14 v15 v16 v17 v18 v19 v20 v21 v22 v23 v24 v25 v26 v27 v28 v29 v30 v31 v32 v33 v34 v35 v36 v37 v38 v39 v40 v41 v42 v43 : Value) (w : World), FX N C w₀ [] w → rest3.wpC Tryz.prog true (RP N C) (DPx N) 3 k (QF N C w₀) ⟨#[.int .i64 p, v1, v2, v3, .slice none 0 0, v5, v6, v7, v8, v9, v10, v11, v12, v13, v14, v15, v16, v17, v18, v19, v20, v21, v22, v23, .slice none 0 0, v25, v26, v27, v28, v29, v30, v31, v32, v33, v34, v35, v36, v37, v38, v39, v40, v41, v42, v43], []⟩ w := by
    co_apply Exists.intro
    intro v1 v2 v3 v4 v5 v6 v7 v8 v9 v10 v11 v12 v13 v14 v15 v16 v17 v18 v19 v20 v21 v22 v23 v24 v25 v26 v27 v28 v29 v30 v31 v32 v33 v34 v35 v36 v37 v38 v39 v40 v41 v42 v43 w hF
    simp only [rest3, body3, Tryz.f3, Option.getD_some]
    co_apply wpC_seq (termsP N C) (n₂ := 0)
    co_apply wpC_seq (termsP N C)
    co_reg (termsP N C)
    co_op (FX.rely hC) hF (co_quiet (termsP N C))
    co_opw (FX.rely hC) hF (skip) (co_still (termsP N C))
    co_op (FX.rely hC) hF (co_quiet (termsP N C))
    co_op (FX.rely hC) hF (co_quiet (termsP N C))
    co_opw (FX.rely hC) hF (skip) (co_still (termsP N C))
    co_op (FX.rely hC) hF (co_quiet (termsP N C))
    co_apply opsC_nil (termsP N C)
    co_then
    co_apply wpC_cond (termsP N C) (t := true)
    · rfl
    simp only [if_true]
    co_apply wpC_seq (termsP N C)
    co_reg (termsP N C)
    co_op (FX.rely hC) hF (co_quiet (termsP N C))
    co_op (FX.rely hC) hF (co_quiet (termsP N C))
    co_op (FX.rely hC) hF (co_quiet (termsP N C))
    co_op (FX.rely hC) hF (co_quiet (termsP N C))
    co_apply opsC_nil (termsP N C)
    co_then
    co_ctl (termsP N C)
    exact ⟨rfl, rfl, rfl, hF⟩
  obtain ⟨k, hk⟩ := hrest
  refine ⟨k + 2, ?_⟩
  intro v1 v2 v3 v4 v5 v6 v7 v8 v9 v10 v11 v12 v13 v14 v15 v16 v17 v18 v19 v20 v21 v22 v23 v24 v25 v26 v27 v28 v29 v30 v31 v32 v33 v34 v35 v36 v37 v38 v39 v40 v41 v42 v43 w hF
  have h : ∃ k', k' ≤ k + 2 ∧ OpsC Tryz.prog true (RP N C) (DPx N) 3 ops43 [2] k' (Exit.then (fun a' w' => rest3.wpC Tryz.prog true (RP N C) (DPx N) 3 (k + 2) (QF N C w₀) a' w') (QF N C w₀)) ⟨#[.int .i64 p, v1, v2, v3, v4, v5, v6, v7, v8, v9, v10, v11, v12, v13, v14, v15, v16, v17, v18, v19, v20, v21, v22, v23, .slice none 0 0, v25, v26, v27, v28, v29, v30, v31, v32, v33, v34, v35, v36, v37, v38, v39, v40, v41, v42, v43], []⟩ w := by
    refine ⟨2, by omega, ?_⟩
    simp only [ops43, body3, Tryz.f3, Option.getD_some]
    co_op (FX.rely hC) hF (co_quiet (termsP N C))
    co_apply opsC_nil (termsP N C)
    exact wpC_more (hk _ _ _ undef _ _ _ _ _ _ _ _ _ _ _ _ _ _ _ _ _ _ _ undef _ _ _ _ _ _ _ _ _ _ _ _ _ _ _ _ _ _ _ _ hF) (by omega)
  obtain ⟨k', h1, h2⟩ := h
  exact opsC_more h2 h1

theorem array44 (T : Array Value) (h : T.size = 44) : ∃ v0 v1 v2 v3 v4 v5 v6 v7 v8 v9 v10 v11 v12 v13 v14 v15 v16 v17 v18 v19 v20 v21 v22 v23 v24 v25 v26 v27 v28 v29 v30 v31 v32 v33 v34 v35 v36 v37 v38 v39 v40 v41 v42 v43 : Value, T = #[v0, v1, v2, v3, v4, v5, v6, v7, v8, v9, v10, v11, v12, v13, v14, v15, v16, v17, v18, v19, v20, v21, v22, v23, v24, v25, v26, v27, v28, v29, v30, v31, v32, v33, v34, v35, v36, v37, v38, v39, v40, v41, v42, v43] := by
  obtain ⟨l⟩ := T
  simp only [List.size_toArray] at h
  rcases l with _ | ⟨v0, l⟩
  · simp at h
  rcases l with _ | ⟨v1, l⟩
  · simp at h
  rcases l with _ | ⟨v2, l⟩
  · simp at h
  rcases l with _ | ⟨v3, l⟩
  · simp at h
  rcases l with _ | ⟨v4, l⟩
  · simp at h
  rcases l with _ | ⟨v5, l⟩
  · simp at h
  rcases l with _ | ⟨v6, l⟩
  · simp at h
  rcases l with _ | ⟨v7, l⟩
  · simp at h
  rcases l with _ | ⟨v8, l⟩
  · simp at h
  rcases l with _ | ⟨v9, l⟩
  · simp at h
  rcases l with _ | ⟨v10, l⟩
  · simp at h
  rcases l with _ | ⟨v11, l⟩
  · simp at h
  rcases l with _ | ⟨v12, l⟩
  · simp at h
  rcases l with _ | ⟨v13, l⟩
  · simp at h
  rcases l with _ | ⟨v14, l⟩
  · simp at h
  rcases l with _ | ⟨v15, l⟩
  · simp at h
  rcases l with _ | ⟨v16, l⟩
  · simp at h
  rcases l with _ | ⟨v17, l⟩
  · simp at h
  rcases l with _ | ⟨v18, l⟩
  · simp at h
  rcases l with _ | ⟨v19, l⟩
  · simp at h
  rcases l with _ | ⟨v20, l⟩
  · simp at h
  rcases l with _ | ⟨v21, l⟩
  · simp at h
  rcases l with _ | ⟨v22, l⟩
  · simp at h
  rcases l with _ | ⟨v23, l⟩
  · simp at h
  rcases l with _ | ⟨v24, l⟩
  · simp at h
  rcases l with _ | ⟨v25, l⟩
  · simp at h
  rcases l with _ | ⟨v26, l⟩
  · simp at h
  rcases l with _ | ⟨v27, l⟩
  · simp at h
  rcases l with _ | ⟨v28, l⟩
  · simp at h
  rcases l with _ | ⟨v29, l⟩
  · simp at h
  rcases l with _ | ⟨v30, l⟩
  · simp at h
  rcases l with _ | ⟨v31, l⟩
  · simp at h
  rcases l with _ | ⟨v32, l⟩
  · simp at h
  rcases l with _ | ⟨v33, l⟩
  · simp at h
  rcases l with _ | ⟨v34, l⟩
  · simp at h
  rcases l with _ | ⟨v35, l⟩
  · simp at h
  rcases l with _ | ⟨v36, l⟩
  · simp at h
  rcases l with _ | ⟨v37, l⟩
  · simp at h
  rcases l with _ | ⟨v38, l⟩
  · simp at h
  rcases l with _ | ⟨v39, l⟩
  · simp at h
  rcases l with _ | ⟨v40, l⟩
  · simp at h
  rcases l with _ | ⟨v41, l⟩
  · simp at h
  rcases l with _ | ⟨v42, l⟩
  · simp at h
  rcases l with _ | ⟨v43, l⟩
  · simp at h
  rcases l with _ | ⟨x, l⟩
  · exact ⟨v0, v1, v2, v3, v4, v5, v6, v7, v8, v9, v10, v11, v12, v13, v14, v15, v16, v17, v18, v19, v20, v21, v22, v23, v24, v25, v26, v27, v28, v29, v30, v31, v32, v33, v34, v35, v36, v37, v38, v39, v40, v41, v42, v43, rfl⟩
  · simp at h
end

/-- THE END OF A CALLEE's BODY, IN COMPANY: back into the caller. -/
theorem goes_ret_in {P : Program} {main : Bool} {R : World → World → Prop} {D : World → World → Array Event → Prop} (T : Terms R D) {Stop : Goroutine → World → Prop} {m n : Nat} {f : FuncId} {fn : Func} (hf : P.funcs[f]? = some fn)
    {b : Frame} {a a' : Act} {k : List Item} {cs : List Frame} {ops : Array Oper} {i : Nat} {rest : List Nat} {o : Oper} (ho : ops[i]? = some o) {c : Code} {Post : Value → World → Prop} {w : World}
    (h : c.wpC P main R D f n (bodyPostC P fn Post) a' w) (hnext : ∀ v w', Post v w' → Goes P main R D Stop m (G (b.at (a.put o.dst v) (.inRegion ops rest :: k)) cs) w') :
    Goes P main R D Stop (m + 2 + n) (G ((base f).at a' [.code c]) (b.at a (.inRegion ops (i :: rest) :: k) :: cs)) w := by
  have hfin : ∀ v, (b.at a (.inRegion ops (i :: rest) :: k)).finish v = b.at (a.put o.dst v) (.inRegion ops rest :: k) := fun v => by rw [Frame.finish_at, ho]; rfl
  have hleave : ∀ (a' : Act) (w' : World) (todo : List Item), (a'.defers = [] ∧ ∃ v, ResultsC P fn a'.tmps v ∧ Post v w') →
      Goes P main R D Stop (m + 1) (G { (base f).at a' todo with mode := .returning } (b.at a (.inRegion ops (i :: rest) :: k) :: cs)) w' := by
    rintro a' w' todo ⟨hd, v, hr, hp⟩
    refine Goes.step rfl fun w₁ h₁ => ?_
    rw [stepG_leave (b := base f) rfl hd hf (hr w₁).1 (hr w₁).2, hfin]
    exact ⟨T.idle _, (hnext v w' hp).rely T.trans h₁⟩
  refine h (base f) [] _ Stop (m + 2) rfl (by simp [base]) fun e a' w' q => ?_
  cases e with
  | normal => exact Goes.step rfl fun w₁ h₁ => by rw [stepG_end]; exact ⟨T.idle _, (hleave a' w' [] q).rely T.trans h₁⟩
  | ret => exact fun todo => (hleave a' w' todo q).more
  | exit id => exact q.elim
  | goto l => exact q.elim
  | panic ch => exact q.elim
  | outgrown => exact q.elim

/-- The frames of Check and of AuditFree that wait. -/
noncomputable def c5 (T : Array Value) : Frame := (base 5).at ⟨T, []⟩ [.inRegion ops6 (1 :: []), .code rest5]
noncomputable def c3 (T : Array Value) : Frame := (base 3).at ⟨T, []⟩ [.inRegion ops43 (1 :: [2]), .code rest3]

theorem ended3 (a : Act) (todo : List Item) (w : World) (v : Value) (hd : a.defers = []) (hv : a.tmps.getD 2 undef = v) :
    stepG Tryz.prog true (G { (base 3).at a todo with mode := .returning } []) w = .ended (.done v) w #[] := by
  obtain ⟨T, ds⟩ := a
  simp only at hd hv
  subst hd
  have hv' : T[2]?.getD undef = v := by simpa [Array.getD_eq_getD_getElem?] using hv
  simp [G, stepG, unwind, doReturn, results, Frame.at, base, Tryz.func3, Tryz.f3, seen, GStep.after, hv', hv]

section
variable {N A C p Wd Pg M : Nat} {c4 : Array Value} {w₀ w : World} {l : List (Nat × Obj)}
theorem FP.fx (m : Mem9 N A C p Wd Pg M c4 w₀) (h : FP N C w₀ w) : FX N C w₀ [] w :=
  ⟨h.tape, h.os, h.output, by rw [h.size, m.size]; exact Nat.le_refl _, fun b _ h1 h2 h3 => h.block b h1 h2 h3, by simp⟩

set_option maxRecDepth 100000 in
/-- FROM THE END OF Wait TO THE RETURN. -/
theorem afterWait (m : Mem9 N A C p Wd Pg M c4 w₀) (hp1 : 1 ≤ p) (hp : p ≤ 4096) (T5 T3 : Array Value) (h5 : T5.size = 52) (h54 : T5[4]? = some (pa A)) (h3 : T3.size = 44) (h30 : T3[0]? = some (.int .i64 p)) (vals : List Value) :
    ∃ mT, ∀ (T : Array Value), T.size = 36 → T[1]? = some (pa N) → T[3]? = some (pa (N + 2)) → ∀ w, FP N C w₀ w → 
      Goes Tryz.prog true (RP N C) (DPx N) (AtRet Tryz.prog (N + 1) C 4 (Own N) (Rd N) vals (fun v w' => v = .bool true ∧ FX N C w₀ [] w')) mT
        (G ((base 9).at ((⟨T, []⟩ : Act).put ((ops15[0]?).bind (·.dst)) (.tuple #[])) (.inRegion ops15 [] :: [.code tail15])) [c5 T5, c3 T3]) w := by
  have hC := m.ltC
  obtain ⟨k9, hk9⟩ := words_end m
  obtain ⟨k5, hk5⟩ := check_end m hp
  obtain ⟨k3, hk3⟩ := law_end m hp1 hp
  obtain ⟨v0, v1, v2, v3, v4, v5, v6, v7, v8, v9, v10, v11, v12, v13, v14, v15, v16, v17, v18, v19, v20, v21, v22, v23, v24, v25, v26, v27, v28, v29, v30, v31, v32, v33, v34, v35, v36, v37, v38, v39, v40, v41, v42, v43, v44, v45, v46, v47, v48, v49, v50, v51, rfl⟩ := array52 T5 h5
  simp only [List.getElem?_toArray, List.getElem?_cons_succ, List.getElem?_cons_zero, Option.some.injEq] at h54
  subst h54
  obtain ⟨u0, u1, u2, u3, u4, u5, u6, u7, u8, u9, u10, u11, u12, u13, u14, u15, u16, u17, u18, u19, u20, u21, u22, u23, u24, u25, u26, u27, u28, u29, u30, u31, u32, u33, u34, u35, u36, u37, u38, u39, u40, u41, u42, u43, rfl⟩ := array44 T3 h3
  simp only [List.getElem?_toArray, List.getElem?_cons_succ, List.getElem?_cons_zero, Option.some.injEq] at h30
  subst h30
  have T := termsP N C
  have e3 : ∀ w, FX N C w₀ [] w → Goes Tryz.prog true (RP N C) (DPx N) (AtRet Tryz.prog (N + 1) C 4 (Own N) (Rd N) vals (fun v w' => v = .bool true ∧ FX N C w₀ [] w')) (k3 + k3)
      (G ((base 3).at ((⟨#[.int .i64 p, u1, u2, u3, u4, u5, u6, u7, u8, u9, u10, u11, u12, u13, u14, u15, u16, u17, u18, u19, u20, u21, u22, u23, u24, u25, u26, u27, u28, u29, u30, u31, u32, u33, u34, u35, u36, u37, u38, u39, u40, u41, u42, u43], []⟩ : Act).put (some 24) (.slice none 0 0)) (.inRegion ops43 [2] :: [.code rest3])) []) w := by
    intro w hF
    have hend : ∀ a w, QF N C w₀ .ret a w → ∀ todo, Goes Tryz.prog true (RP N C) (DPx N) (AtRet Tryz.prog (N + 1) C 4 (Own N) (Rd N) vals (fun v w' => v = .bool true ∧ FX N C w₀ [] w')) 0 (G { (base 3).at a todo with mode := .returning } []) w :=
      fun a w ⟨_, hd, hv, hF⟩ todo => Goes.stop fun w₂ r₂ => ⟨rfl, fun _ => ⟨.bool true, #[], ended3 a todo w₂ _ hd hv, by simp, rfl, FX.rely hC hF r₂⟩⟩
    have h := hk3 u1 u2 u3 u4 u5 u6 u7 u8 u9 u10 u11 u12 u13 u14 u15 u16 u17 u18 u19 u20 u21 u22 u23 u24 u25 u26 u27 u28 u29 u30 u31 u32 u33 u34 u35 u36 u37 u38 u39 u40 u41 u42 u43 w hF (base 3) [.code rest3] [] _ k3 rfl (by simp [base]) fun e a' w' q => (show After Tryz.prog true (RP N C) (DPx N) (AtRet Tryz.prog (N + 1) C 4 (Own N) (Rd N) vals (fun v w' => v = .bool true ∧ FX N C w₀ [] w')) k3 (base 3) [.code rest3] [] e a' w' from ?_)
    · exact h
    · cases e with
      | normal => 
        have := q (base 3) [] [] _ 0 rfl (by simp [base]) fun e a' w' q => (show After Tryz.prog true (RP N C) (DPx N) (AtRet Tryz.prog (N + 1) C 4 (Own N) (Rd N) vals (fun v w' => v = .bool true ∧ FX N C w₀ [] w')) 0 (base 3) [] [] e a' w' from by
          obtain ⟨rfl, q⟩ := q
          exact fun todo => hend _ _ ⟨rfl, q⟩ todo)
        rw [Nat.zero_add] at this
        exact this
      | ret => exact fun todo => (hend _ _ q todo).mono (Nat.zero_le _)
      | exit id => exact absurd q.1 (by simp)
      | goto l => exact absurd q.1 (by simp)
      | panic ch => exact absurd q.1 (by simp)
      | outgrown => exact absurd q.1 (by simp)
  have e5 : ∀ w, FX N C w₀ [] w → Goes Tryz.prog true (RP N C) (DPx N) (AtRet Tryz.prog (N + 1) C 4 (Own N) (Rd N) vals (fun v w' => v = .bool true ∧ FX N C w₀ [] w')) (k3 + k3 + 2 + k5 + 1)
      (G ((base 5).at ((⟨#[v0, v1, v2, v3, pa A, v5, v6, v7, v8, v9, v10, v11, v12, v13, v14, v15, v16, v17, v18, v19, v20, v21, v22, v23, v24, v25, v26, v27, v28, v29, v30, v31, v32, v33, v34, v35, v36, v37, v38, v39, v40, v41, v42, v43, v44, v45, v46, v47, v48, v49, v50, v51], []⟩ : Act).put (some 32) (.tuple #[])) (.inRegion ops6 [] :: [.code rest5])) [c3 #[.int .i64 p, u1, u2, u3, u4, u5, u6, u7, u8, u9, u10, u11, u12, u13, u14, u15, u16, u17, u18, u19, u20, u21, u22, u23, u24, u25, u26, u27, u28, u29, u30, u31, u32, u33, u34, u35, u36, u37, u38, u39, u40, u41, u42, u43]]) w := by
    intro w hF
    refine Goes.step rfl fun w₁ h₁ => ?_
    rw [stepG_region_end]
    refine ⟨T.idle _, ?_⟩
    exact goes_ret_in T Tryz.func5 (i := 1) (rest := [2]) rfl (hk5 v0 v1 v2 v3 v5 v6 v7 v8 v9 v10 v11 v12 v13 v14 v15 v16 v17 v18 v19 v20 v21 v22 v23 v24 v25 v26 v27 v28 v29 v30 v31 (.tuple #[]) v33 v34 v35 v36 v37 v38 v39 v40 v41 v42 v43 v44 v45 v46 v47 v48 v49 v50 v51 w₁ (FX.rely hC hF h₁)) fun v w' ⟨hv, hF⟩ => by subst hv; exact e3 w' hF
  refine ⟨(k3 + k3 + 2 + k5 + 1) + 2 + k9 + 1, ?_⟩
  intro T9 h9 h91 h93 w hF
  obtain ⟨x0, x1, x2, x3, x4, x5, x6, x7, x8, x9, x10, x11, x12, x13, x14, x15, x16, x17, x18, x19, x20, x21, x22, x23, x24, x25, x26, x27, x28, x29, x30, x31, x32, x33, x34, x35, rfl⟩ := array36 T9 h9
  simp only [List.getElem?_toArray, List.getElem?_cons_succ, List.getElem?_cons_zero, Option.some.injEq] at h91 h93
  subst h91 h93
  refine Goes.step rfl fun w₁ h₁ => ?_
  rw [stepG_region_end]
  refine ⟨T.idle _, ?_⟩
  exact goes_ret_in T Tryz.func9 (i := 1) (rest := []) rfl (hk9 x0 x2 x4 x5 x6 x7 x8 x9 x10 x11 x12 x13 x14 x15 x16 x17 x18 x19 x20 x21 x22 x23 x24 x25 (.tuple #[]) x27 x28 x29 x30 x31 x32 x33 x34 x35 w₁ (FX.rely hC (hF.fx m) h₁)) fun v w' ⟨hv, hF⟩ => by subst hv; exact e5 w' hF

/-- AT THE HEAD OF Wait's LOOP. -/
theorem anW_round (m : Mem9 N A C p Wd Pg M c4 w₀) (hp1 : 1 ≤ p) (hp : p ≤ 4096) (T5 T3 : Array Value) (h5 : T5.size = 52) (h54 : T5[4]? = some (pa A)) (h3 : T3.size = 44) (h30 : T3[0]? = some (.int .i64 p)) (vals : List Value) (g : Goroutine) (w : World)
    (h : AnW N C w₀ [c5 T5, c3 T3] g w) : ∃ k, Goes Tryz.prog true (RP N C) (DPx N) (AtW1 Tryz.prog 87 (N + 1) C 4 (Own N) (Rd N) (N + 5) vals (AnW N C w₀ [c5 T5, c3 T3]) (fun v w' => v = .bool true ∧ FX N C w₀ [] w')) k g w := by
  obtain ⟨T, hT, t1, t3, hA⟩ := h
  obtain ⟨mT, hm⟩ := afterWait m hp1 hp T5 T3 h5 h54 h3 h30 vals
  obtain ⟨k, hk⟩ := waitRoundN (L := link) (P := Tryz.prog) wgLib (C := C) (n := 4) (Low := N + 5) (Own := Own N) (Rd := Rd N) (vals := vals) (Post := fun v w' => v = .bool true ∧ FX N C w₀ [] w') (b₀ := base 9) (a₀ := ⟨T, []⟩) (ops₀ := ops15) (i₀ := 0) (rest₀ := []) (k₀ := [.code tail15]) (cs := [c5 T5, c3 T3]) (mT := mT) fp2 (fun w h1 _ => hm T hT t1 t3 w h1) g w hA
  exact ⟨k, goes_mono (fun _ _ y => AtW1.mono (fun _ _ z => ⟨T, hT, t1, t3, z⟩) y) hk⟩
theorem anW_running (T5 T3 : Array Value) (g : Goroutine) (w : World) (h : AnW N C w₀ [c5 T5, c3 T3] g w) : g.status = .running := by
  obtain ⟨_, _, _, _, _, hg, _⟩ := h
  rw [hg]
  rfl
end
end Go.Proofs.YtpejmgellidhbaaGreatDoor
