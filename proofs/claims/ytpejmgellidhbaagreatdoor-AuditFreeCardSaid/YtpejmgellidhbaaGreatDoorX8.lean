/-
  Check (f5), behind words: pages, free, SortFunc, Compact; nothing is found. PRINTED BY A PROGRAM (gen_x8.py).
-/
import Derived.Test.YtpejmgellidhbaaGreatDoorX7
set_option linter.all false
set_option linter.unusedSimpArgs false
namespace Go.Proofs.YtpejmgellidhbaaGreatDoor
open Go Go.Proofs Go.Conc Go.ConcN Go.RowKit Go.Conc.Lib Go.ConcR.Gen Go.ConcN.Gen
open Go.ConcR (KK wgBlock WgAt stA smA rd wr mk Payload Aside2 DC0 ofEvent_cell)

theorem CallsC.more {P : Program} {main : Bool} {R : World → World → Prop} {D : World → World → Array Event → Prop} {f : FuncId} {args : Array Value} {n n' : Nat} {w : World} {Post : Value → World → Prop}
    (h : CallsC P main R D f args n w Post) (hn : n ≤ n') : CallsC P main R D f args n' w Post := by
  obtain ⟨fn, c, h1, h2, h3, h4⟩ := h
  exact ⟨fn, c, h1, h2, h3, wpC_more h4 hn⟩

noncomputable def body5 : Code := Tryz.f5.body.getD .skip
noncomputable def ops6 : Array Oper := match body5 with | .seq _ (.seq _ (.seq _ (.seq _ (.seq _ (.seq (.region _ ops _) _))))) => ops | _ => #[]
noncomputable def rest5 : Code := match body5 with | .seq _ (.seq _ (.seq _ (.seq _ (.seq _ (.seq _ r))))) => r | _ => .skip
noncomputable def L5 : Code := match rest5 with | .seq _ (.seq (.seq _ (.block _ (.loop c))) _) => c | _ => .skip
def TL5 (A i : Nat) (v0 v1 v2 v3 v5 v6 v7 v8 v9 v10 v11 v12 v13 v14 v15 v16 v17 v18 v19 v20 v21 v22 v23 v24 v25 v26 v27 v28 v29 v30 v31 v32 v33 v34 v36 v37 v38 v39 v40 v41 v42 v43 v44 v45 v46 v47 v48 v49 v50 v51 : Value) : Array Value := #[v0, v1, v2, v3, pa A, v5, v6, v7, v8, v9, v10, v11, v12, v13, v14, v15, v16, v17, v18, v19, v20, v21, v22, v23, v24, v25, v26, v27, v28, v29, v30, v31, v32, v33, v34, .int .i64 i, v36, v37, v38, v39, v40, v41, v42, v43, v44, v45, v46, v47, v48, v49, v50, v51]
def mu5 (a : Act) (_ : World) : Nat := match (a.tmps[35]? : Option Value) with | some (Value.int _ n) => 8 - n.toNat | _ => 0

section
variable {N A C p Wd Pg M : Nat} {c4 : Array Value} {w₀ w : World} {l : List (Nat × Obj)}
theorem Mem9.aFound (m : Mem9 N A C p Wd Pg M c4 w₀) (h : FX N C w₀ l w) : w.cell? ⟨A, 16, none⟩ = some (.slice none 0 0) :=
  (h.cell (by have := m.ltA; omega) (by have := m.ltA; omega) (by have := m.ltA; omega) m.neA 16).trans (by simp [World.cell?, m.aud, audC])

theorem free_all (m : Mem9 N A C p Wd Pg M c4 w₀) (hp : p ≤ 4096) : ∀ n : Nat, n ≤ 8 → ∃ k, ∀ c : Nat, c < n → ∀ w : World, FX N C w₀ [] w →
    CallsC Tryz.prog true (RP N C) (DPx N) 11 #[pa A, .int .i64 c] k w fun v w' => v = .tuple #[] ∧ FX N C w₀ [] w' := by
  intro n
  induction n with
  | zero => exact fun _ => ⟨0, fun c hc => by omega⟩
  | succ n ih =>
    intro hn
    obtain ⟨k, hk⟩ := ih (by omega)
    obtain ⟨k', hk'⟩ := free_c m hp n (by omega)
    refine ⟨k + k', fun c hc w hF => ?_⟩
    by_cases h : c = n
    · subst h; exact CallsC.more (hk' w hF) (by omega)
    · exact CallsC.more (hk c (by omega) w hF) (by omega)

def Q5 (N C : Nat) (w₀ : World) (A i : Nat) (e : Exit) (a : Act) (w : World) : Prop :=
  ((e = .normal ∧ i < 8 ∧ ∃ v0 v1 v2 v3 v5 v6 v7 v8 v9 v10 v11 v12 v13 v14 v15 v16 v17 v18 v19 v20 v21 v22 v23 v24 v25 v26 v27 v28 v29 v30 v31 v32 v33 v34 v36 v37 v38 v39 v40 v41 v42 v43 v44 v45 v46 v47 v48 v49 v50 v51, a = ⟨TL5 A (i + 1) v0 v1 v2 v3 v5 v6 v7 v8 v9 v10 v11 v12 v13 v14 v15 v16 v17 v18 v19 v20 v21 v22 v23 v24 v25 v26 v27 v28 v29 v30 v31 v32 v33 v34 v36 v37 v38 v39 v40 v41 v42 v43 v44 v45 v46 v47 v48 v49 v50 v51, []⟩) ∨ (e = .exit 0 ∧ i = 8 ∧ ∃ v0 v1 v2 v3 v5 v6 v7 v8 v9 v10 v11 v12 v13 v14 v15 v16 v17 v18 v19 v20 v21 v22 v23 v24 v25 v26 v27 v28 v29 v30 v31 v32 v33 v34 v36 v37 v38 v39 v40 v41 v42 v43 v44 v45 v46 v47 v48 v49 v50 v51, a = ⟨TL5 A i v0 v1 v2 v3 v5 v6 v7 v8 v9 v10 v11 v12 v13 v14 v15 v16 v17 v18 v19 v20 v21 v22 v23 v24 v25 v26 v27 v28 v29 v30 v31 v32 v33 v34 v36 v37 v38 v39 v40 v41 v42 v43 v44 v45 v46 v47 v48 v49 v50 v51, []⟩)) ∧ FX N C w₀ [] w

set_option maxRecDepth 100000 in
set_option maxHeartbeats 4000000 in
theorem round5 (m : Mem9 N A C p Wd Pg M c4 w₀) (hp : p ≤ 4096) : ∃ k, ∀ i : Nat, i ≤ 8 → ∀ v0 v1 v2 v3 v5 v6 v7 v8 v9 v10 v11 v12 v13 v14 v15 v16 v17 v18 v19 v20 v21 v22 v23 v24 v25 v26 v27 v28 v29 v30 v31 v32 v33 v34 v36 v37 v38 v39 v40 v41 v42 v43 v44 v45 v46 v47 v48 v49 v50 v51 w, FX N C w₀ [] w →
    L5.wpC Tryz.prog true (RP N C) (DPx N) 5 k (Q5 N C w₀ A i) ⟨TL5 A i v0 v1 v2 v3 v5 v6 v7 v8 v9 v10 v11 v12 v13 v14 v15 v16 v17 v18 v19 v20 v21 v22 v23 v24 v25 v26 v27 v28 v29 v30 v31 v32 v33 v34 v36 v37 v38 v39 v40 v41 v42 v43 v44 v45 v46 v47 v48 v49 v50 v51, []⟩ w := by
  have hC := m.ltC
  have hA := m.ltA
  obtain ⟨kf, hf⟩ := free_all m hp 8 (Nat.le_refl _)
  co_apply Exists.intro
  intro i hi v0 v1 v2 v3 v5 v6 v7 v8 v9 v10 v11 v12 v13 v14 v15 v16 v17 v18 v19 v20 v21 v22 v23 v24 v25 v26 v27 v28 v29 v30 v31 v32 v33 v34 v36 v37 v38 v39 v40 v41 v42 v43 v44 v45 v46 v47 v48 v49 v50 v51 w hF
  simp only [L5, rest5, body5, Tryz.f5, Option.getD_some, TL5]
  co_apply wpC_seq (termsP N C)
  co_reg (termsP N C)
  co_op (FX.rely hC) hF (co_quiet (termsP N C))
  co_apply opsC_nil (termsP N C)
  co_then
  co_apply wpC_seq (termsP N C)
  co_split (termsP N C) (decide ((i : Int) < 8))
  · intro ht
    have hlt : i < 8 := by have := of_decide_eq_true ht; omega
    co_ctl (termsP N C)
    co_then
    co_apply wpC_seq (termsP N C)
    co_apply wpC_block (termsP N C)
    co_apply wpC_seq (termsP N C)
    co_reg (termsP N C)
    co_op (FX.rely hC) hF (co_quiet (termsP N C))
    co_op (FX.rely hC) hF (co_quiet (termsP N C))
    co_apply opsC_nil (termsP N C)
    co_then
    co_reg (termsP N C)
    co_op (FX.rely hC) hF (co_quiet (termsP N C))
    co_op (FX.rely hC) hF (co_quiet (termsP N C))
    co_apply opsC_callv (termsP N C) (nf := kf) (by rfl) (by rfl) (by rfl) (by kernel_rfl) (hf i hlt _ hF)
    clear hF
    rintro v w' ⟨rfl, hF⟩
    walk_nrm
    co_apply opsC_nil (termsP N C)
    co_then
    have hw1 : IntKind.i64.wrap ((i : Int) + 1) = ((i + 1 : Nat) : Int) := by rw [IntKind.wrap_i64]; omega
    co_reg (termsP N C)
    co_op (FX.rely hC) hF (co_quiet (termsP N C))
    co_op (FX.rely hC) hF (co_quiet (termsP N C))
    co_apply opsC_nil (termsP N C)
    exact ⟨.inl ⟨rfl, hlt, _, _, _, _, _, _, _, _, _, _, _, _, _, _, _, _, _, _, _, _, _, _, _, _, _, _, _, _, _, _, _, _, _, _, _, _, _, _, _, _, _, _, _, _, _, _, _, _, _, _, rfl⟩, hF⟩
  · intro hf
    co_ctl (termsP N C)
    co_then
    exact ⟨.inr ⟨rfl, by have := of_decide_eq_false hf; omega, _, _, _, _, _, _, _, _, _, _, _, _, _, _, _, _, _, _, _, _, _, _, _, _, _, _, _, _, _, _, _, _, _, _, _, _, _, _, _, _, _, _, _, _, _, _, _, _, _, _, rfl⟩, hF⟩

set_option maxRecDepth 100000 in
set_option maxHeartbeats 4000000 in
theorem check_end (m : Mem9 N A C p Wd Pg M c4 w₀) (hp : p ≤ 4096) : ∃ k, ∀ v0 v1 v2 v3 v5 v6 v7 v8 v9 v10 v11 v12 v13 v14 v15 v16 v17 v18 v19 v20 v21 v22 v23 v24 v25 v26 v27 v28 v29 v30 v31 v32 v33 v34 v35 v36 v37 v38 v39 v40 v41 v42 v43 v44 v45 v46 v47 v48 v49 v50 v51 w, FX N C w₀ [] w →
    rest5.wpC Tryz.prog true (RP N C) (DPx N) 5 k (bodyPostC Tryz.prog Tryz.f5 fun v w' => v = .slice none 0 0 ∧ FX N C w₀ [] w') ⟨#[v0, v1, v2, v3, pa A, v5, v6, v7, v8, v9, v10, v11, v12, v13, v14, v15, v16, v17, v18, v19, v20, v21, v22, v23, v24, v25, v26, v27, v28, v29, v30, v31, v32, v33, v34, v35, v36, v37, v38, v39, v40, v41, v42, v43, v44, v45, v46, v47, v48, v49, v50, v51], []⟩ w := by
  have hC := m.ltC
  have hA := m.ltA
  obtain ⟨k10, hp10⟩ := pages_c m hp
  obtain ⟨r5, hr5⟩ := round5 m hp
  obtain ⟨ks, hs⟩ := fn12_c (w₀ := w₀) hC
  obtain ⟨kc, hc16⟩ := fn16_c (w₀ := w₀) hC
  simp only [L5, rest5, body5, Tryz.f5, Option.getD_some] at hr5
  co_apply Exists.intro
  intro v0 v1 v2 v3 v5 v6 v7 v8 v9 v10 v11 v12 v13 v14 v15 v16 v17 v18 v19 v20 v21 v22 v23 v24 v25 v26 v27 v28 v29 v30 v31 v32 v33 v34 v35 v36 v37 v38 v39 v40 v41 v42 v43 v44 v45 v46 v47 v48 v49 v50 v51 w hF
  simp only [rest5, body5, Tryz.f5, Option.getD_some]
  co_apply wpC_seq (termsP N C)
  co_reg (termsP N C)
  co_op (FX.rely hC) hF (co_quiet (termsP N C))
  co_apply opsC_callv (termsP N C) (nf := k10) (by rfl) (by rfl) (by rfl) (by kernel_rfl) (hp10 _ hF)
  clear hF
  rintro v w' ⟨rfl, hF⟩
  walk_nrm
  co_apply opsC_nil (termsP N C)
  co_then
  co_apply wpC_seq (termsP N C)
  co_apply wpC_seq (termsP N C)
  co_reg (termsP N C)
  co_op (FX.rely hC) hF (co_quiet (termsP N C))
  co_apply opsC_nil (termsP N C)
  co_then
  co_apply wpC_block (termsP N C)
  co_apply wpC_loop (termsP N C) (fun a w => ∃ i, i ≤ 8 ∧ (∃ v0 v1 v2 v3 v5 v6 v7 v8 v9 v10 v11 v12 v13 v14 v15 v16 v17 v18 v19 v20 v21 v22 v23 v24 v25 v26 v27 v28 v29 v30 v31 v32 v33 v34 v36 v37 v38 v39 v40 v41 v42 v43 v44 v45 v46 v47 v48 v49 v50 v51, a = ⟨TL5 A i v0 v1 v2 v3 v5 v6 v7 v8 v9 v10 v11 v12 v13 v14 v15 v16 v17 v18 v19 v20 v21 v22 v23 v24 v25 v26 v27 v28 v29 v30 v31 v32 v33 v34 v36 v37 v38 v39 v40 v41 v42 v43 v44 v45 v46 v47 v48 v49 v50 v51, []⟩) ∧ FX N C w₀ [] w) mu5 r5 8
  · exact ⟨0, by omega, ⟨_, _, _, _, _, _, _, _, _, _, _, _, _, _, _, _, _, _, _, _, _, _, _, _, _, _, _, _, _, _, _, _, _, _, _, _, _, _, _, _, _, _, _, _, _, _, _, _, _, _, rfl⟩, hF⟩
  · simp [mu5]
  rintro a w ⟨i, hi, ⟨v0, v1, v2, v3, v5, v6, v7, v8, v9, v10, v11, v12, v13, v14, v15, v16, v17, v18, v19, v20, v21, v22, v23, v24, v25, v26, v27, v28, v29, v30, v31, v32, v33, v34, v36, v37, v38, v39, v40, v41, v42, v43, v44, v45, v46, v47, v48, v49, v50, v51, rfl⟩, hF⟩
  refine wpC_mono (hr5 i hi v0 v1 v2 v3 v5 v6 v7 v8 v9 v10 v11 v12 v13 v14 v15 v16 v17 v18 v19 v20 v21 v22 v23 v24 v25 v26 v27 v28 v29 v30 v31 v32 v33 v34 v36 v37 v38 v39 v40 v41 v42 v43 v44 v45 v46 v47 v48 v49 v50 v51 w hF) ?_
  rintro e a' w' ⟨⟨rfl, hlt, u0, u1, u2, u3, u5, u6, u7, u8, u9, u10, u11, u12, u13, u14, u15, u16, u17, u18, u19, u20, u21, u22, u23, u24, u25, u26, u27, u28, u29, u30, u31, u32, u33, u34, u36, u37, u38, u39, u40, u41, u42, u43, u44, u45, u46, u47, u48, u49, u50, u51, rfl⟩ | ⟨rfl, rfl, u0, u1, u2, u3, u5, u6, u7, u8, u9, u10, u11, u12, u13, u14, u15, u16, u17, u18, u19, u20, u21, u22, u23, u24, u25, u26, u27, u28, u29, u30, u31, u32, u33, u34, u36, u37, u38, u39, u40, u41, u42, u43, u44, u45, u46, u47, u48, u49, u50, u51, rfl⟩, hF⟩
  · refine ⟨⟨i + 1, by omega, ⟨_, _, _, _, _, _, _, _, _, _, _, _, _, _, _, _, _, _, _, _, _, _, _, _, _, _, _, _, _, _, _, _, _, _, _, _, _, _, _, _, _, _, _, _, _, _, _, _, _, _, rfl⟩, hF⟩, ?_⟩
    simp only [mu5, TL5, List.getElem?_toArray, List.getElem?_cons_succ, List.getElem?_cons_zero]
    omega
  simp only [TL5]
  co_then
  co_apply wpC_seq (termsP N C)
  co_reg (termsP N C)
  co_op (FX.rely hC) hF (co_quiet (termsP N C))
  co_op (FX.rely hC) hF (co_quiet (termsP N C))
  co_op (FX.rely hC) hF (co_quiet (termsP N C))
  co_opw (FX.rely hC) hF (have hc := m.aFound hF) (refine ⟨fun _ _ => rfl, ?_⟩; co_evs (exact ev0_cell _ _ (by simp; omega)))
  clear hc
  co_apply opsC_callv (termsP N C) (nf := ks) (by rfl) (by rfl) (by rfl) (by kernel_rfl) (hs _ hF)
  clear hF
  rintro v w' ⟨rfl, hF⟩
  walk_nrm
  co_apply opsC_nil (termsP N C)
  co_then
  co_apply wpC_seq (termsP N C)
  co_reg (termsP N C)
  co_op (FX.rely hC) hF (co_quiet (termsP N C))
  co_op (FX.rely hC) hF (co_quiet (termsP N C))
  co_op (FX.rely hC) hF (co_quiet (termsP N C))
  co_opw (FX.rely hC) hF (have hc := m.aFound hF) (refine ⟨fun _ _ => rfl, ?_⟩; co_evs (exact ev0_cell _ _ (by simp; omega)))
  clear hc
  co_apply opsC_callv (termsP N C) (nf := kc) (by rfl) (by rfl) (by rfl) (by kernel_rfl) (hc16 _ hF)
  clear hF
  rintro v w' ⟨rfl, hF⟩
  walk_nrm
  co_op (FX.rely hC) hF (co_quiet (termsP N C))
  co_apply opsC_nil (termsP N C)
  co_then
  co_ctl (termsP N C)
  exact ⟨rfl, _, resultsC_tmp (by rfl) _, by simp, hF⟩

theorem array52 (T : Array Value) (h : T.size = 52) : ∃ v0 v1 v2 v3 v4 v5 v6 v7 v8 v9 v10 v11 v12 v13 v14 v15 v16 v17 v18 v19 v20 v21 v22 v23 v24 v25 v26 v27 v28 v29 v30 v31 v32 v33 v34 v35 v36 v37 v38 v39 v40 v41 v42 v43 v44 v45 v46 v47 v48 v49 v50 v51 : Value, T = #[v0, v1, v2, v3, v4, v5, v6, v7, v8, v9, v10, v11, v12, v13, v14, v15, v16, v17, v18, v19, v20, v21, v22, v23, v24, v25, v26, v27, v28, v29, v30, v31, v32, v33, v34, v35, v36, v37, v38, v39, v40, v41, v42, v43, v44, v45, v46, v47, v48, v49, v50, v51] := by
  obtain ⟨l⟩ := T
  simp only [List.size_toArray] at h
  rcases l with _ | ⟨v0, l⟩
  · simp at h
  rcases l with _ | ⟨v1, l⟩
  · simp at h
  rcases l with _ | ⟨v2, l⟩
  · simp at h
  rcases l with _ | ⟨v3, l⟩
  · simp at h
  rcases l with _ | ⟨v4, l⟩
  · simp at h
  rcases l with _ | ⟨v5, l⟩
  · simp at h
  rcases l with _ | ⟨v6, l⟩
  · simp at h
  rcases l with _ | ⟨v7, l⟩
  · simp at h
  rcases l with _ | ⟨v8, l⟩
  · simp at h
  rcases l with _ | ⟨v9, l⟩
  · simp at h
  rcases l with _ | ⟨v10, l⟩
  · simp at h
  rcases l with _ | ⟨v11, l⟩
  · simp at h
  rcases l with _ | ⟨v12, l⟩
  · simp at h
  rcases l with _ | ⟨v13, l⟩
  · simp at h
  rcases l with _ | ⟨v14, l⟩
  · simp at h
  rcases l with _ | ⟨v15, l⟩
  · simp at h
  rcases l with _ | ⟨v16, l⟩
  · simp at h
  rcases l with _ | ⟨v17, l⟩
  · simp at h
  rcases l with _ | ⟨v18, l⟩
  · simp at h
  rcases l with _ | ⟨v19, l⟩
  · simp at h
  rcases l with _ | ⟨v20, l⟩
  · simp at h
  rcases l with _ | ⟨v21, l⟩
  · simp at h
  rcases l with _ | ⟨v22, l⟩
  · simp at h
  rcases l with _ | ⟨v23, l⟩
  · simp at h
  rcases l with _ | ⟨v24, l⟩
  · simp at h
  rcases l with _ | ⟨v25, l⟩
  · simp at h
  rcases l with _ | ⟨v26, l⟩
  · simp at h
  rcases l with _ | ⟨v27, l⟩
  · simp at h
  rcases l with _ | ⟨v28, l⟩
  · simp at h
  rcases l with _ | ⟨v29, l⟩
  · simp at h
  rcases l with _ | ⟨v30, l⟩
  · simp at h
  rcases l with _ | ⟨v31, l⟩
  · simp at h
  rcases l with _ | ⟨v32, l⟩
  · simp at h
  rcases l with _ | ⟨v33, l⟩
  · simp at h
  rcases l with _ | ⟨v34, l⟩
  · simp at h
  rcases l with _ | ⟨v35, l⟩
  · simp at h
  rcases l with _ | ⟨v36, l⟩
  · simp at h
  rcases l with _ | ⟨v37, l⟩
  · simp at h
  rcases l with _ | ⟨v38, l⟩
  · simp at h
  rcases l with _ | ⟨v39, l⟩
  · simp at h
  rcases l with _ | ⟨v40, l⟩
  · simp at h
  rcases l with _ | ⟨v41, l⟩
  · simp at h
  rcases l with _ | ⟨v42, l⟩
  · simp at h
  rcases l with _ | ⟨v43, l⟩
  · simp at h
  rcases l with _ | ⟨v44, l⟩
  · simp at h
  rcases l with _ | ⟨v45, l⟩
  · simp at h
  rcases l with _ | ⟨v46, l⟩
  · simp at h
  rcases l with _ | ⟨v47, l⟩
  · simp at h
  rcases l with _ | ⟨v48, l⟩
  · simp at h
  rcases l with _ | ⟨v49, l⟩
  · simp at h
  rcases l with _ | ⟨v50, l⟩
  · simp at h
  rcases l with _ | ⟨v51, l⟩
  · simp at h
  rcases l with _ | ⟨x, l⟩
  · exact ⟨v0, v1, v2, v3, v4, v5, v6, v7, v8, v9, v10, v11, v12, v13, v14, v15, v16, v17, v18, v19, v20, v21, v22, v23, v24, v25, v26, v27, v28, v29, v30, v31, v32, v33, v34, v35, v36, v37, v38, v39, v40, v41, v42, v43, v44, v45, v46, v47, v48, v49, v50, v51, rfl⟩
  · simp at h
end
end Go.Proofs.YtpejmgellidhbaaGreatDoor
