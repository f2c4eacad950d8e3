/-
  words (f9), behind Wait: what is looked at; the end of words. PRINTED BY A PROGRAM (gen_x7.py).
-/
import Derived.Test.YtpejmgellidhbaaGreatDoorX6
set_option linter.all false
set_option linter.unusedSimpArgs false
namespace Go.Proofs.YtpejmgellidhbaaGreatDoor
open Go Go.Proofs Go.Conc Go.ConcN Go.RowKit Go.Conc.Lib Go.ConcR.Gen Go.ConcN.Gen
open Go.ConcR (KK wgBlock WgAt stA smA rd wr mk Payload Aside2 DC0 ofEvent_cell)

/-- Every order that a region can be taken in. -/
def lins (md : Region.Mode) (ops : Array Oper) : Nat → Array Bool → List (List Nat)
  | 0, _ => [[]]
  | fuel + 1, listed => if Region.ready md ops listed = [] then [[]] else (Region.ready md ops listed).flatMap fun i => (lins md ops fuel (listed.setIfInBounds i true)).map (i :: ·)

theorem lins_mem (md : Region.Mode) (ops : Array Oper) : ∀ (fuel t : Nat) (listed : Array Bool), Region.linearise.go md ops fuel t listed [] ∈ lins md ops fuel listed := by
  intro fuel
  induction fuel with
  | zero => intro t listed; simp [Region.linearise.go, lins]
  | succ fuel ih =>
    intro t listed
    simp only [Region.linearise.go]
    change (match (Region.ready md ops listed)[t % (Region.ready md ops listed).length]? with
      | some i => Region.linearise.go md ops fuel (t / (Region.ready md ops listed).length) (listed.setIfInBounds i true) [i]
      | none => [].reverse) ∈ lins md ops (fuel + 1) listed
    cases hi : (Region.ready md ops listed)[t % (Region.ready md ops listed).length]? with
    | none =>
      have hnil : Region.ready md ops listed = [] := by
        cases hr : Region.ready md ops listed with
        | nil => rfl
        | cons x xs =>
          rw [hr] at hi
          have hlt : t % (x :: xs).length < (x :: xs).length := Nat.mod_lt _ (by simp)
          simp at hi
          simp at hlt
          omega
      simp [lins, hnil]
    | some i =>
      have hm := List.mem_of_getElem? hi
      have hne : Region.ready md ops listed ≠ [] := fun e => by rw [e] at hm; simp at hm
      simp only [lins, hne, if_false]
      rw [linearise_go_acc, List.reverse_singleton, List.singleton_append, List.mem_flatMap]
      exact ⟨i, hm, List.mem_map.2 ⟨_, ih _ _, rfl⟩⟩

theorem opsC_mono {P : Program} {main : Bool} {R : World → World → Prop} {D : World → World → Array Event → Prop} {fn : FuncId} {Q Q' : Exit → Act → World → Prop} {a : Act} {w : World} {ops : Array Oper} {todo : List Nat} {n : Nat}
    (h : OpsC P main R D fn ops todo n Q a w) (hq : ∀ e a w, Q e a w → Q' e a w) : OpsC P main R D fn ops todo n Q' a w := fun b k cs Stop m hb hk hc => h b k cs Stop m hb hk fun e a' w' q => hc e a' w' (hq e a' w' q)

section
variable {N A C p Wd Pg M : Nat} {c4 : Array Value} {w₀ w : World} {l : List (Nat × Obj)}
theorem Mem9.xbox (m : Mem9 N A C p Wd Pg M c4 w₀) (h : FX N C w₀ l w) : w.cell? ⟨N, 0, none⟩ = some (pa A) :=
  (h.cell (by omega) (by omega) (by omega) (by have := m.ltC; omega) 0).trans (by simp [World.cell?, m.box])
theorem Mem9.clooked (m : Mem9 N A C p Wd Pg M c4 w₀) : w₀.cell? ⟨N + 2, 0, none⟩ = some (.int .i64 0) := by simp [World.cell?, m.looked]

noncomputable def ops16 : Array Oper := match tail15 with | .seq (.region _ ops _) _ => ops | _ => #[]
theorem orders16 (t : Nat) : Region.schedule (Tryz.prog.follows .mixedOrders) ops16 t ∈ ([[0, 1, 2, 3, 4, 5, 6], [1, 0, 2, 3, 4, 5, 6], [1, 2, 0, 3, 4, 5, 6], [1, 2, 3, 0, 4, 5, 6], [1, 2, 3, 4, 0, 5, 6], [1, 2, 3, 4, 5, 0, 6]] : List (List Nat)) := by
  have h1 : Tryz.prog.follows .mixedOrders = true := by kernel_rfl
  have h2 := lins_mem .any ops16 ops16.size t (Array.replicate ops16.size false)
  have h3 : lins .any ops16 ops16.size (Array.replicate ops16.size false) = [[0, 1, 2, 3, 4, 5, 6], [1, 0, 2, 3, 4, 5, 6], [1, 2, 0, 3, 4, 5, 6], [1, 2, 3, 0, 4, 5, 6], [1, 2, 3, 4, 0, 5, 6], [1, 2, 3, 4, 5, 0, 6]] := by kernel_rfl
  simp only [Region.schedule, h1, Bool.true_or, if_true, Region.linearise]
  rw [h3] at h2
  exact h2
/-- Behind the region. -/
def Q16 (N C : Nat) (w₀ : World) (e : Exit) (a : Act) (w : World) : Prop := e = .normal ∧ a.eval (.tmp 33) = .bool false ∧ a.defers = [] ∧ FX N C w₀ [] w

set_option maxRecDepth 100000 in
theorem order16_0 (m : Mem9 N A C p Wd Pg M c4 w₀) : ∃ k, ∀ v0 v2 v4 v5 v6 v7 v8 v9 v10 v11 v12 v13 v14 v15 v16 v17 v18 v19 v20 v21 v22 v23 v24 v25 v26 v27 v28 v29 v30 v31 v32 v33 v34 v35 w, FX N C w₀ [] w → OpsC Tryz.prog true (RP N C) (DPx N) 9 ops16 [0, 1, 2, 3, 4, 5, 6] k (Q16 N C w₀) ⟨#[v0, pa N, v2, pa (N + 2), v4, v5, v6, v7, v8, v9, v10, v11, v12, v13, v14, v15, v16, v17, v18, v19, v20, v21, v22, v23, v24, v25, v26, v27, v28, v29, v30, v31, v32, v33, v34, v35], []⟩ w := by
  have hC := m.ltC
  have hA := m.ltA
  obtain ⟨kl, hl⟩ := load_c (l := []) hC m.clooked
  co_apply Exists.intro
  intro v0 v2 v4 v5 v6 v7 v8 v9 v10 v11 v12 v13 v14 v15 v16 v17 v18 v19 v20 v21 v22 v23 v24 v25 v26 v27 v28 v29 v30 v31 v32 v33 v34 v35 w hF
  simp only [ops16, tail15, R9, body9, Tryz.f9, Option.getD_some]
  co_apply opsC_callv (termsP N C) (nf := kl) (by rfl) (by rfl) (by rfl) (by kernel_rfl) (hl _ hF)
  clear hF
  rintro v w' ⟨rfl, hF⟩
  walk_nrm
  co_opw (FX.rely hC) hF (have hc := m.xbox hF) (refine ⟨fun _ _ => rfl, ?_⟩; co_evs (exact ev0_cell _ _ (by simp)))
  clear hc
  co_op (FX.rely hC) hF (co_quiet (termsP N C))
  co_op (FX.rely hC) hF (co_quiet (termsP N C))
  co_opw (FX.rely hC) hF (have hc := m.aPlaces hF) (refine ⟨fun _ _ => rfl, ?_⟩; co_evs (exact ev0_cell _ _ (by simp; omega)))
  clear hc
  co_op (FX.rely hC) hF (co_quiet (termsP N C))
  co_opw (FX.rely hC) hF (skip) (co_still (termsP N C))
  co_apply opsC_nil (termsP N C)
  exact ⟨rfl, rfl, rfl, hF⟩

set_option maxRecDepth 100000 in
theorem order16_1 (m : Mem9 N A C p Wd Pg M c4 w₀) : ∃ k, ∀ v0 v2 v4 v5 v6 v7 v8 v9 v10 v11 v12 v13 v14 v15 v16 v17 v18 v19 v20 v21 v22 v23 v24 v25 v26 v27 v28 v29 v30 v31 v32 v33 v34 v35 w, FX N C w₀ [] w → OpsC Tryz.prog true (RP N C) (DPx N) 9 ops16 [1, 0, 2, 3, 4, 5, 6] k (Q16 N C w₀) ⟨#[v0, pa N, v2, pa (N + 2), v4, v5, v6, v7, v8, v9, v10, v11, v12, v13, v14, v15, v16, v17, v18, v19, v20, v21, v22, v23, v24, v25, v26, v27, v28, v29, v30, v31, v32, v33, v34, v35], []⟩ w := by
  have hC := m.ltC
  have hA := m.ltA
  obtain ⟨kl, hl⟩ := load_c (l := []) hC m.clooked
  co_apply Exists.intro
  intro v0 v2 v4 v5 v6 v7 v8 v9 v10 v11 v12 v13 v14 v15 v16 v17 v18 v19 v20 v21 v22 v23 v24 v25 v26 v27 v28 v29 v30 v31 v32 v33 v34 v35 w hF
  simp only [ops16, tail15, R9, body9, Tryz.f9, Option.getD_some]
  co_opw (FX.rely hC) hF (have hc := m.xbox hF) (refine ⟨fun _ _ => rfl, ?_⟩; co_evs (exact ev0_cell _ _ (by simp)))
  clear hc
  co_apply opsC_callv (termsP N C) (nf := kl) (by rfl) (by rfl) (by rfl) (by kernel_rfl) (hl _ hF)
  clear hF
  rintro v w' ⟨rfl, hF⟩
  walk_nrm
  co_op (FX.rely hC) hF (co_quiet (termsP N C))
  co_op (FX.rely hC) hF (co_quiet (termsP N C))
  co_opw (FX.rely hC) hF (have hc := m.aPlaces hF) (refine ⟨fun _ _ => rfl, ?_⟩; co_evs (exact ev0_cell _ _ (by simp; omega)))
  clear hc
  co_op (FX.rely hC) hF (co_quiet (termsP N C))
  co_opw (FX.rely hC) hF (skip) (co_still (termsP N C))
  co_apply opsC_nil (termsP N C)
  exact ⟨rfl, rfl, rfl, hF⟩

set_option maxRecDepth 100000 in
theorem order16_2 (m : Mem9 N A C p Wd Pg M c4 w₀) : ∃ k, ∀ v0 v2 v4 v5 v6 v7 v8 v9 v10 v11 v12 v13 v14 v15 v16 v17 v18 v19 v20 v21 v22 v23 v24 v25 v26 v27 v28 v29 v30 v31 v32 v33 v34 v35 w, FX N C w₀ [] w → OpsC Tryz.prog true (RP N C) (DPx N) 9 ops16 [1, 2, 0, 3, 4, 5, 6] k (Q16 N C w₀) ⟨#[v0, pa N, v2, pa (N + 2), v4, v5, v6, v7, v8, v9, v10, v11, v12, v13, v14, v15, v16, v17, v18, v19, v20, v21, v22, v23, v24, v25, v26, v27, v28, v29, v30, v31, v32, v33, v34, v35], []⟩ w := by
  have hC := m.ltC
  have hA := m.ltA
  obtain ⟨kl, hl⟩ := load_c (l := []) hC m.clooked
  co_apply Exists.intro
  intro v0 v2 v4 v5 v6 v7 v8 v9 v10 v11 v12 v13 v14 v15 v16 v17 v18 v19 v20 v21 v22 v23 v24 v25 v26 v27 v28 v29 v30 v31 v32 v33 v34 v35 w hF
  simp only [ops16, tail15, R9, body9, Tryz.f9, Option.getD_some]
  co_opw (FX.rely hC) hF (have hc := m.xbox hF) (refine ⟨fun _ _ => rfl, ?_⟩; co_evs (exact ev0_cell _ _ (by simp)))
  clear hc
  co_op (FX.rely hC) hF (co_quiet (termsP N C))
  co_apply opsC_callv (termsP N C) (nf := kl) (by rfl) (by rfl) (by rfl) (by kernel_rfl) (hl _ hF)
  clear hF
  rintro v w' ⟨rfl, hF⟩
  walk_nrm
  co_op (FX.rely hC) hF (co_quiet (termsP N C))
  co_opw (FX.rely hC) hF (have hc := m.aPlaces hF) (refine ⟨fun _ _ => rfl, ?_⟩; co_evs (exact ev0_cell _ _ (by simp; omega)))
  clear hc
  co_op (FX.rely hC) hF (co_quiet (termsP N C))
  co_opw (FX.rely hC) hF (skip) (co_still (termsP N C))
  co_apply opsC_nil (termsP N C)
  exact ⟨rfl, rfl, rfl, hF⟩

set_option maxRecDepth 100000 in
theorem order16_3 (m : Mem9 N A C p Wd Pg M c4 w₀) : ∃ k, ∀ v0 v2 v4 v5 v6 v7 v8 v9 v10 v11 v12 v13 v14 v15 v16 v17 v18 v19 v20 v21 v22 v23 v24 v25 v26 v27 v28 v29 v30 v31 v32 v33 v34 v35 w, FX N C w₀ [] w → OpsC Tryz.prog true (RP N C) (DPx N) 9 ops16 [1, 2, 3, 0, 4, 5, 6] k (Q16 N C w₀) ⟨#[v0, pa N, v2, pa (N + 2), v4, v5, v6, v7, v8, v9, v10, v11, v12, v13, v14, v15, v16, v17, v18, v19, v20, v21, v22, v23, v24, v25, v26, v27, v28, v29, v30, v31, v32, v33, v34, v35], []⟩ w := by
  have hC := m.ltC
  have hA := m.ltA
  obtain ⟨kl, hl⟩ := load_c (l := []) hC m.clooked
  co_apply Exists.intro
  intro v0 v2 v4 v5 v6 v7 v8 v9 v10 v11 v12 v13 v14 v15 v16 v17 v18 v19 v20 v21 v22 v23 v24 v25 v26 v27 v28 v29 v30 v31 v32 v33 v34 v35 w hF
  simp only [ops16, tail15, R9, body9, Tryz.f9, Option.getD_some]
  co_opw (FX.rely hC) hF (have hc := m.xbox hF) (refine ⟨fun _ _ => rfl, ?_⟩; co_evs (exact ev0_cell _ _ (by simp)))
  clear hc
  co_op (FX.rely hC) hF (co_quiet (termsP N C))
  co_op (FX.rely hC) hF (co_quiet (termsP N C))
  co_apply opsC_callv (termsP N C) (nf := kl) (by rfl) (by rfl) (by rfl) (by kernel_rfl) (hl _ hF)
  clear hF
  rintro v w' ⟨rfl, hF⟩
  walk_nrm
  co_opw (FX.rely hC) hF (have hc := m.aPlaces hF) (refine ⟨fun _ _ => rfl, ?_⟩; co_evs (exact ev0_cell _ _ (by simp; omega)))
  clear hc
  co_op (FX.rely hC) hF (co_quiet (termsP N C))
  co_opw (FX.rely hC) hF (skip) (co_still (termsP N C))
  co_apply opsC_nil (termsP N C)
  exact ⟨rfl, rfl, rfl, hF⟩

set_option maxRecDepth 100000 in
theorem order16_4 (m : Mem9 N A C p Wd Pg M c4 w₀) : ∃ k, ∀ v0 v2 v4 v5 v6 v7 v8 v9 v10 v11 v12 v13 v14 v15 v16 v17 v18 v19 v20 v21 v22 v23 v24 v25 v26 v27 v28 v29 v30 v31 v32 v33 v34 v35 w, FX N C w₀ [] w → OpsC Tryz.prog true (RP N C) (DPx N) 9 ops16 [1, 2, 3, 4, 0, 5, 6] k (Q16 N C w₀) ⟨#[v0, pa N, v2, pa (N + 2), v4, v5, v6, v7, v8, v9, v10, v11, v12, v13, v14, v15, v16, v17, v18, v19, v20, v21, v22, v23, v24, v25, v26, v27, v28, v29, v30, v31, v32, v33, v34, v35], []⟩ w := by
  have hC := m.ltC
  have hA := m.ltA
  obtain ⟨kl, hl⟩ := load_c (l := []) hC m.clooked
  co_apply Exists.intro
  intro v0 v2 v4 v5 v6 v7 v8 v9 v10 v11 v12 v13 v14 v15 v16 v17 v18 v19 v20 v21 v22 v23 v24 v25 v26 v27 v28 v29 v30 v31 v32 v33 v34 v35 w hF
  simp only [ops16, tail15, R9, body9, Tryz.f9, Option.getD_some]
  co_opw (FX.rely hC) hF (have hc := m.xbox hF) (refine ⟨fun _ _ => rfl, ?_⟩; co_evs (exact ev0_cell _ _ (by simp)))
  clear hc
  co_op (FX.rely hC) hF (co_quiet (termsP N C))
  co_op (FX.rely hC) hF (co_quiet (termsP N C))
  co_opw (FX.rely hC) hF (have hc := m.aPlaces hF) (refine ⟨fun _ _ => rfl, ?_⟩; co_evs (exact ev0_cell _ _ (by simp; omega)))
  clear hc
  co_apply opsC_callv (termsP N C) (nf := kl) (by rfl) (by rfl) (by rfl) (by kernel_rfl) (hl _ hF)
  clear hF
  rintro v w' ⟨rfl, hF⟩
  walk_nrm
  co_op (FX.rely hC) hF (co_quiet (termsP N C))
  co_opw (FX.rely hC) hF (skip) (co_still (termsP N C))
  co_apply opsC_nil (termsP N C)
  exact ⟨rfl, rfl, rfl, hF⟩

set_option maxRecDepth 100000 in
theorem order16_5 (m : Mem9 N A C p Wd Pg M c4 w₀) : ∃ k, ∀ v0 v2 v4 v5 v6 v7 v8 v9 v10 v11 v12 v13 v14 v15 v16 v17 v18 v19 v20 v21 v22 v23 v24 v25 v26 v27 v28 v29 v30 v31 v32 v33 v34 v35 w, FX N C w₀ [] w → OpsC Tryz.prog true (RP N C) (DPx N) 9 ops16 [1, 2, 3, 4, 5, 0, 6] k (Q16 N C w₀) ⟨#[v0, pa N, v2, pa (N + 2), v4, v5, v6, v7, v8, v9, v10, v11, v12, v13, v14, v15, v16, v17, v18, v19, v20, v21, v22, v23, v24, v25, v26, v27, v28, v29, v30, v31, v32, v33, v34, v35], []⟩ w := by
  have hC := m.ltC
  have hA := m.ltA
  obtain ⟨kl, hl⟩ := load_c (l := []) hC m.clooked
  co_apply Exists.intro
  intro v0 v2 v4 v5 v6 v7 v8 v9 v10 v11 v12 v13 v14 v15 v16 v17 v18 v19 v20 v21 v22 v23 v24 v25 v26 v27 v28 v29 v30 v31 v32 v33 v34 v35 w hF
  simp only [ops16, tail15, R9, body9, Tryz.f9, Option.getD_some]
  co_opw (FX.rely hC) hF (have hc := m.xbox hF) (refine ⟨fun _ _ => rfl, ?_⟩; co_evs (exact ev0_cell _ _ (by simp)))
  clear hc
  co_op (FX.rely hC) hF (co_quiet (termsP N C))
  co_op (FX.rely hC) hF (co_quiet (termsP N C))
  co_opw (FX.rely hC) hF (have hc := m.aPlaces hF) (refine ⟨fun _ _ => rfl, ?_⟩; co_evs (exact ev0_cell _ _ (by simp; omega)))
  clear hc
  co_op (FX.rely hC) hF (co_quiet (termsP N C))
  co_apply opsC_callv (termsP N C) (nf := kl) (by rfl) (by rfl) (by rfl) (by kernel_rfl) (hl _ hF)
  clear hF
  rintro v w' ⟨rfl, hF⟩
  walk_nrm
  co_opw (FX.rely hC) hF (skip) (co_still (termsP N C))
  co_apply opsC_nil (termsP N C)
  exact ⟨rfl, rfl, rfl, hF⟩

theorem array36 (T : Array Value) (h : T.size = 36) : ∃ v0 v1 v2 v3 v4 v5 v6 v7 v8 v9 v10 v11 v12 v13 v14 v15 v16 v17 v18 v19 v20 v21 v22 v23 v24 v25 v26 v27 v28 v29 v30 v31 v32 v33 v34 v35 : Value, T = #[v0, v1, v2, v3, v4, v5, v6, v7, v8, v9, v10, v11, v12, v13, v14, v15, v16, v17, v18, v19, v20, v21, v22, v23, v24, v25, v26, v27, v28, v29, v30, v31, v32, v33, v34, v35] := by
  obtain ⟨l⟩ := T
  simp only [List.size_toArray] at h
  rcases l with _ | ⟨v0, l⟩
  · simp at h
  rcases l with _ | ⟨v1, l⟩
  · simp at h
  rcases l with _ | ⟨v2, l⟩
  · simp at h
  rcases l with _ | ⟨v3, l⟩
  · simp at h
  rcases l with _ | ⟨v4, l⟩
  · simp at h
  rcases l with _ | ⟨v5, l⟩
  · simp at h
  rcases l with _ | ⟨v6, l⟩
  · simp at h
  rcases l with _ | ⟨v7, l⟩
  · simp at h
  rcases l with _ | ⟨v8, l⟩
  · simp at h
  rcases l with _ | ⟨v9, l⟩
  · simp at h
  rcases l with _ | ⟨v10, l⟩
  · simp at h
  rcases l with _ | ⟨v11, l⟩
  · simp at h
  rcases l with _ | ⟨v12, l⟩
  · simp at h
  rcases l with _ | ⟨v13, l⟩
  · simp at h
  rcases l with _ | ⟨v14, l⟩
  · simp at h
  rcases l with _ | ⟨v15, l⟩
  · simp at h
  rcases l with _ | ⟨v16, l⟩
  · simp at h
  rcases l with _ | ⟨v17, l⟩
  · simp at h
  rcases l with _ | ⟨v18, l⟩
  · simp at h
  rcases l with _ | ⟨v19, l⟩
  · simp at h
  rcases l with _ | ⟨v20, l⟩
  · simp at h
  rcases l with _ | ⟨v21, l⟩
  · simp at h
  rcases l with _ | ⟨v22, l⟩
  · simp at h
  rcases l with _ | ⟨v23, l⟩
  · simp at h
  rcases l with _ | ⟨v24, l⟩
  · simp at h
  rcases l with _ | ⟨v25, l⟩
  · simp at h
  rcases l with _ | ⟨v26, l⟩
  · simp at h
  rcases l with _ | ⟨v27, l⟩
  · simp at h
  rcases l with _ | ⟨v28, l⟩
  · simp at h
  rcases l with _ | ⟨v29, l⟩
  · simp at h
  rcases l with _ | ⟨v30, l⟩
  · simp at h
  rcases l with _ | ⟨v31, l⟩
  · simp at h
  rcases l with _ | ⟨v32, l⟩
  · simp at h
  rcases l with _ | ⟨v33, l⟩
  · simp at h
  rcases l with _ | ⟨v34, l⟩
  · simp at h
  rcases l with _ | ⟨v35, l⟩
  · simp at h
  rcases l with _ | ⟨x, l⟩
  · exact ⟨v0, v1, v2, v3, v4, v5, v6, v7, v8, v9, v10, v11, v12, v13, v14, v15, v16, v17, v18, v19, v20, v21, v22, v23, v24, v25, v26, v27, v28, v29, v30, v31, v32, v33, v34, v35, rfl⟩
  · simp at h

set_option maxRecDepth 100000 in
/-- The end of words. -/
theorem words_end (m : Mem9 N A C p Wd Pg M c4 w₀) : ∃ k, ∀ v0 v2 v4 v5 v6 v7 v8 v9 v10 v11 v12 v13 v14 v15 v16 v17 v18 v19 v20 v21 v22 v23 v24 v25 v26 v27 v28 v29 v30 v31 v32 v33 v34 v35 w, FX N C w₀ [] w →
    tail15.wpC Tryz.prog true (RP N C) (DPx N) 9 k (bodyPostC Tryz.prog Tryz.f9 fun v w' => v = .tuple #[] ∧ FX N C w₀ [] w') ⟨#[v0, pa N, v2, pa (N + 2), v4, v5, v6, v7, v8, v9, v10, v11, v12, v13, v14, v15, v16, v17, v18, v19, v20, v21, v22, v23, v24, v25, v26, v27, v28, v29, v30, v31, v32, v33, v34, v35], []⟩ w := by
  have hC := m.ltC
  have hA := m.ltA
  obtain ⟨k0, h0⟩ := order16_0 m
  obtain ⟨k1, h1⟩ := order16_1 m
  obtain ⟨k2, h2⟩ := order16_2 m
  obtain ⟨k3, h3⟩ := order16_3 m
  obtain ⟨k4, h4⟩ := order16_4 m
  obtain ⟨k5, h5⟩ := order16_5 m
  have hall : ∀ v0 v2 v4 v5 v6 v7 v8 v9 v10 v11 v12 v13 v14 v15 v16 v17 v18 v19 v20 v21 v22 v23 v24 v25 v26 v27 v28 v29 v30 v31 v32 v33 v34 v35 w t, FX N C w₀ [] w → OpsC Tryz.prog true (RP N C) (DPx N) 9 ops16 (Region.schedule (Tryz.prog.follows .mixedOrders) ops16 t) (k0 + k1 + k2 + k3 + k4 + k5) (Q16 N C w₀) ⟨#[v0, pa N, v2, pa (N + 2), v4, v5, v6, v7, v8, v9, v10, v11, v12, v13, v14, v15, v16, v17, v18, v19, v20, v21, v22, v23, v24, v25, v26, v27, v28, v29, v30, v31, v32, v33, v34, v35], []⟩ w := by
    intro v0 v2 v4 v5 v6 v7 v8 v9 v10 v11 v12 v13 v14 v15 v16 v17 v18 v19 v20 v21 v22 v23 v24 v25 v26 v27 v28 v29 v30 v31 v32 v33 v34 v35 w t hF
    have ht := orders16 t
    simp only [List.mem_cons, List.not_mem_nil, or_false] at ht
    rcases ht with e | e | e | e | e | e <;> rw [e]
    · exact opsC_more (h0 _ _ _ _ _ _ _ _ _ _ _ _ _ _ _ _ _ _ _ _ _ _ _ _ _ _ _ _ _ _ _ _ _ _ w hF) (by omega)
    · exact opsC_more (h1 _ _ _ _ _ _ _ _ _ _ _ _ _ _ _ _ _ _ _ _ _ _ _ _ _ _ _ _ _ _ _ _ _ _ w hF) (by omega)
    · exact opsC_more (h2 _ _ _ _ _ _ _ _ _ _ _ _ _ _ _ _ _ _ _ _ _ _ _ _ _ _ _ _ _ _ _ _ _ _ w hF) (by omega)
    · exact opsC_more (h3 _ _ _ _ _ _ _ _ _ _ _ _ _ _ _ _ _ _ _ _ _ _ _ _ _ _ _ _ _ _ _ _ _ _ w hF) (by omega)
    · exact opsC_more (h4 _ _ _ _ _ _ _ _ _ _ _ _ _ _ _ _ _ _ _ _ _ _ _ _ _ _ _ _ _ _ _ _ _ _ w hF) (by omega)
    · exact opsC_more (h5 _ _ _ _ _ _ _ _ _ _ _ _ _ _ _ _ _ _ _ _ _ _ _ _ _ _ _ _ _ _ _ _ _ _ w hF) (by omega)
  simp only [ops16, tail15, R9, body9, Tryz.f9, Option.getD_some] at hall
  co_apply Exists.intro
  intro v0 v2 v4 v5 v6 v7 v8 v9 v10 v11 v12 v13 v14 v15 v16 v17 v18 v19 v20 v21 v22 v23 v24 v25 v26 v27 v28 v29 v30 v31 v32 v33 v34 v35 w hF
  simp only [tail15, R9, body9, Tryz.f9, Option.getD_some]
  co_apply wpC_seq (termsP N C) (n₁ := k0 + k1 + k2 + k3 + k4 + k5 + 1)
  co_apply wpC_region_draw (drawP N)
  intro w₁ hr t
  have hF := ((FX.rely hC hF hr).drew)
  refine opsC_mono (hall _ _ _ _ _ _ _ _ _ _ _ _ _ _ _ _ _ _ _ _ _ _ _ _ _ _ _ _ _ _ _ _ _ _ _ t hF) ?_
  rintro e a' w' ⟨rfl, he, hd, hF⟩
  co_then
  co_apply wpC_cond (termsP N C) (t := false)
  · exact he
  simp only [Bool.false_eq_true, if_false]
  co_ctl (termsP N C)
  exact ⟨hd, _, resultsC_none (by rfl) _, rfl, hF⟩
end
end Go.Proofs.YtpejmgellidhbaaGreatDoor
