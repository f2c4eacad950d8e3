/- ShowNumbers: whatever the input, the call returns true, and the input reads as it did. -/
import Derived.Test.YtpejmgellidhbaaDoorO5
namespace Go.Proofs.YtpejmgellidhbaaDoor
open Go.ChangeShapes Go.WideShapes Go.ChangeAt Go.RowKit

theorem laidOut6 : laidOutB Tryd.prog = true := by kernel_rfl
set_option maxRecDepth 100000 in
theorem numbers_lifted (os : Os) (started : os.Started) (H : Type) (enc : TypeId × Value → H) :
    ReturnsInHanded {} Tryd.checked os 3 .any (fun w args => (Rows.showNumbersSpec.pre enc Tryd.prog Tryd.f3 Rows.showNumbersRow.domain false w args ∧ laidMetH Tryd.prog laidL w) ∧ sizedMet enc Tryd.prog Tryd.f3 (OpenSpec.ofChange Rows.showNumbersSpec) false w args)
      (Rows.showNumbersSpec.post enc Tryd.prog Tryd.f3 false true false false) := by
  refine returnsInHanded_of_change_and (C := Tryd.checked) (X := fun w _ => laidMetH Tryd.prog laidL w) (fun _ _ _ hh h => h.of_heap hh) own started (by kernel_rfl) Tryd.func3
    (ChangeSpec.witness_shaped (enc := enc) (C := Tryd.checked) (os := os) (X := fun w _ => laidMetH Tryd.prog laidL w) false (World.laidAll Tryd.prog os laidL) #[.agg #[.slice none 0 0, .slice none 0 0], .int .i64 0, .int .i64 0, .agg #[.int .i64 0, .int .i64 0]] 8 (World.laidAll_os _ _ _)
      (World.shaped_of_ZipB (by kernel_rfl) (by kernel_rfl)) (by kernel_rfl) (by kernel_rfl) (by kernel_rfl)
      (by rw [MakeChecks.laidMetH_plain _ _ _ laid_plain]; exact laidMet_laidAll _ (by kernel_rfl) (by kernel_rfl))) ?_
  intro W base args ds gs before hval0 hW hc hwt0 hL _
  have hval : ∀ (j : Nat) t v, Tryd.f3.params[j]? = some t → args[j]? = some v → Value.okWide Tryd.prog W .any base t v := hval0
  have hW' := hW
  obtain ⟨p, q, hA0, hV, rfl, _, _⟩ := hW
  have hA : DataW.TrodAll enc Tryd.prog W 0 (fun _ => true) true Tryd.f3.params.toList args.toList ds p := hA0
  have hwt : (DataW.weightsEach Tryd.prog (Tryd.f3.params.toList ++ Rows.showNumbersSpec.plain.varTypes Tryd.prog) (ds ++ gs)).all (· ≤ reachBytes) = true := hwt0
  rw [Tryd.params3] at hA hval hwt
  obtain ⟨v0, v1, v2, v3, d0, d1, d2, d3, p0, p1, p2, p3, rfl, rfl, rfl, h0, h1, h2, h3⟩ := trodAll_four hA
  obtain ⟨rfl, rfl⟩ := trodVars_none hV
  have h0k := h0
  have h3k := h3
  obtain ⟨q0, rfl, rfl, rfl, hw1⟩ := open_int Tryd.underlying3 (hval 1 3 v1 rfl rfl) h1
  obtain ⟨add, rfl, rfl, rfl, hw2⟩ := open_int Tryd.underlying3 (hval 2 3 v2 rfl rfl) h2
  simp only [List.append_nil] at hW'
  have hlt0 : ∀ x ∈ p0, x.block < W.heap.size := fun x hx => by simpa using hW'.lt x (by simp [hx])
  have hlt3 : ∀ x ∈ p3, x.block < W.heap.size := fun x hx => by simpa using hW'.lt x (by simp [hx])
  have hwt1 : ∀ n ∈ d0.weights Tryd.prog 25, n ≤ 140737488351232 := fun n hn => by
    have := List.all_eq_true.1 hwt n (by
      show n ∈ DataW.weightsEach Tryd.prog (25 :: _) (d0 :: _)
      rw [DataW.weightsEach, List.mem_append]
      exact .inl hn)
    exact of_decide_eq_true this
  obtain ⟨fuel, hf⟩ := h0
  obtain ⟨nv, rv, xs, rs, e0, hx, hr, hint⟩ := rd_graph hf ⟨hlt0, hwt1⟩
  obtain ⟨fuel3, hf3⟩ := h3
  obtain ⟨k, n, e3⟩ := rd_value hf3
  obtain ⟨a0, rfl, ha0⟩ := okWide_struct Tryd.underlying25 (hval 0 25 v0 rfl rfl)
  obtain ⟨a3, rfl, ha3⟩ := okWide_struct Tryd.underlying27 (hval 3 27 v3 rfl rfl)
  obtain rfl : a0 = #[nv, rv] := by
    have : a0.toList = [nv, rv] := e0
    rw [← Array.toArray_toList (xs := a0), this]
  obtain rfl : a3 = #[.int .i64 k, .int .i64 n] := by
    have : a3.toList = [.int .i64 k, .int .i64 n] := e3
    rw [← Array.toArray_toList (xs := a3), this]
  have hT := tabs_of_laid hL
  have e1 : Rows.showNumbersSpec.fn H ([d0, .lit (.int .i64 q0), .lit (.int .i64 add), d3] ++ []) = { results := [.lit (.bool true)], args := [d0, .lit (.int .i64 q0), .lit (.int .i64 add), d3] } := by simp [Rows.showNumbersSpec]
  refine (numbers_any nv rv xs rs q0 add k n W hT hx hr hint).mono fun e W' ⟨he, hw⟩ => ?_
  subst he
  refine ⟨_, rfl, _, _, _, [], p0 ++ ([] ++ ([] ++ p3)), [], hW', ?_, ?_, ?_, hw.frame _, fun h => by cases h⟩
  · rw [e1]; exact trodAll_mk1 (shut_bool Tryd.underlying4 true)
  · rw [e1]; exact trodAll_mk4 (Below.trod laidOut6 (by kernel_rfl) (of_decide_eq_true (by kernel_rfl)) h0k hw hlt0) (shut_int Tryd.underlying3 hw1) (shut_int Tryd.underlying3 hw2) (Below.trod laidOut6 (by kernel_rfl) (of_decide_eq_true (by kernel_rfl)) h3k hw hlt3)
  · rw [e1]; rfl
theorem numbers_said : Rows.ShowNumbersSaid :=
  OpenClaim.holds_of_wide 3 Tryd.f3 rfl rfl rfl rfl rfl rfl rfl ⟨rfl, rfl, rfl, rfl, rfl⟩ rfl rfl rfl rfl rfl (by kernel_rfl) Tryd.func3 (by kernel_rfl)
    (of_decide_eq_true (by kernel_rfl)) (by unfold Func.isWrapper; first | (rw [if_pos (by decide +kernel)]; kernel_rfl) | (rw [if_neg (by decide +kernel)]; exact ⟨rfl, rfl⟩))
    (fun os started H enc _ => numbers_lifted os started H enc)
theorem numbers_card : Rows.ShowNumbersCardSaid :=
  Claim7.holds_tied_plain_at .later [] [.data, .data, .data, .data, .pinned, .pinned] true (true, "659a05dd549298f18a5b87217a034cb5d5d95aba55b513bc2de423d1c5007464") false numbers_said (fun _ h => by cases h) (by kernel_rfl) (fun _ h => by cases h) showNumbers_row_tie rfl ⟨rfl, rfl⟩ (by kernel_rfl) rfl
    (fun f fn hf hfn => by
      obtain rfl : f = 3 := Option.some.inj ((show Tryd.prog.funcNamed "hearth/hearthlaw17.ShowNumbers" = some 3 by kernel_rfl).symm.trans hf) |>.symm
      obtain rfl : fn = Tryd.f3 := (Option.some.inj (Tryd.func3.symm.trans hfn)).symm
      exact ⟨by kernel_rfl, fun j t ht => by
        rw [Tryd.params3] at ht
        have hm : t ∈ [25, 3, 3, 27] := by simpa using Array.mem_of_getElem? ht
        have hall : ([25, 3, 3, 27].all fun u => !Tryd.prog.wantsStandIn u) = true := by kernel_rfl
        exact (show Tryd.prog.wantsStandIn t = false by simpa using List.all_eq_true.1 hall t hm)⟩)
    (by kernel_rfl)
#print axioms numbers_card
end Go.Proofs.YtpejmgellidhbaaDoor
