/-
  AuditFree: whatever the input, the call returns true, and the input reads as it did: the machine's run, the row, the card. PRINTED BY A PROGRAM (gen_a9.py).
-/
import Derived.Test.YtpejmgellidhbaaGreatDoorA8
import Derived.Test.YtpejmgellidhbaaGreatDoorCards
import Derived.Test.YtpejmgellidhbaaGreatDoorTie
import Derived.Conc.HoldsTime
import Derived.Lib.LaidTab
import Derived.ProofKit
import Derived.OpenShut
import Derived.LaidMore
import Derived.Lay
import Derived.SevenTiedAt
import Derived.Stop.Joined
import Derived.Stop.LaidErr
set_option linter.all false
set_option linter.unusedSimpArgs false
set_option maxRecDepth 100000
namespace Go.Proofs.YtpejmgellidhbaaGreatDoor
open Go Go.Conc Go.RowKit Go.Proofs

theorem enter3 (n : Int) : Frame.enter Tryz.prog 3 #[.int .i64 n] .normal = (base 3).at ⟨#[.int .i64 n, undef, undef, undef, undef, undef, undef, undef, undef, undef, undef, undef, undef, undef, undef, undef, undef, undef, undef, undef, undef, undef, undef, undef, undef, undef, undef, undef, undef, undef, undef, undef, undef, undef, undef, undef, undef, undef, undef, undef, undef, undef, undef, undef], []⟩ [.code bodyL] := by kernel_rfl

theorem AtDone.up {w0 w1 : World} (u : Upto [] w0 w1) : ∀ g w, AtDone w1 g w → AtDone w0 g w := by
  rintro g w ⟨a, k, h1, h2, h3, h4⟩
  exact ⟨a, k, h1, h2, h3, (u.trans h4).less (by simp)⟩

/-- ████ THE RUN. ████ -/
theorem the_run (tab : Nat → Int) (n : Int) (W : World) (ht : TabZ tab W) (h0 : 0 < W.heap.size) :
    ∃ M last o w' t', runNT Tryz.prog (M + 1) (solo (G (Frame.enter Tryz.prog 3 #[.int .i64 n] .normal) []) W) #[] = (.ended o w', t') ∧ runN Tryz.prog M (solo (G (Frame.enter Tryz.prog 3 #[.int .i64 n] .normal) []) W) = .next last ∧
      step Tryz.prog last = .ended o w' ∧ Conc.Good Tryz.prog (fun v w' => v = .bool true ∧ Upto [] W w') last o w' t' := by
  rw [enter3]
  by_cases hlow : n < 0
  · exact solo_end (law_out0 tab n hlow W ht h0 (S := AtDone W) fun g w' h => h)
  by_cases hhigh : 5000 < n
  · exact solo_end (law_out1 tab n hhigh W ht h0 (S := AtDone W) fun g w' h => h)
  obtain ⟨p, rfl⟩ : ∃ p : Nat, n = (p : Int) := ⟨n.toNat, by omega⟩
  have hp5 : p ≤ 5000 := by omega
  by_cases hbad : p = 0 ∨ 4096 < p
  · refine solo_end (law_head tab p hp5 W ht h0 (S := AtDone W) ?_)
    rintro w1 w2 D hA ⟨Wd, Pg, hD⟩ v1 v2 v4 v5 v6 v7 v8 v9 v10 v11 v12 v13 v14 v15 v16 v17 v18 v19 v20 v21 v22 v23 v24 v25 v26 v27 v28 v29 v30 v31 v32 v33 v34 v35 v36 v37 v38 v39 v40 v41 v42 v43
    exact (law_bad p hbad w1 w2 D Wd Pg hD v1 v2 v4 v5 v6 v7 v8 v9 v10 v11 v12 v13 v14 v15 v16 v17 v18 v19 v20 v21 v22 v23 v24 v25 v26 v27 v28 v29 v30 v31 v32 v33 v34 v35 v36 v37 v38 v39 v40 v41 v42 v43).weak (AtDone.up hA.1)
  · have h := law_head tab p hp5 W ht h0 (S := fun g w => ∃ w1, AliveP W w1 ∧ AtWords p w1 g w) (by
      rintro w1 w2 D hA ⟨Wd, Pg, hD⟩ v1 v2 v4 v5 v6 v7 v8 v9 v10 v11 v12 v13 v14 v15 v16 v17 v18 v19 v20 v21 v22 v23 v24 v25 v26 v27 v28 v29 v30 v31 v32 v33 v34 v35 v36 v37 v38 v39 v40 v41 v42 v43
      exact (law_good p (by omega) (by omega) w1 w2 D Wd Pg hD v1 v2 v4 v5 v6 v7 v8 v9 v10 v11 v12 v13 v14 v15 v16 v17 v18 v19 v20 v21 v22 v23 v24 v25 v26 v27 v28 v29 v30 v31 v32 v33 v34 v35 v36 v37 v38 v39 v40 v41 v42 v43).weak fun g w h => ⟨w1, hA, h⟩)
    obtain ⟨k, g', w', ⟨w1, ⟨hu, C, c4, hC1, hC2, hC3⟩, hW⟩, hz, hg⟩ := h
    exact crowd_end (by omega) (by omega) hu hC1 hC2 hC3 ⟨k, g', w', hW, hz, hg⟩

theorem own : ownKnob Tryz.prog.godebug = none := by kernel_rfl
noncomputable def laidL : List (String × DataW Unit) := [("math/bits.deBruijn64tab", Rows.laid_math_bits_deBruijn64tab)]
def bru64 : List Int := [0, 1, 56, 2, 57, 49, 28, 3, 61, 58, 42, 50, 38, 29, 17, 4, 62, 47, 59, 36, 45, 43, 51, 22, 53, 39, 33, 30, 24, 18, 12, 5, 63, 55, 48, 27, 60, 41, 37, 16, 46, 35, 44, 21, 52, 32, 23, 11, 54, 26, 40, 15, 34, 20, 31, 10, 25, 14, 19, 9, 13, 8, 7, 6]
theorem g64 : Tryz.prog.globalNamed "math/bits.deBruijn64tab" = some 0 := by kernel_rfl
theorem cells5 : Tryz.prog.cellsOf 5 = 1 := by kernel_rfl
theorem laid_plain : (laidL.all fun x => x.2.handleName?.isNone) = true := by kernel_rfl
theorem tab_of_laid {W : World} (h0 : laidMetH Tryz.prog laidL W) : TabZ (fun i => bru64.getD i 0) W ∧ 0 < W.heap.size := by
  rw [MakeChecks.laidMetH_plain _ _ _ laid_plain] at h0
  have hb : Lib.TabIs Tryz.prog W "math/bits.deBruijn64tab" .u8 bru64 := Lib.tabIs_of_head g64 (t := 163) (by kernel_rfl) (n := 64) (e := 5) Tryz.underlying163 Tryz.underlying5 cells5 (by kernel_rfl) h0
  unfold Lib.TabIs World.var? at hb
  rw [g64] at hb
  simp only [Option.bind_some] at hb
  cases hh : W.heap[0]? with
  | none => rw [hh] at hb; simp at hb
  | some o =>
    rw [hh] at hb
    refine ⟨?_, (Array.getElem?_eq_some_iff.1 hh).1⟩
    cases o with
    | cells cs T fr =>
      simp only [Option.some.injEq] at hb
      intro i hi
      have : W.cell? ⟨0, i, none⟩ = cs[i]? := by simp [World.cell?, hh]
      rw [this, hb]
      have hlen : bru64.length = 64 := rfl
      simp [hlen, hi]
    | _ => simp at hb

section
open Go.ChangeShapes Go.WideShapes Go.ChangeAt Go.ConcM
theorem auditFree_lifted (os : Os) (started : os.Started) (H : Type) (enc : TypeId × Value → H) (F : Stop.Interp) :
    ReturnsInLeavingWide Rows.auditFreeRow.assume Tryz.checked os 3 .any (fun w args => (Rows.auditFreeSpec.pre enc Tryz.prog Tryz.f3 Rows.auditFreeRow.domain false w args ∧ laidMetH Tryz.prog laidL w) ∧ sizedMet enc Tryz.prog Tryz.f3 (OpenSpec.ofChange Rows.auditFreeSpec) false w args)
      ((OpenSpec.ofChange Rows.auditFreeSpec).postWith enc Tryz.prog Tryz.f3 F (outsideKept [.timePasses]) false true false) := by
  refine returnsInLeavingWide_of_good (C := Tryz.checked) own started ?_ ?_
  · refine ⟨World.laidAll Tryz.prog os laidL, fun _ _ => 0, ⟨#[], #[.int .i64 0], []⟩, World.laidAll_os _ _ _, World.shaped_of_ZipB (by kernel_rfl) (by kernel_rfl), ?_, ?_, ⟨⟨ChangeSpec.pre_of_preB (fuel := 8) (by kernel_rfl), ?_⟩, sizedMet_of_sizedB (fuel := 8) (by kernel_rfl)⟩, ?_⟩
    · rfl
    · exact (Input.okWide_of_okWideB (by kernel_rfl)).2
    · rw [MakeChecks.laidMetH_plain _ _ _ laid_plain]
      exact laidMet_laidAll _ (by kernel_rfl) (by kernel_rfl)
    · simp only [Assume.holds, OpenClaim.assume, Rows.auditFreeRow]
      exact ⟨by simp, fun _ _ _ _ => rfl, by simp, by simp, by simp⟩
  intro w tape i _ _ _ hok hpre _
  obtain ⟨_, _, _, fn', hfn', _, _, _, _, hval0⟩ := hok
  have e : fn' = Tryz.f3 := Option.some.inj (hfn'.symm.trans Tryz.func3)
  subst e
  obtain ⟨⟨⟨ds, gs, before, hw, hc⟩, hL⟩, hz⟩ := hpre
  have hW := DataW.Whole.of_heap (w' := w.forCall tape i) (by rfl) hw
  have hL' : laidMetH Tryz.prog laidL (w.forCall tape i) := hL.of_heap (by rfl)
  generalize hWd : w.forCall tape i = W at hW hL' hval0 ⊢
  have hval : ∀ (j : Nat) t v, Tryz.f3.params[j]? = some t → i.args[j]? = some v → Value.okWide Tryz.prog W .any w.heap.size t v := hval0
  have hW' := hW
  generalize i.args = args at hW hW' hval ⊢
  obtain ⟨p, q, hA0, hV, rfl, _, _⟩ := hW
  have hA : DataW.TrodAll enc Tryz.prog W 0 (fun _ => true) true Tryz.f3.params.toList args.toList ds p := hA0
  rw [Tryz.params3] at hA hval
  obtain ⟨v0, d0, rfl, rfl, h0⟩ := trodAll_one hA
  obtain ⟨rfl, rfl⟩ := trodVars_none hV
  obtain ⟨n, rfl, rfl, rfl, hwn⟩ := open_int Tryz.underlying3 (hval 0 3 v0 rfl rfl) h0
  obtain ⟨ht, hz0⟩ := tab_of_laid hL'
  have e1 : Rows.auditFreeSpec.fn H ([.lit (.int .i64 n)] ++ []) = { results := [.lit (.bool true)], args := [.lit (.int .i64 n)] } := by simp [Rows.auditFreeSpec]
  obtain ⟨M, last, o, w', t', r1, r2, r3, v, e, ⟨hv, hu⟩, g1, g2, g3, g4⟩ := the_run _ n W ht hz0
  refine ⟨M, last, o, w', t', r1, r2, r3, v, e, postWith_blind (postWith_of_post ?_ (by rw [hu.os]; exact OsLater.refl _)), g1, g2, g3, g4⟩
  subst hv
  have hbel : Below W.heap.size W { w' with os := W.os } := ⟨rfl, hu.tape, hu.output, hu.size, fun k hk => hu.block k hk (by simp)⟩
  refine ⟨_, _, _, [], [], [], hW', ?_, ?_, ?_, hbel.frame _, fun h => by cases h⟩
  · rw [e1]; exact trodAll_mk1 (shut_bool Tryz.underlying4 true)
  · rw [e1]; exact trodAll_mk1 (shut_int Tryz.underlying3 hwn)
  · rw [e1]; rfl
end

theorem auditFree_said : Rows.AuditFreeSaid :=
  OpenClaim.holds_of_wide_leaving_time 3 Tryz.f3 rfl rfl rfl rfl rfl rfl rfl ⟨rfl, rfl, rfl, rfl, rfl⟩ rfl rfl rfl rfl rfl (by kernel_rfl) Tryz.func3 (by kernel_rfl)
    (of_decide_eq_true (by kernel_rfl)) (by unfold Func.isWrapper; first | (rw [if_pos (by decide +kernel)]; kernel_rfl) | (rw [if_neg (by decide +kernel)]; exact ⟨rfl, rfl⟩))
    (fun os started H enc _ F => auditFree_lifted os started H enc F)

theorem not_sixth : Claim7.isSixth { stood := { row := Rows.auditFreeRow, standIns := [], harness := (true, "3dfbb7575ed3444d0302d7ca9c18fbe38151d4cb095ef0225d834c7b6fa88283"), looks := false }, kinds := [] } = false := rfl
theorem auditFree_card : Rows.AuditFreeCardSaid :=
  ⟨Claim7.tied_new_at .later [.data] true (Claim7.new_of_sixth auditFree_said (true, "3dfbb7575ed3444d0302d7ca9c18fbe38151d4cb095ef0225d834c7b6fa88283") false rfl ⟨rfl, rfl⟩ (by kernel_rfl) not_sixth (fun f fn hf hfn => by
      obtain rfl : f = 3 := Option.some.inj ((show Tryz.prog.funcNamed "hearth/hearthlaw16.AuditFree" = some 3 by kernel_rfl).symm.trans hf) |>.symm
      obtain rfl : fn = Tryz.f3 := (Option.some.inj (Tryz.func3.symm.trans hfn)).symm
      exact ⟨by kernel_rfl, fun j t ht => by
        rw [Tryz.params3] at ht
        have hm : t ∈ [3] := by simpa using Array.mem_of_getElem? ht
        have hall : ([3].all fun u => !Tryz.prog.wantsStandIn u) = true := by kernel_rfl
        exact (show Tryz.prog.wantsStandIn t = false by simpa using List.all_eq_true.1 hall t hm)⟩)) (by kernel_rfl),
    fun D hD => (by cases hD), auditFree_row_tie, (fun h => by cases h), (by kernel_rfl)⟩
#print axioms auditFree_card
end Go.Proofs.YtpejmgellidhbaaGreatDoor
