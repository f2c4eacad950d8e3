/- Pieces in memory; the method tail of show.walk. -/
import Derived.Test.YtpejmgellidhbaaDoorE4
import Derived.Deep.QuietTactic
import Derived.BigQuiet
import Derived.Deep.RegionLaw
import Derived.Deep.RegionWith
import Derived.Deep.RegionHeld3
import Derived.Deep.DeepCutAuto
namespace Go.Proofs.YtpejmgellidhbaaDoor
open Go.RowKit

/-- A piece's cells. -/
def pcCells : Pc → List Value
  | .text s => [.string s, .int .i64 0, .int .i64 0, .int .i64 0]
  | .val x => [.string ⟨#[]⟩, .int .i64 x.1, .int .i64 x.2, .int .i64 1]
  | .tail x => [.string ⟨#[]⟩, .int .i64 x.1, .int .i64 x.2, .int .i64 2]
def pcsCells (l : List Pc) : List Value := l.flatMap pcCells
theorem pcCells_len (p : Pc) : (pcCells p).length = 4 := by cases p <;> rfl
theorem pcsCells_len (l : List Pc) : (pcsCells l).length = l.length * 4 := by
  induction l with
  | nil => rfl
  | cons p r ih =>
    simp only [pcsCells, List.flatMap_cons, List.length_append, pcCells_len, List.length_cons] at *
    omega
theorem pcsCells_append (a b : List Pc) : pcsCells (a ++ b) = pcsCells a ++ pcsCells b := by simp [pcsCells]
/-- The leaves' texts as Go tells them. -/
def goTells : Tells where
  atom x := bsOf (atomL x)
  leaf nd := bsOf (leafL nd)
  mark n := bsOf ([35] ++ Lib.itoa n ++ [61])
  back n := bsOf ([35] ++ Lib.itoa n ++ [35])
theorem pcs_row {w : World} {B g n cap : Nat} {cs : Array Value} {l : List Pc} (hB : B ≤ g) (hg : w.heap[g]? = some (.cells cs 87 (0, 0))) (hl : l.length = n) (hc : cs.toList = pcsCells l) (hcap : cap = n) (hm : n ≤ 1000) : w.ownsRow B 87 4 (.slice (some ⟨g, 0, none⟩) n cap) n (pcsCells l) := by
  subst hl hcap
  have hs : cs.size = l.length * 4 := by rw [← Array.length_toList, hc, pcsCells_len]
  refine ⟨pcsCells_len l, .inr ⟨g, _, cs, rfl, hB, hg, Nat.le_refl _, by simp only [maxLen]; omega, hs, ?_⟩⟩
  rw [← hc, List.take_of_length_le (by rw [Array.length_toList]; omega)]
/-- What tail and form hand back. -/
def GivesPcs (B : Nat) (l : List Pc) (e : Ending) (w' : World) : Prop := ∃ v, e = .returned v ∧ w'.ownsRow B 87 4 v l.length (pcsCells l)

theorem eql27 (k n a b : Int) (W : World) : (binOp .eql 27 (.agg #[.int .i64 k, .int .i64 n]) (.agg #[.int .i64 a, .int .i64 b])).run Tryd.prog W = .ok (.bool (decide (k = a) && decide (n = b))) W := by
  go_simp
  by_cases h : k = a <;> by_cases h' : n = b <;> simp [h, h']
theorem neq38 (k n : Int) (W : World) : (binOp .neq 38 (.agg #[.int .i64 k, .int .i64 n]) (.agg #[.int .i64 0, .int .i64 0])).run Tryd.prog W = .ok (.bool (!(decide (k = 0) && decide (n = 0)))) W := by
  go_simp
  by_cases h : k = 0 <;> by_cases h' : n = 0 <;> simp [h, h']
theorem lookup_ptr {w0 w : World} {B p m : Nat} {hv ov : Value} {c : Int} {ms : List (Int × Met)} {bs : List Nat} (hW : WalkAt w0 w B p m hv ov c ms bs) {n : Int} {mm : Met} (h : metAt ms n = some mm) :
    ∃ (i b : Nat), bs[i]? = some b ∧ ms[i]? = some (n, mm) ∧ ∀ W, W.heap = w.heap → (Instr.lookup 67 (.map (some m)) (.int .i64 n) false).run Tryd.prog W = .ok (.pointer (some ⟨b, 0, none⟩)) W := by
  obtain ⟨i, hi⟩ := List.mem_iff_getElem?.1 (metAt_mem h)
  obtain ⟨b, hb, hmp⟩ := mapAt_idx _ bs i n mm hW.len hW.keys hi
  obtain ⟨es, hmm, hes⟩ := hW.map
  refine ⟨i, b, hb, hi, fun W hWw => ?_⟩
  rw [run_lookup67 (w := W) (by rw [hWw]; exact hmm) hes n, hmp]
  rfl

set_option maxRecDepth 100000 in
set_option maxHeartbeats 2000000 in
theorem tail_any (w0 w : World) (B p m : Nat) (hv ov : Value) (c : Int) (ms : List (Int × Met)) (bs : List Nat) (x : Int × Int) (l : List Pc) (hW : WalkAt w0 w B p m hv ov c ms bs) (hl : tailM ms x = some l) :
    Calls Tryd.prog 40 #[.pointer (some ⟨p, 0, none⟩), .agg #[.int .i64 x.1, .int .i64 x.2]] w fun e w' => GivesPcs w.heap.size l e w' ∧ Below w.heap.size w w' := by
  obtain ⟨k, n⟩ := x
  simp only
  have hm : madeM 3 0 = (3, 0) := by decide
  have HM := hid hm
  have HW := hid hW
  have HL := hid hl
  clear hW hl hm
  go_enter Tryd.func40, Tryd.ntmps40
  go_wp2_with fail
  have hc0 : (w.alloc (.cells #[.int .i64 k, .int .i64 n] 27)).cell? ⟨w.heap.size, 0, none⟩ = some (.int .i64 k) := bc (ha_new w _) 0
  have hc1 : (w.alloc (.cells #[.int .i64 k, .int .i64 n] 27)).cell? ⟨w.heap.size, 1, none⟩ = some (.int .i64 n) := bc (ha_new w _) 1
  obtain ⟨bq, hbq⟩ : ∃ bq : Bool, bq = decide ((k, n) = (3, 0)) := ⟨_, rfl⟩
  have heq : ∀ W, (binOp .eql 27 (.agg #[.int .i64 k, .int .i64 n]) (.agg #[.int .i64 3, .int .i64 0])).run Tryd.prog W = .ok (.bool bq) W := fun W => by
    rw [hbq, eql27]
    simp [Prod.ext_iff]
  have hbw : Below w.heap.size w (w.alloc (.cells #[.int .i64 k, .int .i64 n] 27)) := by go_grown
  have hsz : (w.alloc (.cells #[.int .i64 k, .int .i64 n] 27)).heap.size = w.heap.size + 1 := by simp
  have HB := hid hbw
  clear hbw
  generalize World.alloc w _ = W1 at *
  have hC : ∀ W, W1.heap.size = W.heap.size → (W.cell? ⟨w.heap.size, 0, none⟩ = some (.int .i64 k) ∧ W.cell? ⟨w.heap.size, 1, none⟩ = some (.int .i64 n)) → Calls Tryd.prog 48 #[.int .i64 0] W fun e w' => e = .returned (.agg #[.int .i64 3, .int .i64 0]) ∧ (Below W.heap.size W w' ∧ w'.cell? ⟨w.heap.size, 0, none⟩ = some (.int .i64 k) ∧ w'.cell? ⟨w.heap.size, 1, none⟩ = some (.int .i64 n)) := fun W hsW hW => by
    refine (imm_any 0 W).mono ?_
    rintro e w1 ⟨rfl, hb1⟩
    refine ⟨by rw [HM.out]; rfl, hb1, ?_, ?_⟩
    · exact (hb1.cell (p := ⟨w.heap.size, 0, none⟩) (by simp; omega)).trans hW.1
    · exact (hb1.cell (p := ⟨w.heap.size, 1, none⟩) (by simp; omega)).trans hW.2
  have HC := hid hC
  have HQ := hid hbq
  clear hC hbq
  go_region_held3 (fun w' => w'.cell? ⟨w.heap.size, 0, none⟩ = some (.int .i64 k) ∧ w'.cell? ⟨w.heap.size, 1, none⟩ = some (.int .i64 n)) (go_keep) (first | (go_at_call 48; refine (HC.out (World.drew W1) rfl ⟨hc0, hc1⟩).mono ?_; rintro e w2 ⟨rfl, hb2, hk0, hk1⟩))
  have hbel : Below w.heap.size w w2 := (HB.out.drew).trans (hb2.mono (by show w.heap.size ≤ W1.heap.size; omega))
  have HB2 := hid hbel
  clear hbel hb2 heq hc0 hc1
  cases bq with
  | true =>
    go_wp2_with fail
    go_ret
    have h3 : (k, n) = (3, 0) := by simpa using HQ.out
    have hl := HL.out
    unfold tailM at hl
    rw [if_pos h3, Option.some.injEq] at hl
    subst hl
    refine ⟨⟨_, rfl, ?_⟩, HB2.out.alloc HB2.out.size _⟩
    exact pcs_row HB2.out.size (ha_new w2 _) rfl rfl rfl (by simp)
  | false =>
    have h3 : (k, n) ≠ (3, 0) := by simpa using HQ.out
    have hl := HL.out
    unfold tailM at hl
    rw [if_neg h3] at hl
    clear HQ HL
    by_cases h2 : (k == 2) = true
    · have hk2 : k = 2 := by simpa using h2
      simp only [hk2, ne_eq, not_true_eq_false, if_false] at hl
      cases hm : metAt ms n with
      | none => simp [hm] at hl
      | some mm =>
        simp only [hm] at hl
        have hW2 := HW.out.below HB2.out
        obtain ⟨i, b, hbi, hmi, hlk⟩ := lookup_ptr hW2 hm
        obtain ⟨mrv, mfv, mev, hmb, hnv⟩ := hW2.mets i b _ hbi hmi
        simp only at hmb hnv
        have hlk1 := fun nq => hlk (w2.drewN nq) rfl
        have cp1 : w2.cell? ⟨p, 1, none⟩ = some (.map (some m)) := bc hW2.own 1
        have cb1 : w2.cell? ⟨b, 1, none⟩ = some (.int .i64 mm.nd.kind) := bc hmb 1
        have cb6 : w2.cell? ⟨b, 6, none⟩ = some (.int .i64 mm.label) := bc hmb 6
        obtain ⟨rA, rn, rc, hre⟩ := hnv.rawForm
        obtain ⟨fA, fn, fc, hfe⟩ := hnv.fieldsForm
        obtain ⟨eA, en, ec, hee⟩ := hnv.ev
        subst hre hfe hee
        have hfv := hnv.fields.below hW2.elder.1 hW2.elder.2
        have HF := hid (And.intro hW2 (And.intro hmb (And.intro hfv hl)))
        clear hW2 hmb hnv hfv hl hbi hmi hm hlk h3 HW
        have Hk2 := hid hk2
        clear hk2
        go_wp2_with fail
        go_quiet (fail)
        by_cases hkl : mm.nd.kind = 1 ∧ mm.label < 0
        · obtain ⟨hk1', hl0⟩ := hkl
          have hk1b : (mm.nd.kind == 1) = true := by simpa using hk1'
          have Hk := hid hk1'
          clear hk1'
          go_upto_region 6 with (fail)
          have hS : ∀ W, Below w2.heap.size w2 W → (W.cell? ⟨b, 0, none⟩ = some (.int .i64 mm.nd.id) ∧ W.cell? ⟨b, 1, none⟩ = some (.int .i64 mm.nd.kind) ∧ W.cell? ⟨b, 2, none⟩ = some (.slice rA rn rc) ∧ W.cell? ⟨b, 3, none⟩ = some (.slice fA fn fc) ∧ W.cell? ⟨b, 4, none⟩ = some (.slice eA en ec)) := fun W hW => by
            have h := blk_below hW HF.out.2.1 (blk_lt HF.out.2.1)
            exact ⟨bc h 0, bc h 1, bc h 2, bc h 3, bc h 4⟩
          have hC : ∀ W (j : Nat), j < 2 → Below w2.heap.size w2 W → Calls Tryd.prog 43 #[.agg #[.int .i64 mm.nd.id, .int .i64 mm.nd.kind, .slice rA rn rc, .slice fA fn fc, .slice eA en ec], .int .i64 j] W fun e w' => e = .returned (.agg #[.int .i64 (fieldM mm.nd.fields j).1, .int .i64 (fieldM mm.nd.fields j).2]) ∧ Below w2.heap.size w2 w' ∧ (w'.cell? ⟨b, 0, none⟩ = some (.int .i64 mm.nd.id) ∧ w'.cell? ⟨b, 1, none⟩ = some (.int .i64 mm.nd.kind) ∧ w'.cell? ⟨b, 2, none⟩ = some (.slice rA rn rc) ∧ w'.cell? ⟨b, 3, none⟩ = some (.slice fA fn fc) ∧ w'.cell? ⟨b, 4, none⟩ = some (.slice eA en ec)) := fun W j hj hW => by
            refine (field_any _ _ _ _ _ mm.nd.fields j W (HF.out.2.2.1.below hW (Nat.le_refl _)) hj).mono ?_
            rintro e w' ⟨rfl, hb⟩
            have h2 := hW.trans (hb.mono hW.size)
            exact ⟨rfl, h2, hS w' h2⟩
          have hq := hS (w2.drewN nq) (below_drewN (Below.refl _ _) nq)
          have hbq : Below w2.heap.size w2 (w2.drewN nq) := below_drewN (Below.refl _ _) nq
          have hC0 : ∀ W, Below w2.heap.size w2 W → Calls Tryd.prog 43 #[.agg #[.int .i64 mm.nd.id, .int .i64 mm.nd.kind, .slice rA rn rc, .slice fA fn fc, .slice eA en ec], .int .i64 0] W _ := fun W hW => hC W 0 (by omega) hW
          have hC1 : ∀ W, Below w2.heap.size w2 W → Calls Tryd.prog 43 #[.agg #[.int .i64 mm.nd.id, .int .i64 mm.nd.kind, .slice rA rn rc, .slice fA fn fc, .slice eA en ec], .int .i64 1] W _ := fun W hW => hC W 1 (by omega) hW
          have HC0 := hid hC0
          have HC1 := hid hC1
          have HBQ := hid hbq
          obtain ⟨q0, q1, q2, q3, q4⟩ := hq
          clear hS hC hbq cp1 cb1 cb6 hC0 hC1
          generalize World.drewN w2 nq = W2 at *
          go_region_held3 (fun w' => w'.cell? ⟨b, 0, none⟩ = some (.int .i64 mm.nd.id) ∧ w'.cell? ⟨b, 1, none⟩ = some (.int .i64 mm.nd.kind) ∧ w'.cell? ⟨b, 2, none⟩ = some (.slice rA rn rc) ∧ w'.cell? ⟨b, 3, none⟩ = some (.slice fA fn fc) ∧ w'.cell? ⟨b, 4, none⟩ = some (.slice eA en ec)) (go_keep)
            (first | (go_at_call 43; (with_reducible refine (HC0.out _ ?_).mono ?_); (first | exact HBQ.out.drew | assumption); rintro e w3 ⟨rfl, hb3, hk3⟩) | (go_at_call 43; (with_reducible refine (HC1.out _ ?_).mono ?_); (first | exact HBQ.out.drew | assumption); rintro e w4 ⟨rfl, hb4, hk4⟩))
          go_wp2_with fail
          go_ret
          have hl := HF.out.2.2.2
          rw [if_pos ⟨Hk.out, hl0⟩, Option.some.injEq] at hl
          subst hl
          have hbq : Below w.heap.size w w4 := HB2.out.trans (hb4.mono HB2.out.size)
          refine ⟨⟨_, rfl, ?_⟩, hbq.alloc hbq.size _⟩
          exact pcs_row hbq.size (ha_new w4 _) rfl rfl rfl (by simp)
        · have Hkl := hid hkl
          clear hkl
          by_cases hk1b : (mm.nd.kind == 1) = true
          · have hl0 : ¬ mm.label < 0 := fun e => Hkl.out ⟨by simpa using hk1b, e⟩
            go_wp2_with fail
            go_ret
            have hl := HF.out.2.2.2
            rw [if_neg Hkl.out, Option.some.injEq] at hl
            subst hl
            have hbq : Below w.heap.size w (w2.drewN nq) := below_drewN HB2.out nq
            refine ⟨⟨_, rfl, ?_⟩, hbq.alloc hbq.size _⟩
            exact pcs_row hbq.size (ha_new (w2.drewN nq) _) rfl (by rw [Hk2.out]; rfl) rfl (by simp)
          · have hk1c : (mm.nd.kind == 1) = false := by simpa using hk1b
            clear hk1b
            go_wp2_with fail
            go_ret
            have hl := HF.out.2.2.2
            rw [if_neg Hkl.out, Option.some.injEq] at hl
            subst hl
            have hbq : Below w.heap.size w (w2.drewN nq) := below_drewN HB2.out nq
            refine ⟨⟨_, rfl, ?_⟩, hbq.alloc hbq.size _⟩
            exact pcs_row hbq.size (ha_new (w2.drewN nq) _) rfl (by rw [Hk2.out]; rfl) rfl (by simp)
    · have h2' : (k == 2) = false := by simpa using h2
      have hk2 : k ≠ 2 := by simpa using h2
      rw [if_pos hk2, Option.some.injEq] at hl
      have HL := hid hl
      clear h2 hl hk2 h3
      go_wp2_with fail
      go_ret
      have hl := HL.out
      subst hl
      refine ⟨⟨_, rfl, ?_⟩, HB2.out.alloc HB2.out.size _⟩
      exact pcs_row HB2.out.size (ha_new w2 _) rfl rfl rfl (by simp)
end Go.Proofs.YtpejmgellidhbaaDoor
