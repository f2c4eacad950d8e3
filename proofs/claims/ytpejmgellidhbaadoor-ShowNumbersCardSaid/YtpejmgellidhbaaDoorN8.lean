/- Small functions of the statement ShowNumbers: turned, same, Dear. -/
import Derived.Test.YtpejmgellidhbaaDoorN6
import Derived.Test.YtpejmgellidhbaaDoorG1
namespace Go.Proofs.YtpejmgellidhbaaDoor
open Go.RowKit

/-- turned -/
def turnM (f : Int → Int) (x : Int × Int) : Int × Int := if x.1 = 2 then (2, f x.2) else x
set_option maxHeartbeats 1000000 in
theorem turned_any (q add k n : Int) (w : World) (hn : k = 2 → 0 ≤ n ∧ n ≤ 1099511627776) (hq : 1 ≤ q ∧ q ≤ 1000) (ha : 0 ≤ add ∧ add ≤ 1000000) :
    Calls Tryd.prog 11 #[.agg #[.int .i64 k, .int .i64 n], .int .i64 q, .int .i64 add] w fun e w' => e = .returned (vv (turnM (fun m => m * q + add) (k, n))) ∧ Below w.heap.size w w' := by
  by_cases hk : k = 2
  · obtain ⟨n0, n1⟩ := hn hk
    have hp : 0 ≤ n * q ∧ n * q ≤ 1099511627776000 := by
      constructor
      · exact Int.mul_nonneg n0 (by omega)
      · have h1 : n * q ≤ 1099511627776 * q := Int.mul_le_mul_of_nonneg_right n1 (by omega)
        omega
    have ht : turnM (fun m => m * q + add) (k, n) = (2, n * q + add) := by simp [turnM, hk]
    have HT := Lib.hid ht
    subst hk
    clear hn ht
    obtain ⟨p, hpe⟩ : ∃ p, p = n * q := ⟨_, rfl⟩
    rw [← hpe] at hp
    have e1 : IntKind.i64.wrap (n * q) = p := by rw [← hpe]; exact IntWalk.i64_in _ (by omega)
    have e2 : IntKind.i64.wrap (p + add) = p + add := IntWalk.i64_in _ (by omega)
    have HPE := Lib.hid hpe
    clear hpe
    go_enter Tryd.func11, Tryd.ntmps11
    go_wp2_with (go_at_call 17; (with_reducible refine (ref_any _ _).mono ?_); rintro e w1 ⟨rfl, hb1⟩; obtain ⟨hc1, hf1⟩ := bcell hb1)
    have hb := blk_below hb1 (ha_new _ _) (by simp)
    simp only [World.size_alloc] at hb
    refine bodyPost_ret (res27 rfl rfl (hs_same (hs_same hb))) rfl ⟨by rw [HT.out, ← HPE.out]; simp [vv], ?_⟩
    exact (((((Below.refl _ _).alloc (Nat.le_refl _) _).alloc (by simp) _).trans (hb1.mono (by simp; omega))).setCell (by simp) _).setCell (by simp) _
  · have hk' : (k == 2) = false := by simpa using hk
    have ht : turnM (fun m => m * q + add) (k, n) = (k, n) := by simp [turnM, hk]
    have HT := Lib.hid ht
    clear hn hk ht
    go_enter Tryd.func11, Tryd.ntmps11
    go_wp2
    have hb := ha_new (w.alloc (.cells #[.int .i64 k, .int .i64 n] 27)) (.cells #[.int .i64 k, .int .i64 n] 27)
    simp only [World.size_alloc] at hb
    refine bodyPost_ret (res27 rfl rfl hb) rfl ⟨by rw [HT.out]; simp [vv], ?_⟩
    exact ((Below.refl _ _).alloc (Nat.le_refl _) _).alloc (by simp) _
set_option maxRecDepth 100000 in
set_option maxHeartbeats 1000000 in
theorem same_any (f a : Int) (w : World) : Calls Tryd.prog 13 #[.agg #[.int .i64 f, .int .i64 a], .agg #[.int .i64 f, .int .i64 a]] w fun e w' => e = .returned (.bool true) ∧ Below w.heap.size w w' := by
  go_enter Tryd.func13, Tryd.ntmps13
  go_upto_region 1 with (fail)
  have hb0 : Below w.heap.size w ((w.alloc (.cells #[.int .i64 f, .int .i64 a] 38)).alloc (.cells #[.int .i64 f, .int .i64 a] 38)) := ((Below.refl _ _).alloc (Nat.le_refl _) _).alloc (by simp) _
  have hc0 := ha_old (x := .cells #[.int .i64 f, .int .i64 a] 38) (ha_new w (.cells #[.int .i64 f, .int .i64 a] 38))
  have hc1 := ha_new (w.alloc (.cells #[.int .i64 f, .int .i64 a] 38)) (.cells #[.int .i64 f, .int .i64 a] 38)
  simp only [World.size_alloc] at hc1
  generalize World.alloc (World.alloc w _) _ = V at *
  have HCELL := Lib.hid (show ∀ W', Below V.heap.size V W' → W'.cell? ⟨w.heap.size, 0, none⟩ = some (.int .i64 f) ∧ W'.cell? ⟨w.heap.size, 1, none⟩ = some (.int .i64 a) ∧ W'.cell? ⟨w.heap.size + 1, 0, none⟩ = some (.int .i64 f) ∧ W'.cell? ⟨w.heap.size + 1, 1, none⟩ = some (.int .i64 a) from fun W' hW' => by
    have h2 := blk_below hW' hc0 (blk_lt hc0)
    have h3 := blk_below hW' hc1 (blk_lt hc1)
    exact ⟨(bc h2 0).trans rfl, (bc h2 1).trans rfl, (bc h3 0).trans rfl, (bc h3 1).trans rfl⟩)
  have HB := Lib.hid hb0
  clear hb0 hc0 hc1
  (with_reducible refine wp_region_grows (by kernel_rfl) (by kernel_rfl) ?_)
  (with_reducible refine q_want (by kernel_rfl) (fun K hK => ?_))
  apply Exists.intro
  refine ⟨fun w' hw' => ?_, ?_⟩
  · obtain ⟨f0, f1, f2, f3⟩ := HCELL.out w' hw'
    go_simp
    exact rfl
  go_simp
  (with_reducible refine hK _ ?_)
  clear hK K
  (with_reducible refine q_want (by kernel_rfl) (fun K hK => ?_))
  apply Exists.intro
  refine ⟨fun w' hw' => ?_, ?_⟩
  · obtain ⟨f0, f1, f2, f3⟩ := HCELL.out w' hw'
    go_simp
    exact rfl
  go_simp
  (with_reducible refine hK _ ?_)
  clear hK K
  (with_reducible refine q_want (by kernel_rfl) (fun K hK => ?_))
  apply Exists.intro
  refine ⟨fun w' hw' => ?_, ?_⟩
  · obtain ⟨f0, f1, f2, f3⟩ := HCELL.out w' hw'
    go_simp
    (go_at_call 15; refine (num_any _ _).mono ?_; rintro e w3 ⟨rfl, rfl⟩; exact ⟨rfl, hw'⟩)
  go_simp
  (with_reducible refine hK _ ?_)
  clear hK K
  (with_reducible refine q_want (by kernel_rfl) (fun K hK => ?_))
  apply Exists.intro
  refine ⟨fun w' hw' => ?_, ?_⟩
  · obtain ⟨f0, f1, f2, f3⟩ := HCELL.out w' hw'
    go_simp
    exact rfl
  go_simp
  (with_reducible refine hK _ ?_)
  clear hK K
  (with_reducible refine q_want (by kernel_rfl) (fun K hK => ?_))
  apply Exists.intro
  refine ⟨fun w' hw' => ?_, ?_⟩
  · obtain ⟨f0, f1, f2, f3⟩ := HCELL.out w' hw'
    go_simp
    exact rfl
  go_simp
  (with_reducible refine hK _ ?_)
  clear hK K
  (with_reducible refine q_want (by kernel_rfl) (fun K hK => ?_))
  apply Exists.intro
  refine ⟨fun w' hw' => ?_, ?_⟩
  · obtain ⟨f0, f1, f2, f3⟩ := HCELL.out w' hw'
    go_simp
    (go_at_call 15; refine (num_any _ _).mono ?_; rintro e w3 ⟨rfl, rfl⟩; exact ⟨rfl, hw'⟩)
  go_simp
  (with_reducible refine hK _ ?_)
  clear hK K
  (with_reducible refine q_want (by kernel_rfl) (fun K hK => ?_))
  apply Exists.intro
  refine ⟨fun w' hw' => ?_, ?_⟩
  · obtain ⟨f0, f1, f2, f3⟩ := HCELL.out w' hw'
    go_simp
    exact rfl
  go_simp
  (with_reducible refine hK _ ?_)
  clear hK K
  (with_reducible refine q_want (by kernel_rfl) (fun K hK => ?_))
  apply Exists.intro
  refine ⟨fun w' hw' => ?_, ?_⟩
  · obtain ⟨f0, f1, f2, f3⟩ := HCELL.out w' hw'
    go_simp
    exact rfl
  go_simp
  (with_reducible refine hK _ ?_)
  clear hK K
  (with_reducible refine q_want (by kernel_rfl) (fun K hK => ?_))
  apply Exists.intro
  refine ⟨fun w' hw' => ?_, ?_⟩
  · obtain ⟨f0, f1, f2, f3⟩ := HCELL.out w' hw'
    go_simp
    exact rfl
  go_simp
  (with_reducible refine hK _ ?_)
  clear hK K
  (with_reducible refine q_want (by kernel_rfl) (fun K hK => ?_))
  apply Exists.intro
  refine ⟨fun w' hw' => ?_, ?_⟩
  · obtain ⟨f0, f1, f2, f3⟩ := HCELL.out w' hw'
    go_simp
    exact rfl
  go_simp
  (with_reducible refine hK _ ?_)
  clear hK K
  (with_reducible refine q_want (by kernel_rfl) (fun K hK => ?_))
  apply Exists.intro
  refine ⟨fun w' hw' => ?_, ?_⟩
  · obtain ⟨f0, f1, f2, f3⟩ := HCELL.out w' hw'
    go_simp
    exact rfl
  go_simp
  (with_reducible refine hK _ ?_)
  clear hK K
  (with_reducible refine q_want (by kernel_rfl) (fun K hK => ?_))
  apply Exists.intro
  refine ⟨fun w' hw' => ?_, ?_⟩
  · obtain ⟨f0, f1, f2, f3⟩ := HCELL.out w' hw'
    go_simp
    exact rfl
  go_simp
  (with_reducible refine hK _ ?_)
  clear hK K
  (with_reducible refine q_want (by kernel_rfl) (fun K hK => ?_))
  apply Exists.intro
  refine ⟨fun w' hw' => ?_, ?_⟩
  · obtain ⟨f0, f1, f2, f3⟩ := HCELL.out w' hw'
    go_simp
    exact rfl
  go_simp
  (with_reducible refine hK _ ?_)
  clear hK K
  (with_reducible refine q_want (by kernel_rfl) (fun K hK => ?_))
  apply Exists.intro
  refine ⟨fun w' hw' => ?_, ?_⟩
  · obtain ⟨f0, f1, f2, f3⟩ := HCELL.out w' hw'
    go_simp
    exact rfl
  go_simp
  (with_reducible refine hK _ ?_)
  clear hK K
  (with_reducible refine q_want (by kernel_rfl) (fun K hK => ?_))
  apply Exists.intro
  refine ⟨fun w' hw' => ?_, ?_⟩
  · obtain ⟨f0, f1, f2, f3⟩ := HCELL.out w' hw'
    go_simp
    exact rfl
  go_simp
  (with_reducible refine hK _ ?_)
  clear hK K
  (with_reducible refine wpQuiet_nil ?_)
  intro w9 hw9
  go_wp2
  go_ret
  exact ⟨rfl, HB.out.trans (hw9.mono HB.out.size)⟩
/-- What Dear lets by. -/
def Light (xs : List (Nd × List Ent)) : Prop := xs.length ≤ 20000 ∧ ∀ x ∈ xs, x.1.raw.length ≤ 20000 ∧ x.1.fields.length ≤ 20000
def DearPost (xs : List (Nd × List Ent)) (w : World) (e : Ending) (w' : World) : Prop := ∃ b : Bool, e = .returned (.bool b) ∧ (b = false → Light xs) ∧ Below w.heap.size w w'
def Lit (xs : List (Nd × List Ent)) (i : Nat) (m : Int) : Prop := ∀ j, (h : j < xs.length) → j < i → (xs[j].1.raw.length : Int) ≤ m ∧ (xs[j].1.fields.length : Int) ≤ m
theorem lit_succ {xs : List (Nd × List Ent)} {i : Nat} {m m' : Int} (h : i < xs.length) (hl : Lit xs i m) (hm : m ≤ m') (h1 : (xs[i].1.raw.length : Int) ≤ m') (h2 : (xs[i].1.fields.length : Int) ≤ m') : Lit xs (i + 1) m' := by
  intro j hj hlt
  by_cases e : j = i
  · subst e
    exact ⟨h1, h2⟩
  · have := hl j hj (by omega)
    omega
set_option maxHeartbeats 2000000 in
theorem dear_any (nv rv : Value) (xs : List (Nd × List Ent)) (rs : List (Int × Int)) (w : World) (h : RdNodesE w nv xs) (hr : RdVals w rv rs) :
    Calls Tryd.prog 9 #[.agg #[nv, rv], .int .i64 20000] w (DearPost xs w) := by
  obtain ⟨A, c, rfl⟩ : ∃ A c, nv = .slice A xs.length c := by obtain ⟨A, c, e, _⟩ := h; exact ⟨A, c, e⟩
  have hxl : xs.length ≤ 140737488351232 := by obtain ⟨A, c, e, hl, _⟩ := h; exact hl
  obtain ⟨Ar, cr, rfl⟩ : ∃ A c, rv = .slice A rs.length c := by obtain ⟨A, c, e, _⟩ := hr; exact ⟨A, c, e⟩
  have hrl : rs.length ≤ 140737488351232 := by obtain ⟨A, c, e, hl, _⟩ := hr; exact hl
  go_enter Tryd.func9, Tryd.ntmps9
  go_upto_region 1 with (fail)
  have hb0 : Below w.heap.size w (w.alloc (.cells #[.slice A xs.length c, .slice Ar rs.length cr] 25)) := (Below.refl _ _).alloc (Nat.le_refl _) _
  have hc0 := ha_new w (.cells #[.slice A xs.length c, .slice Ar rs.length cr] 25)
  have h0 := h.below hb0 (Nat.le_refl _)
  generalize World.alloc w _ = V at *
  have H0 := Lib.hid h0
  have HB := Lib.hid hb0
  have HC := Lib.hid hc0
  obtain ⟨g, hg⟩ : ∃ g, g = w.heap.size := ⟨_, rfl⟩
  rw [← hg] at hc0 HC
  rw [← hg]
  have cg0 : V.cell? ⟨g, 0, none⟩ = some (.slice A xs.length c) := bc hc0 0
  have cg1 : V.cell? ⟨g, 1, none⟩ = some (.slice Ar rs.length cr) := bc hc0 1
  have HG := Lib.hid hg
  clear h hr hb0 h0 hc0 hg
  go_wp2
  go_loopw [5, 6] (fun nv iv wr => ∃ (i : Nat) (m : Int), i ≤ xs.length ∧ iv = .int .i64 i ∧ nv = .int .i64 m ∧ (xs.length : Int) ≤ m ∧ m ≤ 1125899906842624 ∧ Lit xs i m ∧ Below V.heap.size V wr) (fun _ iv _ => xs.length - (intOf iv).toNat)
  case atStart => exact ⟨0, _, Nat.zero_le _, rfl, rfl, by omega, by omega, fun _ _ h => absurd h (by omega), Below.refl _ _⟩
  case round =>
    clear cg0 cg1
    obtain ⟨i, m, hi, rfl, rfl, hm1, hm2, hl, hbw⟩ := hrel
    have HL := Lib.hid hl
    have hgr := blk_below hbw HC.out (blk_lt HC.out)
    have cg0 : wr.cell? ⟨g, 0, none⟩ = some (.slice A xs.length c) := bc hgr 0
    have HBW := Lib.hid hbw
    clear hl hgr hbw
    by_cases hlt : i < xs.length
    · by_cases hmm : m ≤ 20000
      · obtain ⟨A2, c2, e2, _, hx⟩ := H0.out.below HBW.out (Nat.le_refl _)
        obtain ⟨b, o, rfl, hbl, hr⟩ := hx (by omega)
        cases e2
        obtain ⟨rv, fv, ev, r0, r1, r2, r3, r4, hn, he⟩ := hr i hlt
        obtain ⟨Aa, ca, rfl, l1, x1⟩ := hn.raw
        obtain ⟨Af, cf, rfl, l2, x2⟩ := hn.fields
        obtain ⟨Ae, ce, rfl, l3, x3⟩ := he
        clear hx hr hn x1 x2 x3
        generalize hid : xs[i].1.id = id at *
        generalize hkd : xs[i].1.kind = kd at *
        generalize h1 : xs[i].1.raw.length = a1 at *
        generalize h2 : xs[i].1.fields.length = a2 at *
        generalize xs[i].2.length = a3 at *
        have HI := Lib.hid (And.intro h1 h2)
        clear hid hkd h1 h2
        go_wp2
        go_roundw
        case rel => exact ⟨i + 1, _, by omega, by go_num, rfl, by omega, by omega, lit_succ hlt HL.out (by omega) (by rw [HI.out.1]; omega) (by rw [HI.out.2]; omega), HBW.out.alloc HBW.out.size _⟩
        case measure => simp [intOf]; omega
      · have hmm' : decide (m ≤ 20000) = false := by simpa using hmm
        have hmm2 : 20000 < m := by omega
        clear hmm
        go_wp2
        go_ret
        exact ⟨true, rfl, (fun h => by cases h), HB.out.trans (HBW.out.mono HB.out.size)⟩
    · have hlt' : decide (i < xs.length) = false := by simpa using hlt
      have hil : i = xs.length := by omega
      have HIL := Lib.hid hil
      clear hlt hil
      by_cases hmm : m ≤ 20000
      · have hmm2 : ¬ 20000 < m := by omega
        go_wp2
        go_ret
        refine ⟨false, rfl, fun _ => ⟨by omega, fun x hx => ?_⟩, HB.out.trans (HBW.out.mono HB.out.size)⟩
        obtain ⟨j, hj, rfl⟩ := List.getElem_of_mem hx
        have := HL.out j hj (by rw [HIL.out]; exact hj)
        omega
      · have hmm2 : 20000 < m := by omega
        go_wp2
        go_ret
        exact ⟨true, rfl, (fun h => by cases h), HB.out.trans (HBW.out.mono HB.out.size)⟩
end Go.Proofs.YtpejmgellidhbaaDoor
