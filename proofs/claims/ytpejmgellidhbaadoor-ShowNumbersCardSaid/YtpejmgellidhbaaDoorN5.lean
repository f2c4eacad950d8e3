/- May of the reference of graphs. -/
import Derived.Test.YtpejmgellidhbaaDoorN4
namespace Go.Proofs.YtpejmgellidhbaaDoor
open Go.RowKit

/-- Nodes whose lists of numbers are as long as their kinds have them. -/
def Counted (xs : List Nd) : Prop := ∀ nd ∈ xs, (nd.kind = 6 → nd.raw.length = 1) ∧ (nd.kind = 11 → nd.raw.length = 3)
theorem plain_said (V : World) (nv : Value) (xs : List Nd) (k n : Int) (h : RdNodes V nv xs) : ∀ W, Below V.heap.size V W → Calls Tryd.prog 21 #[nv, .agg #[.int .i64 k, .int .i64 n]] W fun e w' => e = .returned (.bool (plainM xs k n)) ∧ Below V.heap.size V w' := fun W hW => by
  refine (plain_any nv xs k n W (h.below hW (Nat.le_refl _))).mono ?_
  rintro e w' ⟨rfl, hw⟩
  exact ⟨rfl, hW.trans (hw.mono hW.size)⟩
set_option maxRecDepth 100000 in
set_option maxHeartbeats 2000000 in
theorem may_any (nv : Value) (xs : List Nd) (nd : Nd) (rv fv ev : Value) (i k n : Int) (w : World) (h : RdNodes w nv xs) (hn : NV w nd rv fv ev) (hx : Counted xs) (hnd : nd ∈ xs) :
    Calls Tryd.prog 20 #[nv, .agg #[.int .i64 nd.id, .int .i64 nd.kind, rv, fv, ev], .int .i64 i, .agg #[.int .i64 k, .int .i64 n]] w (BoolTells (k = 2 → HasId xs n) w) := by
  obtain ⟨A, c, rfl⟩ := h.form
  obtain ⟨Ar, nr, cr, rfl⟩ := hn.rawForm
  obtain ⟨Af, nf, cf, rfl⟩ := hn.fieldsForm
  obtain ⟨Ae, ne, ce, rfl⟩ := hn.ev
  have hraw := hn.raw
  have hcnt := hx nd hnd
  generalize nd.id = id at *
  generalize nd.kind = kd at *
  generalize nd.raw = raw at *
  clear hn hnd
  go_enter Tryd.func20, Tryd.ntmps20
  go_upto_region 1 with (fail)
  have hb0 : Below w.heap.size w ((w.alloc (.cells #[.int .i64 id, .int .i64 kd, .slice Ar nr cr, .slice Af nf cf, .slice Ae ne ce] 34)).alloc (.cells #[.int .i64 k, .int .i64 n] 27)) := ((Below.refl _ _).alloc (Nat.le_refl _) _).alloc (by simp) _
  have hc0 := ha_old (x := .cells #[.int .i64 k, .int .i64 n] 27) (ha_new w (.cells #[.int .i64 id, .int .i64 kd, .slice Ar nr cr, .slice Af nf cf, .slice Ae ne ce] 34))
  have hc1 := ha_new (w.alloc (.cells #[.int .i64 id, .int .i64 kd, .slice Ar nr cr, .slice Af nf cf, .slice Ae ne ce] 34)) (.cells #[.int .i64 k, .int .i64 n] 27)
  simp only [World.size_alloc] at hc1
  have h0 := h.below hb0 (Nat.le_refl _)
  have hr0 := hraw.below hb0 (Nat.le_refl _)
  generalize World.alloc (World.alloc w _) _ = V at *
  have hP := plain_said V _ xs k n h0
  have HP := Lib.hid hP
  have HF := Lib.hid (fun W hW => find_any _ xs n W (h0.below (B := V.heap.size) (w' := W) hW (Nat.le_refl _)))
  have H0 := Lib.hid h0
  have HX := Lib.hid hx
  have HB := Lib.hid hb0
  have HRAW := Lib.hid hr0
  have d1 : V.cell? ⟨w.heap.size, 1, none⟩ = some (.int .i64 kd) := bc hc0 1
  have d2 : V.cell? ⟨w.heap.size, 2, none⟩ = some (.slice Ar nr cr) := bc hc0 2
  have e0 : V.cell? ⟨w.heap.size + 1, 0, none⟩ = some (.int .i64 k) := bc hc1 0
  have e1 : V.cell? ⟨w.heap.size + 1, 1, none⟩ = some (.int .i64 n) := bc hc1 1
  clear h hraw hx hb0 hc0 hc1 h0 hr0 hP
  by_cases h7 : kd = 7
  · clear hcnt
    subst h7
    by_cases hk : (k == 2) = true
    · have hk2 : k = 2 := by simpa using hk
      subst hk2
      go_upto_region 8 with (go_at_call 26; (with_reducible refine (HF.out _ (Below.refl _ _)).mono ?_); rintro e w2 ⟨rfl, rfl⟩)
      generalize hr : findM xs n = r at *
      by_cases h0 : r < 0
      · go_wp2
        go_ret
        exact ⟨_, rfl, (fun h => by cases h), HB.out⟩
      · obtain ⟨j, hj0, hj, hid⟩ := findM_found (xs := xs) (n := n) (by omega)
        rw [hr] at hj0
        subst hj0
        clear hr
        have h0' : ¬ ((j : Int) < 0) := h0
        obtain ⟨A', c', e', _, hx⟩ := H0.out
        obtain ⟨b, o, rfl, hbl, hr⟩ := hx (by omega)
        cases e'
        obtain ⟨rv, fv, ev, r0, r1, r2, r3, r4, hn⟩ := hr j hj
        have hcj := HX.out _ (List.getElem_mem hj)
        have HI := Lib.hid (show HasId xs n from ⟨_, List.getElem_mem hj, hid⟩)
        have hraw2 := hn.raw
        clear hid hx hr hn r0 r3 r4
        generalize xs[j].kind = q at *
        generalize xs[j].raw = raw2 at *
        go_wp2
        go_ret
        exact ⟨_, rfl, fun _ => HI.out, HB.out⟩
    · have hk' : (k == 2) = false := by simpa using hk
      have hk2 : (k != 2) = true := by simp [bne, hk']
      have hkn : k ≠ 2 := by simpa using hk
      have HN := Lib.hid hkn
      clear hk hkn
      go_wp2
      all_goals
        go_ret
        exact ⟨_, rfl, (fun _ h => absurd h HN.out), HB.out⟩
  have h7' : (kd == 7) = false := by simpa using h7
  clear h7
  by_cases h11 : kd = 11
  · subst h11
    have hl3 := hcnt.2 rfl
    clear hcnt h7'
    by_cases hi0 : i = 0
    · subst hi0
      by_cases hk : (k == 2) = true
      · have hk2 : k = 2 := by simpa using hk
        subst hk2
        go_upto_region 8 with (go_at_call 26; (with_reducible refine (HF.out _ (Below.refl _ _)).mono ?_); rintro e w2 ⟨rfl, rfl⟩)
        generalize hr : findM xs n = r at *
        by_cases h0 : r < 0
        · go_wp2
          go_ret
          exact ⟨_, rfl, (fun h => by cases h), HB.out⟩
        · obtain ⟨j, hj0, hj, hid⟩ := findM_found (xs := xs) (n := n) (by omega)
          rw [hr] at hj0
          subst hj0
          clear hr
          have h0' : ¬ ((j : Int) < 0) := h0
          obtain ⟨A', c', e', _, hx⟩ := H0.out
          obtain ⟨b, o, rfl, hbl, hr⟩ := hx (by omega)
          cases e'
          obtain ⟨rv, fv, ev, r0, r1, r2, r3, r4, hn⟩ := hr j hj
          have hcj := HX.out _ (List.getElem_mem hj)
          have HI := Lib.hid (show HasId xs n from ⟨_, List.getElem_mem hj, hid⟩)
          have hraw2 := hn.raw
          clear hid hx hr hn r0 r3 r4
          generalize xs[j].kind = q at *
          generalize xs[j].raw = raw2 at *
          go_wp2
          go_ret
          exact ⟨_, rfl, fun _ => HI.out, HB.out⟩
      · have hk' : (k == 2) = false := by simpa using hk
        have hk2 : (k != 2) = true := by simp [bne, hk']
        have hkn : k ≠ 2 := by simpa using hk
        have HN := Lib.hid hkn
        clear hk hkn
        go_wp2
        all_goals
          go_ret
          exact ⟨_, rfl, (fun _ h => absurd h HN.out), HB.out⟩
    have hi0' : (i == 0) = false := by simpa using hi0
    clear hi0
    by_cases hi1 : i = 1
    · subst hi1
      by_cases hk : (k == 2) = true
      · have hk2 : k = 2 := by simpa using hk
        subst hk2
        go_upto_region 8 with (go_at_call 26; (with_reducible refine (HF.out _ (Below.refl _ _)).mono ?_); rintro e w2 ⟨rfl, rfl⟩)
        generalize hr : findM xs n = r at *
        by_cases h0 : r < 0
        · go_wp2
          go_ret
          exact ⟨_, rfl, (fun h => by cases h), HB.out⟩
        · obtain ⟨j, hj0, hj, hid⟩ := findM_found (xs := xs) (n := n) (by omega)
          rw [hr] at hj0
          subst hj0
          clear hr
          have h0' : ¬ ((j : Int) < 0) := h0
          obtain ⟨A', c', e', _, hx⟩ := H0.out
          obtain ⟨b, o, rfl, hbl, hr⟩ := hx (by omega)
          cases e'
          obtain ⟨rv, fv, ev, r0, r1, r2, r3, r4, hn⟩ := hr j hj
          have hcj := HX.out _ (List.getElem_mem hj)
          have HI := Lib.hid (show HasId xs n from ⟨_, List.getElem_mem hj, hid⟩)
          have hraw2 := hn.raw
          clear hid hx hr hn r0 r3 r4
          generalize xs[j].kind = q at *
          generalize xs[j].raw = raw2 at *
          obtain ⟨a0, a1, a2, rfl⟩ : ∃ a b c, raw = [a, b, c] := by
            match raw, hl3 with
            | [a, b, c], _ => exact ⟨a, b, c, rfl⟩
          obtain ⟨A3, c3, e3, _, hx3⟩ := HRAW.out
          obtain ⟨b3, o3, rfl, hbl3, hr3⟩ := hx3 (by simp)
          cases e3
          have z3 := hr3 0 (by simp)
          by_cases hq : (q == 6) = true
          · have hq6 : q = 6 := by simpa using hq
            obtain ⟨y, rfl⟩ := List.length_eq_one_iff.1 (hcj.1 hq6)
            obtain ⟨A2, c2, rfl, _, hx2⟩ := hraw2
            obtain ⟨b2, o2, rfl, hbl2, hr2⟩ := hx2 (by simp)
            have z2 := hr2 0 (by simp)
            simp only [List.length_cons, List.length_nil, Nat.add_zero, List.getElem_cons_zero] at r2 d2 z2 z3
            clear hx2 hr2 hx3 hr3 hcj hq6 hl3
            go_wp2
            go_quiet (fail)
            go_wp2
            go_ret
            exact ⟨_, rfl, fun _ => HI.out, below_dN HB.out _⟩
          · have hq' : (q == 6) = false := by simpa using hq
            clear hq hx3 hr3 hcj hl3 hraw2 r2 z3
            go_wp2
            go_quiet (fail)
            go_wp2
            go_ret
            exact ⟨_, rfl, (fun h => by cases h), below_dN HB.out _⟩
      · have hk' : (k == 2) = false := by simpa using hk
        have hk2 : (k != 2) = true := by simp [bne, hk']
        have hkn : k ≠ 2 := by simpa using hk
        have HN := Lib.hid hkn
        clear hk hkn
        go_wp2
        all_goals
          go_ret
          exact ⟨_, rfl, (fun _ h => absurd h HN.out), HB.out⟩
    have hi1' : (i == 1) = false := by simpa using hi1
    clear hi1
    go_wp2_with (go_at_call 21; (with_reducible refine (HP.out _ (Below.refl _ _)).mono ?_); rintro e w1 ⟨rfl, hb1⟩)
    go_ret
    exact ⟨_, rfl, (fun h e => by subst e; exact plainM_has h), HB.out.trans (hb1.mono HB.out.size)⟩
  · have h11' : (kd == 11) = false := by simpa using h11
    clear h11 hcnt
    go_wp2_with (go_at_call 21; (with_reducible refine (HP.out _ (Below.refl _ _)).mono ?_); rintro e w1 ⟨rfl, hb1⟩)
    go_ret
    exact ⟨_, rfl, (fun h e => by subst e; exact plainM_has h), HB.out.trans (hb1.mono HB.out.size)⟩
end Go.Proofs.YtpejmgellidhbaaDoor
