/- The statement ShowNumbers: its walk. -/
import Derived.Test.YtpejmgellidhbaaDoorO2
import Derived.Test.YtpejmgellidhbaaDoorO3
namespace Go.Proofs.YtpejmgellidhbaaDoor
open Go.RowKit

theorem retTrue {w w' : World} (h : Below w.heap.size w w') : (Ending.returned (.bool true) = .returned (.bool true)) ∧ Below w.heap.size w w' := ⟨rfl, h⟩
theorem take_step {fs : List (Int × Int)} (t : Int × Int → Int × Int) {k : Nat} (h : k < fs.length) : (fs.take (k + 1)).map t = (fs.take k).map t ++ [t fs[k]] := by
  rw [List.take_succ_eq_append_getElem h, List.map_append]
  rfl
theorem GrIn.grown_own {w0 w w' : World} {g : Nat} {sv : Value} {ps : List NRec} (h : GrIn w0 w g sv ps) (hg : w.grownBy w' sv.ownBlock) : w'.heap[g]? = some (.cells #[sv, .slice none 0 0] 25 (0, 0)) := by
  refine (hg.block g (blk_lt h.own) fun e => ?_).trans h.own
  obtain ⟨_, cs, hcs⟩ := own_blk h.row g e.symm
  rw [h.own] at hcs
  simp at hcs
theorem row_len2 {w : World} {base m n e size : Nat} {v : Value} {xs : List Value} (h : n = m) (hr : w.ownsRow base e size v n xs) : w.ownsRow base e size v m xs := h ▸ hr
set_option maxRecDepth 100000 in
set_option maxHeartbeats 8000000 in
theorem numbers_any (nv rv : Value) (xs : List (Nd × List Ent)) (rs : List (Int × Int)) (q add k n : Int) (w : World) (hT : Tabs w) (h : RdNodesE w nv xs) (hr : RdVals w rv rs) (hint : ∀ x ∈ xs, IntOk (rawM x.1.raw)) :
    Calls Tryd.prog 3 #[.agg #[nv, rv], .int .i64 q, .int .i64 add, .agg #[.int .i64 k, .int .i64 n]] w fun e w' => e = .returned (.bool true) ∧ Below w.heap.size w w' := by
  obtain ⟨A, c, rfl⟩ : ∃ A c, nv = .slice A xs.length c := by obtain ⟨A, c, e, _⟩ := h; exact ⟨A, c, e⟩
  have hxl : xs.length ≤ 140737488351232 := by obtain ⟨A, c, e, hl, _⟩ := h; exact hl
  obtain ⟨Ar, cr, rfl⟩ : ∃ A c, rv = .slice A rs.length c := by obtain ⟨A, c, e, _⟩ := hr; exact ⟨A, c, e⟩
  have hrl : rs.length ≤ 140737488351232 := by obtain ⟨A, c, e, hl, _⟩ := hr; exact hl
  go_enter Tryd.func3, Tryd.ntmps3
  go_upto_region 1 with (fail)
  have hb0 : Below w.heap.size w ((w.alloc (.cells #[.slice A xs.length c, .slice Ar rs.length cr] 25)).alloc (.cells #[.int .i64 k, .int .i64 n] 27)) := ((Below.refl _ _).alloc (Nat.le_refl _) _).alloc (by simp) _
  have hc0 := ha_old (x := .cells #[.int .i64 k, .int .i64 n] 27) (ha_new w (.cells #[.slice A xs.length c, .slice Ar rs.length cr] 25))
  have hc1 := ha_new (w.alloc (.cells #[.slice A xs.length c, .slice Ar rs.length cr] 25)) (.cells #[.int .i64 k, .int .i64 n] 27)
  simp only [World.size_alloc] at hc1
  have h0 := h.below hb0 (Nat.le_refl _)
  have hr0 := hr.below hb0 (Nat.le_refl _)
  have hT0 := hT.below hb0 (Nat.le_refl _)
  generalize World.alloc (World.alloc w _) _ = V at *
  have HV := Lib.hid (And.intro h0 (And.intro hr0 (And.intro hT0 hb0)))
  have HI := Lib.hid hint
  have HC := Lib.hid (And.intro hc0 hc1)
  obtain ⟨g, hg⟩ : ∃ g, g = w.heap.size := ⟨_, rfl⟩
  rw [← hg] at HC hc0 hc1
  rw [← hg]
  have hcell : ∀ W', Below V.heap.size V W' → W'.cell? ⟨g, 0, none⟩ = some (.slice A xs.length c) ∧ W'.cell? ⟨g, 1, none⟩ = some (.slice Ar rs.length cr) ∧ W'.cell? ⟨g + 1, 0, none⟩ = some (.int .i64 k) ∧ W'.cell? ⟨g + 1, 1, none⟩ = some (.int .i64 n) := fun W' hW' => by
    have h2 := blk_below hW' hc0 (blk_lt hc0)
    have h3 := blk_below hW' hc1 (blk_lt hc1)
    exact ⟨(bc h2 0).trans rfl, (bc h2 1).trans rfl, (bc h3 0).trans rfl, (bc h3 1).trans rfl⟩
  have HCELL := Lib.hid hcell
  clear h hr hT hint hb0 h0 hr0 hT0 hc0 hc1 hcell hg
  go_upto_region 3 with (first | (go_at_call 8; (with_reducible refine (alive_any _ HV.out.2.2.1).mono ?_); rintro e w1 ⟨rfl, hb1⟩; obtain ⟨f0, f1, f2, f3⟩ := HCELL.out _ hb1) | (go_at_call 9; (with_reducible refine (dear_any _ _ xs rs _ (HV.out.1.below hb1 (Nat.le_refl _)) (HV.out.2.1.below hb1 (Nat.le_refl _))).mono ?_); rintro e w2 ⟨bd, rfl, hlight, hb2⟩; have HL := Lib.hid hlight; have HB2 := Lib.hid (hb1.trans (hb2.mono hb1.size)); clear hlight f0 f1 f2 f3 hb1 hb2))
  have hret : ∀ W', Below V.heap.size V W' → Below w.heap.size w W' := fun W' hW' => HV.out.2.2.2.trans (hW'.mono HV.out.2.2.2.size)
  have HRET := Lib.hid hret
  clear hret
  cases bd with
  | true =>
    go_wp2
    go_ret
    exact ⟨rfl, HRET.out _ HB2.out⟩
  | false =>
  have hlight := HL.out rfl
  clear HL
  have HL := Lib.hid hlight
  clear hlight
  by_cases hq1 : q < 1
  · go_wp2
    go_ret
    exact ⟨rfl, HRET.out _ HB2.out⟩
  have hq1' : decide (q < 1) = false := by simpa using hq1
  by_cases hq2 : 1000 < q
  · go_wp2
    go_ret
    exact ⟨rfl, HRET.out _ HB2.out⟩
  have hq2' : decide (1000 < q) = false := by simpa using hq2
  by_cases ha1 : add < 0
  · go_wp2
    go_ret
    exact ⟨rfl, HRET.out _ HB2.out⟩
  have ha1' : decide (add < 0) = false := by simpa using ha1
  by_cases ha2 : 1000000 < add
  · go_wp2
    go_ret
    exact ⟨rfl, HRET.out _ HB2.out⟩
  have ha2' : decide (1000000 < add) = false := by simpa using ha2
  have HQ := Lib.hid (show (1 ≤ q ∧ q ≤ 1000) ∧ (0 ≤ add ∧ add ≤ 1000000) from ⟨⟨by omega, by omega⟩, by omega, by omega⟩)
  clear hq1 hq2 ha1 ha2
  obtain ⟨f0, f1, f2, f3⟩ := HCELL.out _ HB2.out
  go_upto_region 6 with (go_at_call 10; (with_reducible refine (check_any _ _ xs rs _ (HV.out.1.below HB2.out (Nat.le_refl _)) (HV.out.2.1.below HB2.out (Nat.le_refl _))).mono ?_); rintro e w3 ⟨r, rfl, hchk, hb3⟩; have HCH := Lib.hid hchk; have HB3 := Lib.hid (HB2.out.trans (hb3.mono HB2.out.size)); clear hchk hb3)
  by_cases hr0 : (r != 0) = true
  · go_wp2
    go_ret
    exact ⟨rfl, HRET.out _ HB3.out⟩
  have hr1 : (r != 0) = false := by simpa using hr0
  have hchk := HCH.out (by simpa using hr0)
  clear HCH hr0 f0 f1 f2 f3
  have HCH := Lib.hid hchk
  clear hchk hq1' hq2' ha1' ha2'
  generalize hV2 : w3 = V2 at *
  clear hV2
  go_upto_region 9 with (fail)
  have hst : GrIn V2 (V2.alloc (.cells #[.slice none 0 0, .slice none 0 0] 25)) V2.heap.size (.slice none 0 0) [] :=
    ⟨ha_new _ _, Nat.le_refl _, ⟨rfl, .inl ⟨rfl, rfl⟩⟩, fun p hp => by simp at hp⟩
  have hbst : Below V2.heap.size V2 (V2.alloc (.cells #[.slice none 0 0, .slice none 0 0] 25)) := (Below.refl _ _).alloc (Nat.le_refl _) _
  generalize World.alloc V2 _ = W0 at *
  obtain ⟨hg, hhg⟩ : ∃ hg, hg = V2.heap.size := ⟨_, rfl⟩
  rw [← hhg] at hst
  rw [← hhg]
  have HHG := Lib.hid hhg
  have HST := Lib.hid (And.intro hst hbst)
  have hcell2 : ∀ W', Below V2.heap.size V2 W' → W'.cell? ⟨g, 0, none⟩ = some (.slice A xs.length c) ∧ W'.cell? ⟨g, 1, none⟩ = some (.slice Ar rs.length cr) ∧ W'.cell? ⟨g + 1, 0, none⟩ = some (.int .i64 k) ∧ W'.cell? ⟨g + 1, 1, none⟩ = some (.int .i64 n) := fun W' hW' => HCELL.out W' (HB3.out.trans (hW'.mono HB3.out.size))
  have HCELL2 := Lib.hid hcell2
  have HV2 := Lib.hid (And.intro (HV.out.1.below HB3.out (Nat.le_refl _)) (And.intro (HV.out.2.1.below HB3.out (Nat.le_refl _)) (HV.out.2.2.1.below HB3.out (Nat.le_refl _))))
  have HRET2 := Lib.hid (fun W' (hW' : Below V2.heap.size V2 W') => HRET.out W' (HB3.out.trans (hW'.mono HB3.out.size)))
  obtain ⟨f0, f1, f2, f3⟩ := hcell2 _ hbst
  clear hst hbst hcell2 hhg HCELL HRET HV HB2
  go_wp2
  clear f0 f1 f2 f3
  go_loopw [13] (fun iv wr => ∃ (i : Nat) (sv : Value) (ps : List NRec), i ≤ xs.length ∧ iv = .int .i64 ((i : Int) - 1) ∧ GrIn V2 wr hg sv ps ∧ ps.map (·.1) = doneNs (fun m => m * q + add) (xs.map (·.1)) i ∧ (i < xs.length → Bd (xs.map (·.1))) ∧ Below V2.heap.size V2 wr) (fun iv _ => (intOf iv + 1).toNat)
  case atStart => exact ⟨xs.length, _, _, Nat.le_refl _, rfl, HST.out.1, by rw [show xs.length = (xs.map (·.1)).length by simp, doneNs_end]; rfl, fun h => absurd h (by omega), HST.out.2⟩
  case round =>
    obtain ⟨i, sv, ps, hi, rfl, hgr, hps, hbd, hbw⟩ := hrel
    have HG := Lib.hid hgr
    have HPS := Lib.hid hps
    have HBD := Lib.hid hbd
    have HBW := Lib.hid hbw
    obtain ⟨f0, f1, f2, f3⟩ := HCELL2.out _ hbw
    clear hgr hps hbd hbw
    cases i with
    | zero =>
      have e0 : ((0 : Nat) : Int) - 1 = -1 := rfl
      go_upto_region 21 with (fail)
      have hok : ValOk (k, n) ∨ (k = 2 ∧ (n < 0 ∨ 1099511627776 < n)) := by
        by_cases hk2 : k = 2
        · by_cases hn1 : n < 0
          · exact .inr ⟨hk2, .inl hn1⟩
          · by_cases hn2 : 1099511627776 < n
            · exact .inr ⟨hk2, .inr hn2⟩
            · exact .inl fun _ => ⟨by simpa using hn1, by simpa using hn2⟩
        · exact .inl fun h => absurd h hk2
      rcases hok with hok | ⟨hk2, hn12⟩
      case inr =>
        subst hk2
        rcases hn12 with hn1 | hn2
        · go_wp2
          go_ret
          exact ⟨rfl, HRET2.out _ HBW.out⟩
        · have hn3 : ¬ n < 0 := by omega
          go_wp2
          go_ret
          exact ⟨rfl, HRET2.out _ HBW.out⟩
      case inl =>
        have HOK := Lib.hid hok
        have hsm : SmallNodes (xs.map (·.1)) := fun nd hnd => by
          obtain ⟨x, hx, rfl⟩ := List.mem_map.1 hnd
          exact ⟨(HL.out.2 x hx).2, (HL.out.2 x hx).1, HI.out x hx⟩
        have HSM := Lib.hid hsm
        clear hok hsm
        go_cut [116] (fun s wx => s = .bool false ∧ wx = wr)
        case first =>
          by_cases hk2 : (k == 2) = true
          · have hk3 : k = 2 := by simpa using hk2
            obtain ⟨n1, n2⟩ := HOK.out hk3
            simp only at n1 n2
            have hn1 : ¬ n < 0 := by omega
            have hn2 : ¬ 1099511627776 < n := by omega
            subst hk3
            go_wp2
            go_meet
            case rel => exact ⟨rfl, rfl⟩
          · have hk3 : (k == 2) = false := by simpa using hk2
            clear hk2
            go_wp2
            go_meet
            case rel => exact ⟨rfl, rfl⟩
        case rest =>
          obtain ⟨rfl, hwx⟩ := hcut
          subst hwx
          obtain ⟨f0, f1, f2, f3⟩ := HCELL2.out _ HBW.out
          obtain ⟨R, hR⟩ : ∃ R : ByteArray, R = ⟨(showM (xs.map (·.1)) (k, n)).1.toArray⟩ := ⟨_, rfl⟩
          obtain ⟨E, hE⟩ : ∃ E : Int, E = (showM (xs.map (·.1)) (k, n)).2 := ⟨_, rfl⟩
          have hG : Calls Tryd.prog 12 #[.agg #[.slice A xs.length c, .slice Ar rs.length cr], .agg #[.int .i64 k, .int .i64 n]] wc fun e w' => e = .returned (.tuple #[.string R, .agg #[.int .i64 E, .int .i64 0]]) ∧ Below wc.heap.size wc w' := by
            refine (graph_any wc _ _ (xs.map (·.1)) (k, n) (HV2.out.2.2.below HBW.out (Nat.le_refl _)) (HV2.out.1.rd.below HBW.out (Nat.le_refl _)) ⟨Ar, rs.length, cr, rfl⟩ HSM.out).mono ?_
            rintro e w' ⟨rfl, hb⟩
            rw [hR, hE]
            exact ⟨rfl, hb⟩
          have HGR := Lib.hid hG
          have HRE := Lib.hid (And.intro hR hE)
          clear hG hR hE
          go_upto_region 24 with (go_at_call 12; (with_reducible refine HGR.out.mono ?_); rintro e w4 ⟨rfl, hb4⟩)
          have hB5 : Below V2.heap.size V2 (w4.alloc (.cells #[.int .i64 E, .int .i64 0] 38)) := (HBW.out.trans (hb4.mono HBW.out.size)).alloc (HBW.out.trans (hb4.mono HBW.out.size)).size _
          have hG5 := HG.out.below (hb4.alloc hb4.size (.cells #[.int .i64 E, .int .i64 0] 38))
          have hF5 := ha_new w4 (.cells #[.int .i64 E, .int .i64 0] 38)
          generalize World.alloc w4 _ = V5 at *
          obtain ⟨fb1, hfb1⟩ : ∃ fb1, fb1 = w4.heap.size := ⟨_, rfl⟩
          rw [← hfb1] at hF5
          rw [← hfb1]
          have HF5 := Lib.hid hF5
          have HB5 := Lib.hid hB5
          have HG5 := Lib.hid hG5
          clear hfb1 hb4 f0 f1 f2 f3
          obtain ⟨sN, snc, hsv⟩ := ownsRow_slice hG5.row
          subst hsv
          have hrd : RdNodes V5 (.slice sN ps.length snc) ((xs.map (·.1)).map (turnNd fun m => m * q + add)).reverse := by
            have h1 := hG5.rd hB5 (by
              have h1 := congrArg List.length HPS.out
              rw [List.length_map, doneNs_len, List.length_map] at h1
              have := HL.out.1
              omega)
            rw [HPS.out, doneNs_zero] at h1
            exact h1
          have hS : ∀ W', Below V5.heap.size V5 W' → W'.cell? ⟨hg, 0, none⟩ = some (.slice sN ps.length snc) ∧ W'.cell? ⟨hg, 1, none⟩ = some (.slice none 0 0) ∧ W'.cell? ⟨g + 1, 0, none⟩ = some (.int .i64 k) ∧ W'.cell? ⟨g + 1, 1, none⟩ = some (.int .i64 n) := fun W' hW' => by
            have h2 := blk_below hW' HG5.out.own (blk_lt HG5.out.own)
            have h3 := HCELL2.out W' (HB5.out.trans (hW'.mono HB5.out.size))
            exact ⟨(bc h2 0).trans rfl, (bc h2 1).trans rfl, h3.2.2.1, h3.2.2.2⟩
          obtain ⟨⟨y1, y2⟩, hy⟩ : ∃ y, y = turnM (fun m => m * q + add) (k, n) := ⟨_, rfl⟩
          have hC11 : ∀ W', Below V5.heap.size V5 W' → Calls Tryd.prog 11 #[.agg #[.int .i64 k, .int .i64 n], .int .i64 q, .int .i64 add] W' fun e w' => e = .returned (.agg #[.int .i64 y1, .int .i64 y2]) ∧ Below W'.heap.size W' w' ∧ Below V5.heap.size V5 w' := fun W' hW' => by
            refine (turned_any q add k n W' HOK.out HQ.out.1 HQ.out.2).mono ?_
            rintro e w' ⟨rfl, hb⟩
            rw [← hy]
            exact ⟨rfl, hb, hW'.trans (hb.mono hW'.size)⟩
          have hC12 : ∀ W', Below V5.heap.size V5 W' → Calls Tryd.prog 12 #[.agg #[.slice sN ps.length snc, .slice none 0 0], .agg #[.int .i64 y1, .int .i64 y2]] W' fun e w' => e = .returned (.tuple #[.string R, .agg #[.int .i64 E, .int .i64 0]]) ∧ Below W'.heap.size W' w' ∧ Below V5.heap.size V5 w' := fun W' hW' => by
            refine (graph_any W' _ _ _ (y1, y2) ((HV2.out.2.2.below HB5.out (Nat.le_refl _)).below hW' (Nat.le_refl _)) (hrd.below hW' (Nat.le_refl _)) ⟨none, 0, 0, rfl⟩ (small_turn HSM.out)).mono ?_
            rintro e w' ⟨rfl, hb⟩
            have hbd0 : Bd (xs.map (·.1)) := by
              by_cases h0 : 0 < xs.length
              · exact HBD.out h0
              · have : xs = [] := List.length_eq_zero_iff.1 (by omega)
                subst this
                exact fun nd h => by simp at h
            have htn := turner_lin HQ.out.1 HQ.out.2
            have hst := show_turn htn (found_turn htn hbd0 (seen_uniq HCH.out.1)) (seen_vals HCH.out.2 hbd0) HOK.out
            rw [hy, hst, HRE.out.1, HRE.out.2]
            exact ⟨rfl, hb, hW'.trans (hb.mono hW'.size)⟩
          obtain ⟨p0, p1, p2, p3⟩ := hS V5 (Below.refl _ _)
          have HC11 := Lib.hid hC11
          have HC12 := Lib.hid hC12
          have HS := Lib.hid hS
          have l6 := blk_lt hG5.own
          have l7 : g + 1 < V5.heap.size := Nat.lt_of_lt_of_le (blk_lt HC.out.2) ((HB3.out.trans (HB5.out.mono HB3.out.size)).size)
          have m1 : ¬ hg = V5.heap.size := by omega
          have m2 : ¬ V5.heap.size = hg := by omega
          have m3 : ¬ g + 1 = V5.heap.size := by omega
          have m4 : ¬ V5.heap.size = g + 1 := by omega
          clear hC11 hC12 hS hrd hy hG5 hB5 hF5
          go_cut [19, 20] (fun s19 s20 wx => s19 = .string R ∧ ∃ fb, s20 = .pointer (some ⟨fb, 0, none⟩) ∧ wx.heap[fb]? = some (.cells #[.int .i64 E, .int .i64 0] 38 (0, 0)) ∧ Below V5.heap.size V5 wx)
          case first =>
            go_region_held3 (fun w' => w'.cell? ⟨hg, 0, none⟩ = some (.slice sN ps.length snc) ∧ w'.cell? ⟨hg, 1, none⟩ = some (.slice none 0 0) ∧ w'.cell? ⟨g + 1, 0, none⟩ = some (.int .i64 k) ∧ w'.cell? ⟨g + 1, 1, none⟩ = some (.int .i64 n)) (go_keep)
              (first | (go_at_call 11; (with_reducible refine (HC11.out _ ?_).mono ?_); (first | (exact (Below.refl _ _).drew) | go_grown); rintro e w7 ⟨rfl, hb7, hB7⟩; obtain ⟨hc7, hf7⟩ := bcell hb7; obtain ⟨p0, p1, p2, p3⟩ := HS.out _ hB7; have l8 := Nat.lt_of_lt_of_le l6 hB7.size; have l9 := Nat.lt_of_lt_of_le l7 hB7.size; have m5 := Nat.ne_of_lt l8; have m6 := Nat.ne_of_gt l8; have m7 := Nat.ne_of_lt l9; have m8 := Nat.ne_of_gt l9; have hs7 := hb7.size; (try rw [size_drew] at hs7); (try rw [World.size_alloc] at hs7); (try have e7 : V5.heap.size < w7.heap.size := hs7)) | (go_at_call 12; (with_reducible refine (HC12.out _ ?_).mono ?_); (first | assumption | exact hB7.alloc hB7.size _ | go_grown); rintro e w8 ⟨rfl, hb8, hB8⟩; obtain ⟨hc8, hf8⟩ := bcell hb8; obtain ⟨p4, p5, p6, p7⟩ := HS.out _ hB8; have l10 := Nat.lt_of_lt_of_le l6 hB8.size; have l11 := Nat.lt_of_lt_of_le l7 hB8.size; have m9 := Nat.ne_of_lt l10; have m10 := Nat.ne_of_gt l10; have m11 := Nat.ne_of_lt l11; have m12 := Nat.ne_of_gt l11; have hs8 := hb8.size; (try rw [size_drew] at hs8); (try rw [World.size_alloc] at hs8); (try have e8 : w7.heap.size < w8.heap.size := hs8)))
            all_goals
              go_wp2_with fail
              go_meet
              case rel =>
                refine ⟨rfl, ?_⟩
                first
                  | with_reducible exact flt_late E hB8
                  | with_reducible exact flt_early E hB7 hb8
                  | with_reducible exact flt_first E hb7 hb8
          case rest =>
            obtain ⟨rfl, fb2, rfl, hfb2, hbc2⟩ := hcut
            generalize hwx : wc = wx at hfb2 hbc2 ⊢
            clear hwx
            have k1 := blk_below hbc2 HF5.out (blk_lt HF5.out)
            have c0 : wx.cell? ⟨fb1, 0, none⟩ = some (.int .i64 E) := bc k1 0
            have c1 : wx.cell? ⟨fb1, 1, none⟩ = some (.int .i64 0) := bc k1 1
            have c2 : wx.cell? ⟨fb2, 0, none⟩ = some (.int .i64 E) := bc hfb2 0
            have c3 : wx.cell? ⟨fb2, 1, none⟩ = some (.int .i64 0) := bc hfb2 1
            have HB9 := Lib.hid (HB5.out.trans (hbc2.mono HB5.out.size))
            clear k1 hfb2 hbc2 p0 p1 p2 p3 m1 m2 m3 m4 l6 l7
            go_wp2_with (go_at_call 13; (with_reducible refine (same_any E 0 _).mono ?_); rintro e w9 ⟨rfl, hb9⟩)
            go_ret
            exact ⟨rfl, HRET2.out _ (HB9.out.trans (hb9.mono HB9.out.size))⟩
    | succ j =>
      have e0 : ((j + 1 : Nat) : Int) - 1 = (j : Int) := by omega
      rw [e0]
      clear e0
      obtain ⟨A2, c2, e2, _, hx⟩ := HV2.out.1.below HBW.out (Nat.le_refl _)
      obtain ⟨b, o, rfl, hbl, hr⟩ := hx (by omega)
      cases e2
      obtain ⟨rv, fv, ev, r0, r1, r2, r3, r4, hn, he⟩ := hr j (by omega)
      obtain ⟨Aa, na, ca, rfl⟩ := hn.rawForm
      obtain ⟨Af, nf, cf, rfl⟩ := hn.fieldsForm
      obtain ⟨Ae, ne, ce, rfl⟩ := hn.ev
      have hjx : j < xs.length := by omega
      have hraw2 : RdInts V2 (.slice Aa na ca) xs[j].1.raw := by
        obtain ⟨A3, c3, e3, _, hx3⟩ := HV2.out.1
        obtain ⟨b3, o3, e4, hbl3, hr3⟩ := hx3 (by omega)
        cases e3
        cases e4
        obtain ⟨rv3, fv3, ev3, _, _, t2, _, _, hn3, _⟩ := hr3 j (by omega)
        have t3 := (HBW.out.cell (p := ⟨b, o + j * 5 + 2, none⟩) hbl3).trans t2
        rw [r2] at t3
        cases t3
        exact hn3.raw
      have hjn : idAt (xs.map (·.1)) j = xs[j].1.id := by
        obtain ⟨h', e'⟩ := ns_get (xs := xs) (i := j) hjx
        rw [idAt_get h', e']
      have HN := Lib.hid (And.intro hn hjn)
      have HRAW := Lib.hid hraw2
      clear hx hr hn he hjn hraw2
      generalize hid : xs[j].1.id = id at *
      generalize hkd : xs[j].1.kind = kd at *
      have HID := Lib.hid (And.intro hid hkd)
      clear hid hkd
      go_upto_region 13 with (fail)
      have hW : Below wr.heap.size wr (wr.alloc (.cells #[.int .i64 id, .int .i64 kd, .slice Aa na ca, .slice Af nf cf, .slice Ae ne ce] 34)) := (Below.refl _ _).alloc (Nat.le_refl _) _
      have hnb := ha_new wr (.cells #[.int .i64 id, .int .i64 kd, .slice Aa na ca, .slice Af nf cf, .slice Ae ne ce] 34)
      generalize World.alloc wr _ = W at *
      obtain ⟨nb, hnbe⟩ : ∃ nb, nb = wr.heap.size := ⟨_, rfl⟩
      rw [← hnbe] at hnb
      rw [← hnbe]
      have m0 : W.cell? ⟨nb, 0, none⟩ = some (.int .i64 id) := bc hnb 0
      have m1 : W.cell? ⟨nb, 1, none⟩ = some (.int .i64 kd) := bc hnb 1
      have m2 : W.cell? ⟨nb, 2, none⟩ = some (.slice Aa na ca) := bc hnb 2
      have HW := Lib.hid (And.intro hW hnb)
      have HVW := Lib.hid (HBW.out.trans (hW.mono HBW.out.size))
      have HNE := Lib.hid hnbe
      clear hW hnb hnbe r0 r1 r2 r3 r4 hbl f0 f1 f2 f3
      by_cases hbig : 1099511627776 < id
      · go_wp2
        go_ret
        exact ⟨rfl, HRET2.out _ HVW.out⟩
      have hbd2 : Bd (xs.map (·.1)) := by
        by_cases hlast : j + 1 < xs.length
        · exact HBD.out hlast
        · refine seen_bd HCH.out.1 (by rw [List.length_map]; omega) ?_
          rw [List.length_map, show xs.length - 1 = j by omega, HN.out.2]
          omega
      have HBD2 := Lib.hid hbd2
      have hidn : NumOk id := by
        obtain ⟨h', e'⟩ := ns_get (xs := xs) (i := j) hjx
        have := hbd2 _ (List.getElem_mem h')
        rw [e', HID.out.1] at this
        exact this
      have hp : 0 ≤ id * q ∧ id * q ≤ 1099511627776000 := by
        obtain ⟨⟨q1, q2⟩, _⟩ := HQ.out
        constructor
        · exact Int.mul_nonneg hidn.1 (by omega)
        · have h1 : id * q ≤ 1099511627776 * q := Int.mul_le_mul_of_nonneg_right hidn.2 (by omega)
          omega
      obtain ⟨p, hpe⟩ : ∃ p, p = id * q := ⟨_, rfl⟩
      rw [← hpe] at hp
      have e1 : IntKind.i64.wrap (id * q) = p := by rw [← hpe]; exact IntWalk.i64_in _ (by omega)
      have e2 : IntKind.i64.wrap (p + add) = p + add := by
        obtain ⟨_, a1, a2⟩ := HQ.out
        exact IntWalk.i64_in _ (by omega)
      have HPE := Lib.hid (And.intro hpe hp)
      clear hbd2 hidn hp hpe HBD
      have m3 : W.cell? ⟨nb, 3, none⟩ = some (.slice Af nf cf) := bc HW.out.2 3
      go_upto_region 16 with (fail)
      obtain ⟨fs, hfs⟩ : ∃ fs, fs = xs[j].1.fields := ⟨_, rfl⟩
      have hfv : RdVals wr (.slice Af nf cf) fs := by rw [hfs]; exact HN.out.1.fields
      have hfl : nf = fs.length := by
        obtain ⟨A9, c9, e9, _⟩ := hfv
        cases e9
        rfl
      have hf20 : fs.length ≤ 20000 := by rw [hfs]; exact (HL.out.2 _ (List.getElem_mem hjx)).2
      have hfok : ∀ x ∈ fs, ValOk x := by
        obtain ⟨h', e'⟩ := ns_get (xs := xs) (i := j) hjx
        rw [hfs, ← e']
        exact seen_vals HCH.out.2 HBD2.out _ (List.getElem_mem h')
      subst hfl
      have HFS := Lib.hid (And.intro hfs (And.intro hfv hfok))
      clear hfs hfv hfok
      have hfld : FldAt W (W.alloc (.cells #[.int .i64 (p + add), .int .i64 kd, .slice Aa na ca, .slice none 0 0, .slice none 0 0] 34)) W.heap.size (p + add) kd (.slice Aa na ca) (.slice none 0 0) [] :=
        ⟨ha_new _ _, rfl, ⟨rfl, .inl ⟨rfl, rfl⟩⟩, (Below.refl _ _).alloc (Nat.le_refl _) _⟩
      generalize World.alloc W _ = Wm at *
      obtain ⟨mb, hmb⟩ : ∃ mb, mb = W.heap.size := ⟨_, rfl⟩
      rw [← hmb] at hfld
      rw [← hmb]
      have HFLD := Lib.hid hfld
      have HMB := Lib.hid hmb
      have hnw := blk_lt HW.out.2
      have q3 : Wm.cell? ⟨nb, 3, none⟩ = some (.slice Af fs.length cf) := (hfld.below.cell (p := ⟨nb, 3, none⟩) hnw).trans m3
      clear m0 m1 m2 hfld hmb e1 e2
      go_wp2
      clear q3
      go_loopw [16] (fun kv wr => ∃ (k : Nat) (fv : Value), k ≤ fs.length ∧ kv = .int .i64 k ∧ FldAt W wr mb (p + add) kd (.slice Aa na ca) fv ((fs.take k).map (turnM fun m => m * q + add))) (fun kv _ => fs.length - (intOf kv).toNat)
      case atStart => exact ⟨0, _, Nat.zero_le _, rfl, HFLD.out⟩
      case round =>
        obtain ⟨kk, fv, hk, rfl, hfa⟩ := hrel
        generalize hwz : wr = wz at hfa ⊢
        have HFA := Lib.hid hfa
        have q3 : wz.cell? ⟨nb, 3, none⟩ = some (.slice Af fs.length cf) := (hfa.below.cell (p := ⟨nb, 3, none⟩) hnw).trans m3
        clear hfa
        by_cases hkn : kk < fs.length
        · obtain ⟨A9, c9, e9, hl9, hx9⟩ := HFS.out.2.1
          cases e9
          obtain ⟨b9, o9, rfl, hb9, hr9⟩ := hx9 (by omega)
          obtain ⟨z1, z2⟩ := hr9 kk hkn
          have hxok := HFS.out.2.2 _ (List.getElem_mem hkn)
          obtain ⟨x, hx⟩ : ∃ x, x = fs[kk] := ⟨_, rfl⟩
          rw [← hx] at z1 z2 hxok
          have hbz := HW.out.1.trans (HFA.out.below.mono HW.out.1.size)
          have z3 : wz.cell? ⟨b9, o9 + kk * 2, none⟩ = some (.int .i64 x.1) := (hbz.cell (p := ⟨b9, _, none⟩) hb9).trans z1
          have z4 : wz.cell? ⟨b9, o9 + kk * 2 + 1, none⟩ = some (.int .i64 x.2) := (hbz.cell (p := ⟨b9, _, none⟩) hb9).trans z2
          have HXX := Lib.hid (And.intro hx hxok)
          have HBZ := Lib.hid hbz
          clear hx9 hr9 z1 z2 hx hxok hbz
          obtain ⟨x1, x2⟩ := x
          simp only at z3 z4
          obtain ⟨⟨y1, y2⟩, hy⟩ : ∃ y, y = turnM (fun m => m * q + add) (x1, x2) := ⟨_, rfl⟩
          have hC11 : ∀ W', Calls Tryd.prog 11 #[.agg #[.int .i64 x1, .int .i64 x2], .int .i64 q, .int .i64 add] W' fun e w' => e = .returned (.agg #[.int .i64 y1, .int .i64 y2]) ∧ Below W'.heap.size W' w' := fun W' => by
            refine (turned_any q add x1 x2 W' HXX.out.2 HQ.out.1 HQ.out.2).mono ?_
            rintro e w' ⟨rfl, hb⟩
            rw [← hy]
            exact ⟨rfl, hb⟩
          have HY := Lib.hid hy
          have HC11 := Lib.hid hC11
          clear hy hC11
          obtain ⟨i0, hi0, hz0, hz1, hz2⟩ := info_parts val_info
          have hml := blk_lt HFA.out.own
          have c3 : wz.cell? ⟨mb, 3, none⟩ = some fv := bc HFA.out.own 3
          have g3 := bf HFA.out.own
          obtain ⟨sF, sfc, hfv⟩ := ownsRow_slice HFA.out.row
          have hfl : ((fs.take kk).map (turnM fun m => m * q + add)).length = kk := by simp; omega
          rw [hfl] at hfv
          subst hfv
          have HFL := Lib.hid hfl
          have hmz : mb + 1 ≤ wz.heap.size := hml
          clear hfl
          go_upto_region 19 with (fail)
          go_region_law (first | (go_loud (refine step_append_at rfl (.tmp 86) (.tmp 95) 23 rfl (mb + 1) 27 i0 _ 2 16 Tryd.underlying23 hi0 hz0 hz1 hz2 rfl (by omega) (.slice sF kk sfc) kk (valCells ((fs.take kk).map (turnM fun m => m * q + add))) (by simp [Act.eval]) (by exact (World.ownsRow.alloc HR2.out _)) ⟨w2.heap.size, 0, none⟩ 1 1 [.int .i64 y1, .int .i64 y2] (by simp [Act.eval]) rfl (by exact new_at (hx_at rfl)) (by simp [Value.oneCell']) (by simp only [maxLen] <;> omega) (by omega) (by simp <;> omega) ?_; intro v1 w3 hown1 hg1 hat1; have h9 := (HG2.out.after ((Below.refl _ _).alloc (Nat.le_refl _) _)).grown_own hg1; have e9 := bc h9 3; have f9 := bf h9; obtain ⟨A1, cc1, rfl⟩ := ownsRow_slice hown1)) | (go_simp; go_at_call 11; refine (HC11.out _).mono ?_; rintro e w2 ⟨rfl, hb2⟩; obtain ⟨hc2, hf2⟩ := bcell hb2; have q4 := (hc2 mb 3 hml).trans c3; have hs2 := hb2.size; (try rw [size_drew] at hs2); have lm2 : mb < w2.heap.size := Nat.lt_of_lt_of_le hml hs2; have n1 : ¬ mb = w2.heap.size := (by omega); have HG2 := Lib.hid (HFA.out.after (by first | exact hb2 | exact (Below.refl wz.heap.size wz).drew.trans hb2)); have HR2 := Lib.hid (row_len2 HFL.out HG2.out.row)))
          all_goals
            go_wp2_with (fail)
            go_roundw
            case rel =>
              have hw2 := HFA.out.add (x := (y1, y2)) (w' := w2.alloc (.cells #[.int .i64 y1, .int .i64 y2] 27)) (((by first | exact hb2 | exact (Below.refl wz.heap.size wz).drew.trans hb2 : Below wz.heap.size wz w2).alloc (by first | exact hs2 | omega) _)) (by rw [HFL.out]) hown1 hg1
              rw [HY.out, HXX.out.1, ← take_step _ hkn] at hw2
              exact ⟨kk + 1, _, by omega, by go_num, hw2⟩
            case measure => simp [intOf]; omega
        · have hkk : kk = fs.length := by omega
          have hkn' : decide (kk < fs.length) = false := by simpa using hkn
          have hfa := HFA.out
          rw [hkk, List.take_length] at hfa
          obtain ⟨sF, sfc, hfv⟩ := ownsRow_slice hfa.row
          rw [show (fs.map (turnM fun m => m * q + add)).length = fs.length by simp] at hfv
          have hbz := HW.out.1.trans (HFA.out.below.mono HW.out.1.size)
          have hgz := HG.out.below hbz
          obtain ⟨sN, snc, hsv⟩ := ownsRow_slice hgz.row
          have hvz := HVW.out.trans (HFA.out.below.mono HVW.out.size)
          have hszz : V2.heap.size ≤ wz.heap.size := hvz.size
          have hpl : ps.length ≤ 20000 := by
            have h1 := congrArg List.length HPS.out
            rw [List.length_map, doneNs_len, List.length_map] at h1
            have := HL.out.1
            omega
          have HFA2 := Lib.hid hfa
          have HGZ := Lib.hid hgz
          have HVZ := Lib.hid hvz
          have hrw := hgz.row
          subst hfv hsv
          have HRW := Lib.hid hrw
          have cm0 : wz.cell? ⟨mb, 0, none⟩ = some (.int .i64 (p + add)) := bc hfa.own 0
          have cm1 : wz.cell? ⟨mb, 1, none⟩ = some (.int .i64 kd) := bc hfa.own 1
          have cm2 : wz.cell? ⟨mb, 2, none⟩ = some (.slice Aa na ca) := bc hfa.own 2
          have cm3 : wz.cell? ⟨mb, 3, none⟩ = some (.slice sF fs.length sfc) := bc hfa.own 3
          have cm4 : wz.cell? ⟨mb, 4, none⟩ = some (.slice none 0 0) := bc hfa.own 4
          have ch0 : wz.cell? ⟨hg, 0, none⟩ = some (.slice sN ps.length snc) := bc hgz.own 0
          have fh := bf hgz.own
          obtain ⟨i0, hi0, hz0, hz1, hz2⟩ := info_parts nd34_info
          clear hfa hgz hvz hrw hbz hkk hkn HFA
          go_upto_region 11 with (at_builtin; go_loud (refine wpList_append_own_at _ rfl (.tmp 99) (.tmp 101) 22 rfl V2.heap.size 34 i0 _ 5 88 Tryd.underlying22 hi0 hz0 hz1 hz2 rfl (by omega) (.slice sN ps.length snc) ps.length (recsC ps) rfl (by exact (World.ownsRow.alloc HRW.out _)) ⟨wz.heap.size, 0, none⟩ 1 1 [.int .i64 (p + add), .int .i64 kd, .slice Aa na ca, .slice sF fs.length sfc, .slice none 0 0] rfl rfl (by exact new_at (hx_at rfl)) (by simp [Value.oneCell']) (by simp only [maxLen] <;> omega) (by omega) (by simp <;> omega) ?_; intro v3 w3 hown3 hg3 hnil3 hat3; clear hnil3; have h9 := (HGZ.out.below ((Below.refl _ _).alloc (Nat.le_refl _) _)).grown_own hg3; have e9 := bc h9 0; have f9 := bf h9; obtain ⟨A3, cc3, rfl⟩ := ownsRow_slice hown3))
          have hrc : recC (turnNd (fun m => m * q + add) xs[j].1, .slice Aa na ca, .slice sF fs.length sfc) = [.int .i64 (p + add), .int .i64 kd, .slice Aa na ca, .slice sF fs.length sfc, .slice none 0 0] := by
            simp only [recC, turnNd, HID.out.1, HID.out.2, ← HPE.out.1]
          rw [← hrc] at hown3
          have hbm : V2.heap.size ≤ mb + 1 := by
            have h1 := HVW.out.size
            have h2 := HMB.out
            omega
          obtain ⟨hg9, hb9⟩ := HGZ.out.add hszz ((Below.refl _ _).alloc (Nat.le_refl _) _) (p := (turnNd (fun m => m * q + add) xs[j].1, .slice Aa na ca, .slice sF fs.length sfc)) ⟨HRAW.out, by
            show wz.ownsRow _ 27 2 _ (xs[j].1.fields.map (turnM _)).length (valCells (xs[j].1.fields.map (turnM _)))
            rw [← HFS.out.1]
            exact own_base HFA2.out.row hbm, by
            show (xs[j].1.fields.map (turnM _)).length ≤ 20000
            rw [← HFS.out.1, List.length_map]
            exact hf20⟩ rfl hown3 hg3
          have hps9 : (ps ++ [((turnNd (fun m => m * q + add) xs[j].1, .slice Aa na ca, .slice sF fs.length sfc) : NRec)]).map (·.1) = doneNs (fun m => m * q + add) (xs.map (·.1)) j := by
            obtain ⟨h', e'⟩ := ns_get (xs := xs) (i := j) hjx
            rw [doneNs_step _ _ j h', List.map_append, HPS.out, e']
            rfl
          have HN9 := Lib.hid (And.intro hg9 (And.intro hps9 (HVZ.out.trans hb9)))
          clear hg9 hb9 hps9 hown3 hg3 hat3 hrc h9 e9 f9 cm0 cm1 cm2 cm3 cm4 ch0 fh
          generalize World.setCell w3 _ _ = W9 at *
          go_wp2
          go_roundw
          case rel => exact ⟨j, _, _, by omega, rfl, HN9.out.1, HN9.out.2.1, fun _ => HBD2.out, HN9.out.2.2⟩
          case measure => simp [intOf]
end Go.Proofs.YtpejmgellidhbaaDoor
