/- Check of the reference of graphs: its walk. -/
import Derived.Test.YtpejmgellidhbaaDoorN6
namespace Go.Proofs.YtpejmgellidhbaaDoor
open Go.RowKit

theorem ns_get {xs : List (Nd × List Ent)} {i : Nat} (h : i < xs.length) : ∃ h' : i < (xs.map (·.1)).length, (xs.map (·.1))[i] = xs[i].1 := ⟨by rw [List.length_map]; exact h, by rw [List.getElem_map]⟩
theorem seen1_succ {xs : List (Nd × List Ent)} {i : Nat} (h : i < xs.length) (hs : Seen1 (xs.map (·.1)) i) (h1 : 1 ≤ xs[i].1.id) (h2 : 0 < i → idAt (xs.map (·.1)) (i - 1) < xs[i].1.id) (h3 : xs[i].1.kind = 6 → xs[i].1.raw.length = 1) (h4 : xs[i].1.kind = 11 → xs[i].1.raw.length = 3) : Seen1 (xs.map (·.1)) (i + 1) := by
  intro j hj hlt
  by_cases e : j = i
  · subst e
    rw [List.getElem_map]
    exact ⟨h1, h2, h3, h4⟩
  · exact hs j hj (by omega)
def Fit2 (ns : List Nd) (fs : List (Int × Int)) (k : Nat) : Prop := ∀ m, (h : m < fs.length) → m < k → fs[m].1 = 2 → HasId ns fs[m].2
theorem fit2_succ {ns : List Nd} {fs : List (Int × Int)} {k : Nat} (hk : k < fs.length) (h : Fit2 ns fs k) (hx : fs[k].1 = 2 → HasId ns fs[k].2) : Fit2 ns fs (k + 1) := by
  intro m hm hlt
  by_cases e : m = k
  · subst e
    exact hx
  · exact h m hm (by omega)
theorem seen2_succ {xs : List (Nd × List Ent)} {i : Nat} (h : i < xs.length) (hs : Seen2 (xs.map (·.1)) i) (hf : ∀ m, (hm : m < xs[i].1.fields.length) → xs[i].1.fields[m].1 = 2 → HasId (xs.map (·.1)) xs[i].1.fields[m].2) : Seen2 (xs.map (·.1)) (i + 1) := by
  intro j hj hlt
  by_cases e : j = i
  · subst e
    intro x hx
    rw [List.getElem_map] at hx
    obtain ⟨m, hm, rfl⟩ := List.getElem_of_mem hx
    exact hf m hm
  · exact hs j hj (by omega)
set_option maxRecDepth 100000 in
set_option maxHeartbeats 8000000 in
theorem check_any (nv rv : Value) (xs : List (Nd × List Ent)) (rs : List (Int × Int)) (w : World) (h : RdNodesE w nv xs) (hr : RdVals w rv rs) :
    Calls Tryd.prog 10 #[.agg #[nv, rv]] w (CheckPost (xs.map (·.1)) w) := by
  obtain ⟨A, c, rfl⟩ : ∃ A c, nv = .slice A xs.length c := by obtain ⟨A, c, e, _⟩ := h; exact ⟨A, c, e⟩
  have hxl : xs.length ≤ 140737488351232 := by obtain ⟨A, c, e, hl, _⟩ := h; exact hl
  obtain ⟨Ar, cr, rfl⟩ : ∃ A c, rv = .slice A rs.length c := by obtain ⟨A, c, e, _⟩ := hr; exact ⟨A, c, e⟩
  have hrl : rs.length ≤ 140737488351232 := by obtain ⟨A, c, e, hl, _⟩ := hr; exact hl
  go_enter Tryd.func10, Tryd.ntmps10
  go_upto_region 1 with (fail)
  have hb0 : Below w.heap.size w (w.alloc (.cells #[.slice A xs.length c, .slice Ar rs.length cr] 25)) := (Below.refl _ _).alloc (Nat.le_refl _) _
  have hc0 := ha_new w (.cells #[.slice A xs.length c, .slice Ar rs.length cr] 25)
  have h0 := h.below hb0 (Nat.le_refl _)
  have hr0 := hr.below hb0 (Nat.le_refl _)
  generalize World.alloc w _ = V at *
  have H0 := Lib.hid h0
  have HR0 := Lib.hid hr0
  have HB := Lib.hid hb0
  have HC := Lib.hid hc0
  obtain ⟨g, hg⟩ : ∃ g, g = w.heap.size := ⟨_, rfl⟩
  rw [← hg] at hc0 HC
  rw [← hg]
  have HG := Lib.hid hg
  clear h hr hb0 h0 hr0 hc0 hg
  go_wp2
  go_loopw [3] (fun iv wr => ∃ i : Nat, i ≤ xs.length ∧ iv = .int .i64 i ∧ Seen1 (xs.map (·.1)) i ∧ Below V.heap.size V wr) (fun iv _ => xs.length - (intOf iv).toNat)
  case atStart => exact ⟨0, Nat.zero_le _, rfl, fun _ _ h => absurd h (by omega), Below.refl _ _⟩
  case round =>
    obtain ⟨i, hi, rfl, hs, hbw⟩ := hrel
    have HS := Lib.hid hs
    have hgr := blk_below hbw HC.out (blk_lt HC.out)
    have cg0 : wr.cell? ⟨g, 0, none⟩ = some (.slice A xs.length c) := bc hgr 0
    have HGR := Lib.hid hgr
    have HBW := Lib.hid hbw
    clear hs hgr hbw
    by_cases hlt : i < xs.length
    · obtain ⟨A2, c2, e2, _, hx⟩ := H0.out.below HBW.out (Nat.le_refl _)
      obtain ⟨b, o, rfl, hbl, hr⟩ := hx (by omega)
      cases e2
      obtain ⟨rv, fv, ev, r0, r1, r2, r3, r4, hn, he⟩ := hr i hlt
      have hlen := Lib.hid hn.raw
      obtain ⟨Aa, na, ca, rfl⟩ := hn.rawForm
      obtain ⟨Af, nf, cf, rfl⟩ := hn.fieldsForm
      obtain ⟨Ae, ne, ce, rfl⟩ := hn.ev
      have hprev : 0 < i → wr.cell? ⟨b, o + (i - 1) * 5, none⟩ = some (.int .i64 (idAt (xs.map (·.1)) (i - 1))) := fun h => by
        obtain ⟨rv, fv, ev, q0, _⟩ := hr (i - 1) (by omega)
        obtain ⟨h', e'⟩ := ns_get (xs := xs) (i := i - 1) (by omega)
        rw [idAt_get h', e']
        exact q0
      have HP := Lib.hid hprev
      have HN := Lib.hid hn
      have HE := Lib.hid he
      clear hprev hx hr hn he
      generalize hid : xs[i].1.id = id at *
      generalize hkd : xs[i].1.kind = kd at *
      have HI := Lib.hid (And.intro hid hkd)
      clear hid hkd
      go_upto_region 5 with (fail)
      have hW : Below wr.heap.size wr (wr.alloc (.cells #[.int .i64 id, .int .i64 kd, .slice Aa na ca, .slice Af nf cf, .slice Ae ne ce] 34)) := (Below.refl _ _).alloc (Nat.le_refl _) _
      have hnb := ha_new wr (.cells #[.int .i64 id, .int .i64 kd, .slice Aa na ca, .slice Af nf cf, .slice Ae ne ce] 34)
      have hrlt : b < wr.heap.size := hbl
      generalize World.alloc wr _ = W at *
      obtain ⟨nb, hnbe⟩ : ∃ nb, nb = wr.heap.size := ⟨_, rfl⟩
      rw [← hnbe] at hnb
      rw [← hnbe]
      have HNE := Lib.hid hnbe
      clear hnbe
      have cg : W.cell? ⟨g, 0, none⟩ = some (.slice (some ⟨b, o, none⟩) xs.length c) := (hW.cell (p := ⟨g, 0, none⟩) (blk_lt HGR.out)).trans cg0
      have n0 : W.cell? ⟨nb, 0, none⟩ = some (.int .i64 id) := bc hnb 0
      have n1 : W.cell? ⟨nb, 1, none⟩ = some (.int .i64 kd) := bc hnb 1
      have n2 : W.cell? ⟨nb, 2, none⟩ = some (.slice Aa na ca) := bc hnb 2
      have n3 : W.cell? ⟨nb, 3, none⟩ = some (.slice Af nf cf) := bc hnb 3
      have n4 : W.cell? ⟨nb, 4, none⟩ = some (.slice Ae ne ce) := bc hnb 4
      have hpW : 0 < i → W.cell? ⟨b, o + (i - 1) * 5, none⟩ = some (.int .i64 (idAt (xs.map (·.1)) (i - 1))) := fun h => (hW.cell (p := ⟨b, o + (i - 1) * 5, none⟩) hbl).trans (HP.out h)
      have hla : na ≤ 140737488351232 := by
        obtain ⟨A9, c9, e9, hl9, _⟩ := HN.out.raw
        cases e9
        exact hl9
      have hlf : nf ≤ 140737488351232 := by
        obtain ⟨A9, c9, e9, hl9, _⟩ := HN.out.fields
        cases e9
        exact hl9
      have HPW := Lib.hid hpW
      have HW := Lib.hid hW
      have HNB := Lib.hid hnb
      clear hpW hW hnb cg0 r0 r1 r2 r3 r4 hbl hrlt
      generalize hpid : idAt (xs.map (·.1)) (i - 1) = pid at *
      have HPID := Lib.hid hpid
      clear hpid
      go_cut [47] (fun s wx => ∃ bb : Bool, s = .bool bb ∧ (bb = false → 1 ≤ id ∧ (0 < i → pid < id) ∧ (kd = 6 → na = 1) ∧ (kd = 11 → na = 3)) ∧ Below W.heap.size W wx)
      case first =>
        by_cases ha : id < 1
        · go_quiet (fail)
          go_wp2
          go_meet
          case rel => exact ⟨true, rfl, (fun h => by cases h), below_dN (Below.refl _ _) _⟩
        · have ha' : decide (id < 1) = false := by simpa using ha
          clear ha
          by_cases hi0 : 0 < i
          · have hpc := HPW.out hi0
            have e1 : IntKind.i64.wrap ((i : Int) - 1) = (i : Int) - 1 := IntWalk.i64_in _ (by omega)
            have e2 : (0 : Int) ≤ (i : Int) - 1 := by omega
            have e3 : ((i : Int) - 1).toNat = i - 1 := by omega
            have e4 : (0 : Int) < (i : Int) := by omega
            have e5 : (i : Int) - 1 < (xs.length : Int) := by omega
            by_cases hle : id ≤ pid
            · go_quiet (fail)
              go_wp2
              go_meet
              case rel => exact ⟨true, rfl, (fun h => by cases h), below_dN (Below.refl _ _) _⟩
            · have hle' : decide (id ≤ pid) = false := by simpa using hle
              clear hle
              have e6 : (1 : Int) ≤ (i : Int) := by omega
              have e7 : 1 ≤ i := by omega
              have e8 : (i : Int) < (xs.length : Int) + 1 := by omega
              have e9 : (i : Int) ≤ (xs.length : Int) := by omega
              go_still_tail 21, (by kernel_rfl)
              change wpList _ _ _ _ _ W.drew
              have HD := Lib.hid (show Below W.heap.size W W.drew from (Below.refl _ _).drew)
              generalize W.drew = W2 at *
              go_wp2_with (go_at_call 19; (with_reducible refine (counts_any _ _ _ _ _ _ _ _ _ _ _ _ hla hlf).mono ?_); rintro e w3 ⟨r, rfl, hr, hb3⟩; have HRR := Lib.hid hr; clear hr)
              go_meet
              case rel =>
                refine ⟨_, rfl, fun h => ?_, HD.out.trans (hb3.mono HD.out.size)⟩
                have h' : ¬ r < 0 := by simpa using h
                have := HRR.out (by omega)
                exact ⟨by simpa using ha', fun _ => by simpa using hle', this.1, this.2⟩
          · have hi0' : i = 0 := by omega
            have hi1 : decide (0 < i) = false := by simpa using hi0
            have hi2 : decide ((0 : Int) < (i : Int)) = false := by simpa using hi0
            have HI0 := Lib.hid hi0
            clear hi0 hi0'
            refine wp_region_still_tail 21 (by kernel_rfl) (by kernel_rfl) ?_
            simp only [List.take_succ_cons, List.take_zero, List.drop_succ_cons, List.drop_zero]
            repeat ((with_reducible refine wpStill_step (fun K hK => ?_)); go_simp; (with_reducible refine hK _ ?_); clear hK K)
            (with_reducible refine wpStill_nil ?_)
            change wpList _ _ _ _ _ W.drew
            have HD := Lib.hid (show Below W.heap.size W W.drew from (Below.refl _ _).drew)
            generalize W.drew = W2 at *
            go_wp2_with (go_at_call 19; (with_reducible refine (counts_any _ _ _ _ _ _ _ _ _ _ _ _ hla hlf).mono ?_); rintro e w3 ⟨r, rfl, hr, hb3⟩; have HRR := Lib.hid hr; clear hr)
            go_meet
            case rel =>
              refine ⟨_, rfl, fun h => ?_, HD.out.trans (hb3.mono HD.out.size)⟩
              have h' : ¬ r < 0 := by simpa using h
              have := HRR.out (by omega)
              exact ⟨by simpa using ha', fun h => absurd h HI0.out, this.1, this.2⟩
      case rest =>
        obtain ⟨bb, rfl, hbb, hbc⟩ := hcut
        have hnc := blk_below hbc HNB.out (blk_lt HNB.out)
        have HBB := Lib.hid hbb
        have HBV : Hid (Below V.heap.size V wc) := Lib.hid ((HBW.out.trans (HW.out.mono HBW.out.size)).trans (hbc.mono (HBW.out.trans (HW.out.mono HBW.out.size)).size))
        have HBR : Hid (Below wr.heap.size wr wc) := Lib.hid (HW.out.trans (hbc.mono HW.out.size))
        clear hbb hbc n0 n1 n2 n3 n4 cg
        have n1 : wc.cell? ⟨nb, 1, none⟩ = some (.int .i64 kd) := bc hnc 1
        have n2 : wc.cell? ⟨nb, 2, none⟩ = some (.slice Aa na ca) := bc hnc 2
        clear hnc
        cases bb with
        | true =>
          go_wp2
          go_ret
          exact ⟨40, rfl, (fun h => by cases h), HB.out.trans (HBV.out.mono HB.out.size)⟩
        | false =>
          obtain ⟨g1, g2, g3, g4⟩ := HBB.out rfl
          have hraw := HN.out.raw.below HBR.out (Nat.le_refl _)
          have hs1 : Seen1 (xs.map (·.1)) (i + 1) := by
            obtain ⟨A9, c9, e9, hl9, _⟩ := hraw
            cases e9
            exact seen1_succ hlt HS.out (by rw [HI.out.1]; exact g1) (fun h => by rw [HI.out.1, HPID.out]; exact g2 h) (fun h => g3 (by rw [← HI.out.2]; exact h)) (fun h => g4 (by rw [← HI.out.2]; exact h))
          have HS1 := Lib.hid hs1
          have HRA := Lib.hid hraw
          clear hs1 hraw g1 g2 g3 g4
          go_wp2
          go_loop [5] (fun kv => ∃ k : Nat, k ≤ na ∧ kv = .int .i64 k) (fun kv => na - (intOf kv).toNat)
          case atStart => exact ⟨0, Nat.zero_le _, rfl⟩
          case round =>
            obtain ⟨k, hk, rfl⟩ := hrel
            by_cases hkn : k < na
            · by_cases h4 : (kd == 4) = true
              · obtain ⟨A9, c9, e9, hl9, hx9⟩ := HRA.out
                cases e9
                obtain ⟨b9, o9, rfl, hb9, hr9⟩ := hx9 (by omega)
                have z9 := hr9 k hkn
                generalize xs[i].1.raw[k] = y at *
                clear hr9 hx9
                go_wp2
                all_goals first
                  | (go_ret; exact ⟨40, rfl, (fun h => by cases h), HB.out.trans (HBV.out.mono HB.out.size)⟩)
                  | (go_round; (case rel => exact ⟨k + 1, by omega, by go_num⟩); (case measure => simp [intOf]; omega))
              · have h4' : (kd == 4) = false := by simpa using h4
                clear h4
                go_wp2
                go_roundw
                case rel => exact ⟨i + 1, by omega, by go_num, HS1.out, HBV.out⟩
                case measure => simp [intOf]; omega
            · have hkn' : decide (k < na) = false := by simpa using hkn
              clear hkn
              go_wp2
              go_roundw
              case rel => exact ⟨i + 1, by omega, by go_num, HS1.out, HBV.out⟩
              case measure => simp [intOf]; omega
    · have hil : i = xs.length := by omega
      have hs := HS.out
      rw [hil] at hs
      have hnl : (xs.map (·.1)).length = xs.length := by rw [List.length_map]
      have hcn : Counted (xs.map (·.1)) := fun nd hnd => by
        obtain ⟨j, hj, rfl⟩ := List.getElem_of_mem hnd
        have := hs j hj (by omega)
        exact ⟨this.2.2.1, this.2.2.2⟩
      have HS1 := Lib.hid hs
      have HCN := Lib.hid hcn
      have hlt' : decide (i < xs.length) = false := by simpa using hlt
      clear hs hcn hnl hil hlt
      go_wp2
      clear hlt' cg0
      have HBW0 := Lib.hid HBW.out
      go_loopw [6] (fun jv wq => ∃ j : Nat, j ≤ xs.length ∧ jv = .int .i64 j ∧ Seen2 (xs.map (·.1)) j ∧ Below V.heap.size V wq) (fun jv _ => xs.length - (intOf jv).toNat)
      case atStart => exact ⟨0, Nat.zero_le _, rfl, fun _ _ h => absurd h (by omega), HBW0.out⟩
      case round =>
        clear HBW HGR HBW0
        obtain ⟨j, hj, rfl, hs2, hbq⟩ := hrel
        generalize hwq : wr = wq at *
        clear hwq
        have HS2 := Lib.hid hs2
        have hgq := blk_below hbq HC.out (blk_lt HC.out)
        have cg0 : wq.cell? ⟨g, 0, none⟩ = some (.slice A xs.length c) := bc hgq 0
        have HGQ := Lib.hid hgq
        have HBQ := Lib.hid hbq
        clear hs2 hgq hbq
        by_cases hjl : j < xs.length
        · obtain ⟨A2, c2, e2, _, hx⟩ := H0.out.below HBQ.out (Nat.le_refl _)
          obtain ⟨b, o, rfl, hbl, hr⟩ := hx (by omega)
          cases e2
          obtain ⟨rv, fv, ev, r0, r1, r2, r3, r4, hn, he⟩ := hr j hjl
          obtain ⟨Aa, na, ca, rfl⟩ := hn.rawForm
          obtain ⟨Af, nf, cf, rfl⟩ := hn.fieldsForm
          obtain ⟨Ae, ne, ce, rfl⟩ := hn.ev
          have HN := Lib.hid hn
          have HE := Lib.hid he
          clear hx hr hn he
          generalize hid : xs[j].1.id = id at *
          generalize hkd : xs[j].1.kind = kd at *
          have HI := Lib.hid (And.intro hid hkd)
          clear hid hkd
          go_upto_region 16 with (fail)
          have hW : Below wq.heap.size wq (wq.alloc (.cells #[.int .i64 id, .int .i64 kd, .slice Aa na ca, .slice Af nf cf, .slice Ae ne ce] 34)) := (Below.refl _ _).alloc (Nat.le_refl _) _
          have hnb := ha_new wq (.cells #[.int .i64 id, .int .i64 kd, .slice Aa na ca, .slice Af nf cf, .slice Ae ne ce] 34)
          generalize World.alloc wq _ = W at *
          obtain ⟨nb, hnbe⟩ : ∃ nb, nb = wq.heap.size := ⟨_, rfl⟩
          rw [← hnbe] at hnb
          rw [← hnbe]
          have HNE := Lib.hid hnbe
          have HVW := Lib.hid (HBQ.out.trans (hW.mono HBQ.out.size))
          have HW := Lib.hid hW
          have HNB := Lib.hid hnb
          have hlf : nf ≤ 140737488351232 := by
            obtain ⟨A9, c9, e9, hl9, _⟩ := HN.out.fields
            cases e9
            exact hl9
          have hle : ne ≤ 140737488351232 := by
            obtain ⟨A9, c9, e9, hl9, _⟩ := HE.out
            cases e9
            exact hl9
          clear hnbe hW hnb cg0 r0 r1 r2 r3 r4 hbl
          have hM : ∀ W', Below W.heap.size W W' → ∀ kk x1 x2 : Int, Calls Tryd.prog 20 #[.slice (some ⟨b, o, none⟩) xs.length c, .agg #[.int .i64 id, .int .i64 kd, .slice Aa na ca, .slice Af nf cf, .slice Ae ne ce], .int .i64 kk, .agg #[.int .i64 x1, .int .i64 x2]] W' (fun e w' => ∃ bb : Bool, e = .returned (.bool bb) ∧ (bb = true → x1 = 2 → HasId (xs.map (·.1)) x2) ∧ Below W.heap.size W w') := fun W' hW' kk x1 x2 => by
            obtain ⟨h', e'⟩ := ns_get (xs := xs) (i := j) hjl
            have hnv := HN.out.below (HW.out.trans (hW'.mono HW.out.size)) (Nat.le_refl _)
            rw [← HI.out.1, ← HI.out.2]
            refine (may_any _ _ xs[j].1 _ _ _ kk x1 x2 W' (H0.out.rd.below (HVW.out.trans (hW'.mono HVW.out.size)) (Nat.le_refl _)) hnv HCN.out (by rw [← e']; exact List.getElem_mem h')).mono ?_
            rintro e w' ⟨bb, rfl, hbb, hb⟩
            exact ⟨bb, rfl, hbb, hW'.trans (hb.mono hW'.size)⟩
          have HM := Lib.hid hM
          clear hM
          go_wp2
          go_loopw [8] (fun kv wr => ∃ k : Nat, k ≤ nf ∧ kv = .int .i64 k ∧ Fit2 (xs.map (·.1)) xs[j].1.fields k ∧ Below W.heap.size W wr) (fun kv _ => nf - (intOf kv).toNat)
          case atStart => exact ⟨0, Nat.zero_le _, rfl, fun _ _ h => absurd h (by omega), Below.refl _ _⟩
          case round =>
            obtain ⟨k, hk, rfl, hf2, hbr⟩ := hrel
            have HF2 := Lib.hid hf2
            have HBR := Lib.hid hbr
            have hgr := blk_below hbr (blk_below HW.out HGQ.out (blk_lt HGQ.out)) (Nat.lt_of_lt_of_le (blk_lt HGQ.out) HW.out.size)
            have hnr := blk_below hbr HNB.out (blk_lt HNB.out)
            have cg0 : wr.cell? ⟨g, 0, none⟩ = some (.slice (some ⟨b, o, none⟩) xs.length c) := bc hgr 0
            have m0 : wr.cell? ⟨nb, 0, none⟩ = some (.int .i64 id) := bc hnr 0
            have m1 : wr.cell? ⟨nb, 1, none⟩ = some (.int .i64 kd) := bc hnr 1
            have m2 : wr.cell? ⟨nb, 2, none⟩ = some (.slice Aa na ca) := bc hnr 2
            have m3 : wr.cell? ⟨nb, 3, none⟩ = some (.slice Af nf cf) := bc hnr 3
            have m4 : wr.cell? ⟨nb, 4, none⟩ = some (.slice Ae ne ce) := bc hnr 4
            have HWR := Lib.hid (HW.out.trans (hbr.mono HW.out.size))
            clear hf2 hbr hgr hnr
            by_cases hkn : k < nf
            · obtain ⟨A9, c9, e9, hl9, hx9⟩ := HN.out.fields.below HWR.out (Nat.le_refl _)
              cases e9
              obtain ⟨b9, o9, rfl, hb9, hr9⟩ := hx9 (by omega)
              obtain ⟨z1, z2⟩ := hr9 k hkn
              generalize hx : xs[j].1.fields[k] = x at *
              have HX := Lib.hid hx
              clear hx9 hr9 hx
              go_upto_region 19 with (fail)
              go_still_tail 9, (by kernel_rfl)
              change wpList _ _ _ _ _ wr.drew
              have HD := Lib.hid (show Below W.heap.size W wr.drew from HBR.out.drew)
              generalize wr.drew = W2 at *
              go_wp2_with (go_at_call 20; (with_reducible refine (HM.out _ HD.out _ _ _).mono ?_); rintro e w3 ⟨bb, rfl, hbb, hb3⟩; have HBB := Lib.hid hbb; have HB3 := Lib.hid hb3; clear hbb hb3)
              all_goals first
                | (go_ret; exact ⟨40, rfl, (fun h => by cases h), HB.out.trans ((HVW.out.trans (HB3.out.mono HVW.out.size)).mono HB.out.size)⟩)
                | (go_roundw; (case rel => exact ⟨k + 1, by omega, by go_num, fit2_succ hkn HF2.out (by rw [HX.out]; exact HBB.out (by simpa using ‹(!_) = false›)), HB3.out⟩); (case measure => simp [intOf]; omega))
            · have hkn' : decide (k < nf) = false := by simpa using hkn
              have hfit : Seen2 (xs.map (·.1)) (j + 1) := by
                obtain ⟨A9, c9, e9, hl9, _⟩ := HN.out.fields
                cases e9
                exact seen2_succ hjl HS2.out (fun m h => HF2.out m h (by omega))
              have HFIT := Lib.hid hfit
              clear hkn hfit m0 m1 m2 cg0
              go_wp2
              generalize hwz : wr = wz at *
              clear hwz
              go_loopw [9] (fun kv wr => ∃ k : Nat, k ≤ ne ∧ kv = .int .i64 k ∧ Below W.heap.size W wr) (fun kv _ => ne - (intOf kv).toNat)
              case atStart => exact ⟨0, Nat.zero_le _, rfl, HBR.out⟩
              case round =>
                clear HBR HWR m4 m3
                obtain ⟨q, hq, rfl, hbr⟩ := hrel
                have HBR := Lib.hid hbr
                have hgr := blk_below hbr (blk_below HW.out HGQ.out (blk_lt HGQ.out)) (Nat.lt_of_lt_of_le (blk_lt HGQ.out) HW.out.size)
                have hnr := blk_below hbr HNB.out (blk_lt HNB.out)
                have cg0 : wr.cell? ⟨g, 0, none⟩ = some (.slice (some ⟨b, o, none⟩) xs.length c) := bc hgr 0
                have m4 : wr.cell? ⟨nb, 4, none⟩ = some (.slice Ae ne ce) := bc hnr 4
                have lg := blk_lt hgr
                have ln := blk_lt hnr
                have HWR := Lib.hid (HW.out.trans (hbr.mono HW.out.size))
                clear hbr hgr hnr
                by_cases hqn : q < ne
                · obtain ⟨A9, c9, e9, hl9, hx9⟩ := HE.out.below HWR.out (Nat.le_refl _)
                  cases e9
                  obtain ⟨b9, o9, rfl, hb9, hr9⟩ := hx9 (by omega)
                  obtain ⟨z1, z2, z3, z4⟩ := hr9 q hqn
                  have hprev : 0 < q → ∃ k1 k2 : Int, wr.cell? ⟨b9, o9 + (q - 1) * 4, none⟩ = some (.int .i64 k1) ∧ wr.cell? ⟨b9, o9 + (q - 1) * 4 + 1, none⟩ = some (.int .i64 k2) := fun h => by
                    obtain ⟨y1, y2, _⟩ := hr9 (q - 1) (by omega)
                    exact ⟨_, _, y1, y2⟩
                  have HP := Lib.hid hprev
                  generalize xs[j].2[q] = x at *
                  clear hx9 hr9 hprev
                  go_upto_region 25 with (fail)
                  obtain ⟨⟨k1, v1⟩, k2, v2⟩ := x
                  have hW1 : Below wr.heap.size wr (wr.alloc (.cells #[.int .i64 k1, .int .i64 v1, .int .i64 k2, .int .i64 v2] 51)) := (Below.refl _ _).alloc (Nat.le_refl _) _
                  have heb := ha_new wr (.cells #[.int .i64 k1, .int .i64 v1, .int .i64 k2, .int .i64 v2] 51)
                  have hne : ∀ b', b' < wr.heap.size → ¬ b' = wr.heap.size := fun _ h => Nat.ne_of_lt h
                  clear z1 z2 z3 z4
                  dsimp only
                  generalize World.alloc wr _ = W1 at *
                  have HWW := Lib.hid (HBR.out.trans (hW1.mono HBR.out.size))
                  have cg1 : W1.cell? ⟨g, 0, none⟩ = some (.slice (some ⟨b, o, none⟩) xs.length c) := (hW1.cell (p := ⟨g, 0, none⟩) lg).trans cg0
                  have cn1 : W1.cell? ⟨nb, 4, none⟩ = some (.slice (some ⟨b9, o9, none⟩) xs[j].2.length ce) := (hW1.cell (p := ⟨nb, 4, none⟩) ln).trans m4
                  have hpw : 0 < q → ∃ k1 k2 : Int, W1.cell? ⟨b9, o9 + (q - 1) * 4, none⟩ = some (.int .i64 k1) ∧ W1.cell? ⟨b9, o9 + (q - 1) * 4 + 1, none⟩ = some (.int .i64 k2) := fun h => by
                    obtain ⟨p1, p2, y1, y2⟩ := HP.out h
                    exact ⟨p1, p2, (hW1.cell (p := ⟨b9, _, none⟩) hb9).trans y1, (hW1.cell (p := ⟨b9, _, none⟩) hb9).trans y2⟩
                  have HPW := Lib.hid hpw
                  have hb91 : b9 < W1.heap.size := Nat.lt_of_lt_of_le hb9 hW1.size
                  have lg1 : g < W1.heap.size := Nat.lt_of_lt_of_le lg hW1.size
                  have ln1 : nb < W1.heap.size := Nat.lt_of_lt_of_le ln hW1.size
                  generalize wr.heap.size = eb at *
                  have le1 := blk_lt heb
                  have d0 : W1.cell? ⟨eb, 0, none⟩ = some (.int .i64 k1) := bc heb 0
                  have d1 : W1.cell? ⟨eb, 1, none⟩ = some (.int .i64 v1) := bc heb 1
                  have d2 : W1.cell? ⟨eb, 2, none⟩ = some (.int .i64 k2) := bc heb 2
                  have d3 : W1.cell? ⟨eb, 3, none⟩ = some (.int .i64 v2) := bc heb 3
                  have hP : ∀ W', Below W1.heap.size W1 W' → ∀ a1 a2 : Int, Calls Tryd.prog 21 #[.slice (some ⟨b, o, none⟩) xs.length c, .agg #[.int .i64 a1, .int .i64 a2]] W' fun e w' => e = .returned (.bool (plainM (xs.map (·.1)) a1 a2)) ∧ Below W1.heap.size W1 w' := fun W' hW' a1 a2 => by
                    have hrd := (H0.out.rd.below (HVW.out.trans (HWW.out.mono HVW.out.size)) (Nat.le_refl _)).below hW' (Nat.le_refl _)
                    refine (plain_any _ _ a1 a2 W' hrd).mono ?_
                    rintro e w' ⟨rfl, hb⟩
                    exact ⟨rfl, hW'.trans (hb.mono hW'.size)⟩
                  have HPL := Lib.hid hP
                  clear hP hW1 heb hne hpw cg0 m4 hb9 lg ln hl9
                  go_cut [146] (fun s wx => ∃ bb : Bool, s = .bool bb ∧ Below W1.heap.size W1 wx)
                  case first =>
                    have hcell : ∀ W', Below W1.heap.size W1 W' → W'.cell? ⟨g, 0, none⟩ = some (.slice (some ⟨b, o, none⟩) xs.length c) ∧ W'.cell? ⟨nb, 4, none⟩ = some (.slice (some ⟨b9, o9, none⟩) xs[j].2.length ce) ∧ W'.cell? ⟨eb, 0, none⟩ = some (.int .i64 k1) ∧ W'.cell? ⟨eb, 1, none⟩ = some (.int .i64 v1) ∧ W'.cell? ⟨eb, 2, none⟩ = some (.int .i64 k2) ∧ W'.cell? ⟨eb, 3, none⟩ = some (.int .i64 v2) := fun W' hW' => ⟨(hW'.cell (p := ⟨g, 0, none⟩) lg1).trans cg1, (hW'.cell (p := ⟨nb, 4, none⟩) ln1).trans cn1, (hW'.cell (p := ⟨eb, 0, none⟩) le1).trans d0, (hW'.cell (p := ⟨eb, 1, none⟩) le1).trans d1, (hW'.cell (p := ⟨eb, 2, none⟩) le1).trans d2, (hW'.cell (p := ⟨eb, 3, none⟩) le1).trans d3⟩
                    have HCELL := Lib.hid hcell
                    clear hcell cg1 cn1 d0 d1 d2 d3
                    cases hp1 : plainM (xs.map (·.1)) k1 v1 with
                    | false =>
                      (with_reducible refine wp_region_grows (by kernel_rfl) (by kernel_rfl) ?_)
                      (with_reducible refine q_want (by kernel_rfl) (fun K hK => ?_))
                      apply Exists.intro
                      refine ⟨fun w' hw' => ?_, ?_⟩
                      · obtain ⟨f0, f1, f2, f3, f4, f5⟩ := HCELL.out w' hw'
                        go_simp
                        exact rfl
                      go_simp
                      (with_reducible refine hK _ ?_)
                      clear hK K
                      (with_reducible refine q_want (by kernel_rfl) (fun K hK => ?_))
                      apply Exists.intro
                      refine ⟨fun w' hw' => ?_, ?_⟩
                      · obtain ⟨f0, f1, f2, f3, f4, f5⟩ := HCELL.out w' hw'
                        go_simp
                        exact rfl
                      go_simp
                      (with_reducible refine hK _ ?_)
                      clear hK K
                      (with_reducible refine q_want (by kernel_rfl) (fun K hK => ?_))
                      apply Exists.intro
                      refine ⟨fun w' hw' => ?_, ?_⟩
                      · obtain ⟨f0, f1, f2, f3, f4, f5⟩ := HCELL.out w' hw'
                        go_simp
                        exact rfl
                      go_simp
                      (with_reducible refine hK _ ?_)
                      clear hK K
                      (with_reducible refine q_want (by kernel_rfl) (fun K hK => ?_))
                      apply Exists.intro
                      refine ⟨fun w' hw' => ?_, ?_⟩
                      · obtain ⟨f0, f1, f2, f3, f4, f5⟩ := HCELL.out w' hw'
                        go_simp
                        exact rfl
                      go_simp
                      (with_reducible refine hK _ ?_)
                      clear hK K
                      (with_reducible refine q_want (by kernel_rfl) (fun K hK => ?_))
                      apply Exists.intro
                      refine ⟨fun w' hw' => ?_, ?_⟩
                      · obtain ⟨f0, f1, f2, f3, f4, f5⟩ := HCELL.out w' hw'
                        go_simp
                        (go_at_call 21; refine (HPL.out _ hw' _ _).mono ?_; rintro e w3 ⟨rfl, hb3⟩; rw [hp1]; exact ⟨rfl, hb3⟩)
                      go_simp
                      (with_reducible refine hK _ ?_)
                      clear hK K
                      (with_reducible refine q_want (by kernel_rfl) (fun K hK => ?_))
                      apply Exists.intro
                      refine ⟨fun w' hw' => ?_, ?_⟩
                      · obtain ⟨f0, f1, f2, f3, f4, f5⟩ := HCELL.out w' hw'
                        go_simp
                        exact rfl
                      go_simp
                      (with_reducible refine hK _ ?_)
                      clear hK K
                      (with_reducible refine q_want (by kernel_rfl) (fun K hK => ?_))
                      apply Exists.intro
                      refine ⟨fun w' hw' => ?_, ?_⟩
                      · obtain ⟨f0, f1, f2, f3, f4, f5⟩ := HCELL.out w' hw'
                        go_simp
                        exact rfl
                      go_simp
                      (with_reducible refine hK _ ?_)
                      clear hK K
                      (with_reducible refine q_skip (by kernel_rfl) (fun K hK => ?_))
                      go_simp
                      (with_reducible refine hK _ ?_)
                      clear hK K
                      (with_reducible refine q_skip (by kernel_rfl) (fun K hK => ?_))
                      go_simp
                      (with_reducible refine hK _ ?_)
                      clear hK K
                      (with_reducible refine q_skip (by kernel_rfl) (fun K hK => ?_))
                      go_simp
                      (with_reducible refine hK _ ?_)
                      clear hK K
                      (with_reducible refine q_skip (by kernel_rfl) (fun K hK => ?_))
                      go_simp
                      (with_reducible refine hK _ ?_)
                      clear hK K
                      (with_reducible refine q_skip (by kernel_rfl) (fun K hK => ?_))
                      go_simp
                      (with_reducible refine hK _ ?_)
                      clear hK K
                      (with_reducible refine q_skip (by kernel_rfl) (fun K hK => ?_))
                      go_simp
                      (with_reducible refine hK _ ?_)
                      clear hK K
                      (with_reducible refine q_want (by kernel_rfl) (fun K hK => ?_))
                      apply Exists.intro
                      refine ⟨fun w' hw' => ?_, ?_⟩
                      · obtain ⟨f0, f1, f2, f3, f4, f5⟩ := HCELL.out w' hw'
                        go_simp
                        exact rfl
                      go_simp
                      (with_reducible refine hK _ ?_)
                      clear hK K
                      (with_reducible refine q_want (by kernel_rfl) (fun K hK => ?_))
                      apply Exists.intro
                      refine ⟨fun w' hw' => ?_, ?_⟩
                      · obtain ⟨f0, f1, f2, f3, f4, f5⟩ := HCELL.out w' hw'
                        go_simp
                        exact rfl
                      go_simp
                      (with_reducible refine hK _ ?_)
                      clear hK K
                      (with_reducible refine q_skip (by kernel_rfl) (fun K hK => ?_))
                      go_simp
                      (with_reducible refine hK _ ?_)
                      clear hK K
                      (with_reducible refine q_skip (by kernel_rfl) (fun K hK => ?_))
                      go_simp
                      (with_reducible refine hK _ ?_)
                      clear hK K
                      (with_reducible refine q_skip (by kernel_rfl) (fun K hK => ?_))
                      go_simp
                      (with_reducible refine hK _ ?_)
                      clear hK K
                      (with_reducible refine q_skip (by kernel_rfl) (fun K hK => ?_))
                      go_simp
                      (with_reducible refine hK _ ?_)
                      clear hK K
                      (with_reducible refine q_skip (by kernel_rfl) (fun K hK => ?_))
                      go_simp
                      (with_reducible refine hK _ ?_)
                      clear hK K
                      (with_reducible refine q_skip (by kernel_rfl) (fun K hK => ?_))
                      go_simp
                      (with_reducible refine hK _ ?_)
                      clear hK K
                      (with_reducible refine q_skip (by kernel_rfl) (fun K hK => ?_))
                      go_simp
                      (with_reducible refine hK _ ?_)
                      clear hK K
                      (with_reducible refine q_skip (by kernel_rfl) (fun K hK => ?_))
                      go_simp
                      (with_reducible refine hK _ ?_)
                      clear hK K
                      (with_reducible refine q_skip (by kernel_rfl) (fun K hK => ?_))
                      go_simp
                      (with_reducible refine hK _ ?_)
                      clear hK K
                      (with_reducible refine q_skip (by kernel_rfl) (fun K hK => ?_))
                      go_simp
                      (with_reducible refine hK _ ?_)
                      clear hK K
                      (with_reducible refine q_skip (by kernel_rfl) (fun K hK => ?_))
                      go_simp
                      (with_reducible refine hK _ ?_)
                      clear hK K
                      (with_reducible refine q_skip (by kernel_rfl) (fun K hK => ?_))
                      go_simp
                      (with_reducible refine hK _ ?_)
                      clear hK K
                      (with_reducible refine q_skip (by kernel_rfl) (fun K hK => ?_))
                      go_simp
                      (with_reducible refine hK _ ?_)
                      clear hK K
                      (with_reducible refine q_skip (by kernel_rfl) (fun K hK => ?_))
                      go_simp
                      (with_reducible refine hK _ ?_)
                      clear hK K
                      (with_reducible refine q_skip (by kernel_rfl) (fun K hK => ?_))
                      go_simp
                      (with_reducible refine hK _ ?_)
                      clear hK K
                      (with_reducible refine q_want (by kernel_rfl) (fun K hK => ?_))
                      apply Exists.intro
                      refine ⟨fun w' hw' => ?_, ?_⟩
                      · obtain ⟨f0, f1, f2, f3, f4, f5⟩ := HCELL.out w' hw'
                        go_simp
                        exact rfl
                      go_simp
                      (with_reducible refine hK _ ?_)
                      clear hK K
                      (with_reducible refine wpQuiet_nil ?_)
                      intro w9 hw9
                      go_wp2
                      go_meet
                      case rel => exact ⟨_, rfl, hw9⟩
                    | true =>
                      cases hp2 : plainM (xs.map (·.1)) k2 v2 with
                      | false =>
                        (with_reducible refine wp_region_grows (by kernel_rfl) (by kernel_rfl) ?_)
                        (with_reducible refine q_want (by kernel_rfl) (fun K hK => ?_))
                        apply Exists.intro
                        refine ⟨fun w' hw' => ?_, ?_⟩
                        · obtain ⟨f0, f1, f2, f3, f4, f5⟩ := HCELL.out w' hw'
                          go_simp
                          exact rfl
                        go_simp
                        (with_reducible refine hK _ ?_)
                        clear hK K
                        (with_reducible refine q_want (by kernel_rfl) (fun K hK => ?_))
                        apply Exists.intro
                        refine ⟨fun w' hw' => ?_, ?_⟩
                        · obtain ⟨f0, f1, f2, f3, f4, f5⟩ := HCELL.out w' hw'
                          go_simp
                          exact rfl
                        go_simp
                        (with_reducible refine hK _ ?_)
                        clear hK K
                        (with_reducible refine q_want (by kernel_rfl) (fun K hK => ?_))
                        apply Exists.intro
                        refine ⟨fun w' hw' => ?_, ?_⟩
                        · obtain ⟨f0, f1, f2, f3, f4, f5⟩ := HCELL.out w' hw'
                          go_simp
                          exact rfl
                        go_simp
                        (with_reducible refine hK _ ?_)
                        clear hK K
                        (with_reducible refine q_want (by kernel_rfl) (fun K hK => ?_))
                        apply Exists.intro
                        refine ⟨fun w' hw' => ?_, ?_⟩
                        · obtain ⟨f0, f1, f2, f3, f4, f5⟩ := HCELL.out w' hw'
                          go_simp
                          exact rfl
                        go_simp
                        (with_reducible refine hK _ ?_)
                        clear hK K
                        (with_reducible refine q_want (by kernel_rfl) (fun K hK => ?_))
                        apply Exists.intro
                        refine ⟨fun w' hw' => ?_, ?_⟩
                        · obtain ⟨f0, f1, f2, f3, f4, f5⟩ := HCELL.out w' hw'
                          go_simp
                          (go_at_call 21; refine (HPL.out _ hw' _ _).mono ?_; rintro e w3 ⟨rfl, hb3⟩; rw [hp1]; exact ⟨rfl, hb3⟩)
                        go_simp
                        (with_reducible refine hK _ ?_)
                        clear hK K
                        (with_reducible refine q_want (by kernel_rfl) (fun K hK => ?_))
                        apply Exists.intro
                        refine ⟨fun w' hw' => ?_, ?_⟩
                        · obtain ⟨f0, f1, f2, f3, f4, f5⟩ := HCELL.out w' hw'
                          go_simp
                          exact rfl
                        go_simp
                        (with_reducible refine hK _ ?_)
                        clear hK K
                        (with_reducible refine q_want (by kernel_rfl) (fun K hK => ?_))
                        apply Exists.intro
                        refine ⟨fun w' hw' => ?_, ?_⟩
                        · obtain ⟨f0, f1, f2, f3, f4, f5⟩ := HCELL.out w' hw'
                          go_simp
                          exact rfl
                        go_simp
                        (with_reducible refine hK _ ?_)
                        clear hK K
                        (with_reducible refine q_want (by kernel_rfl) (fun K hK => ?_))
                        apply Exists.intro
                        refine ⟨fun w' hw' => ?_, ?_⟩
                        · obtain ⟨f0, f1, f2, f3, f4, f5⟩ := HCELL.out w' hw'
                          go_simp
                          exact rfl
                        go_simp
                        (with_reducible refine hK _ ?_)
                        clear hK K
                        (with_reducible refine q_want (by kernel_rfl) (fun K hK => ?_))
                        apply Exists.intro
                        refine ⟨fun w' hw' => ?_, ?_⟩
                        · obtain ⟨f0, f1, f2, f3, f4, f5⟩ := HCELL.out w' hw'
                          go_simp
                          exact rfl
                        go_simp
                        (with_reducible refine hK _ ?_)
                        clear hK K
                        (with_reducible refine q_want (by kernel_rfl) (fun K hK => ?_))
                        apply Exists.intro
                        refine ⟨fun w' hw' => ?_, ?_⟩
                        · obtain ⟨f0, f1, f2, f3, f4, f5⟩ := HCELL.out w' hw'
                          go_simp
                          exact rfl
                        go_simp
                        (with_reducible refine hK _ ?_)
                        clear hK K
                        (with_reducible refine q_want (by kernel_rfl) (fun K hK => ?_))
                        apply Exists.intro
                        refine ⟨fun w' hw' => ?_, ?_⟩
                        · obtain ⟨f0, f1, f2, f3, f4, f5⟩ := HCELL.out w' hw'
                          go_simp
                          exact rfl
                        go_simp
                        (with_reducible refine hK _ ?_)
                        clear hK K
                        (with_reducible refine q_want (by kernel_rfl) (fun K hK => ?_))
                        apply Exists.intro
                        refine ⟨fun w' hw' => ?_, ?_⟩
                        · obtain ⟨f0, f1, f2, f3, f4, f5⟩ := HCELL.out w' hw'
                          go_simp
                          (go_at_call 21; refine (HPL.out _ hw' _ _).mono ?_; rintro e w3 ⟨rfl, hb3⟩; rw [hp2]; exact ⟨rfl, hb3⟩)
                        go_simp
                        (with_reducible refine hK _ ?_)
                        clear hK K
                        (with_reducible refine q_want (by kernel_rfl) (fun K hK => ?_))
                        apply Exists.intro
                        refine ⟨fun w' hw' => ?_, ?_⟩
                        · obtain ⟨f0, f1, f2, f3, f4, f5⟩ := HCELL.out w' hw'
                          go_simp
                          exact rfl
                        go_simp
                        (with_reducible refine hK _ ?_)
                        clear hK K
                        (with_reducible refine q_want (by kernel_rfl) (fun K hK => ?_))
                        apply Exists.intro
                        refine ⟨fun w' hw' => ?_, ?_⟩
                        · obtain ⟨f0, f1, f2, f3, f4, f5⟩ := HCELL.out w' hw'
                          go_simp
                          exact rfl
                        go_simp
                        (with_reducible refine hK _ ?_)
                        clear hK K
                        (with_reducible refine q_want (by kernel_rfl) (fun K hK => ?_))
                        apply Exists.intro
                        refine ⟨fun w' hw' => ?_, ?_⟩
                        · obtain ⟨f0, f1, f2, f3, f4, f5⟩ := HCELL.out w' hw'
                          go_simp
                          exact rfl
                        go_simp
                        (with_reducible refine hK _ ?_)
                        clear hK K
                        (with_reducible refine q_skip (by kernel_rfl) (fun K hK => ?_))
                        go_simp
                        (with_reducible refine hK _ ?_)
                        clear hK K
                        (with_reducible refine q_skip (by kernel_rfl) (fun K hK => ?_))
                        go_simp
                        (with_reducible refine hK _ ?_)
                        clear hK K
                        (with_reducible refine q_skip (by kernel_rfl) (fun K hK => ?_))
                        go_simp
                        (with_reducible refine hK _ ?_)
                        clear hK K
                        (with_reducible refine q_skip (by kernel_rfl) (fun K hK => ?_))
                        go_simp
                        (with_reducible refine hK _ ?_)
                        clear hK K
                        (with_reducible refine q_skip (by kernel_rfl) (fun K hK => ?_))
                        go_simp
                        (with_reducible refine hK _ ?_)
                        clear hK K
                        (with_reducible refine q_skip (by kernel_rfl) (fun K hK => ?_))
                        go_simp
                        (with_reducible refine hK _ ?_)
                        clear hK K
                        (with_reducible refine q_skip (by kernel_rfl) (fun K hK => ?_))
                        go_simp
                        (with_reducible refine hK _ ?_)
                        clear hK K
                        (with_reducible refine q_skip (by kernel_rfl) (fun K hK => ?_))
                        go_simp
                        (with_reducible refine hK _ ?_)
                        clear hK K
                        (with_reducible refine q_skip (by kernel_rfl) (fun K hK => ?_))
                        go_simp
                        (with_reducible refine hK _ ?_)
                        clear hK K
                        (with_reducible refine q_skip (by kernel_rfl) (fun K hK => ?_))
                        go_simp
                        (with_reducible refine hK _ ?_)
                        clear hK K
                        (with_reducible refine q_skip (by kernel_rfl) (fun K hK => ?_))
                        go_simp
                        (with_reducible refine hK _ ?_)
                        clear hK K
                        (with_reducible refine q_skip (by kernel_rfl) (fun K hK => ?_))
                        go_simp
                        (with_reducible refine hK _ ?_)
                        clear hK K
                        (with_reducible refine q_skip (by kernel_rfl) (fun K hK => ?_))
                        go_simp
                        (with_reducible refine hK _ ?_)
                        clear hK K
                        (with_reducible refine q_skip (by kernel_rfl) (fun K hK => ?_))
                        go_simp
                        (with_reducible refine hK _ ?_)
                        clear hK K
                        (with_reducible refine q_skip (by kernel_rfl) (fun K hK => ?_))
                        go_simp
                        (with_reducible refine hK _ ?_)
                        clear hK K
                        (with_reducible refine q_want (by kernel_rfl) (fun K hK => ?_))
                        apply Exists.intro
                        refine ⟨fun w' hw' => ?_, ?_⟩
                        · obtain ⟨f0, f1, f2, f3, f4, f5⟩ := HCELL.out w' hw'
                          go_simp
                          exact rfl
                        go_simp
                        (with_reducible refine hK _ ?_)
                        clear hK K
                        (with_reducible refine wpQuiet_nil ?_)
                        intro w9 hw9
                        go_wp2
                        go_meet
                        case rel => exact ⟨_, rfl, hw9⟩
                      | true =>
                        by_cases hq0 : 0 < q
                        · obtain ⟨p1, p2, y1, y2⟩ := HPW.out hq0
                          have hprev2 : ∀ W', Below W1.heap.size W1 W' → W'.cell? ⟨b9, o9 + (q - 1) * 4, none⟩ = some (.int .i64 p1) ∧ W'.cell? ⟨b9, o9 + (q - 1) * 4 + 1, none⟩ = some (.int .i64 p2) := fun W' hW' => ⟨(hW'.cell (p := ⟨b9, _, none⟩) hb91).trans y1, (hW'.cell (p := ⟨b9, _, none⟩) hb91).trans y2⟩
                          have hls : ∀ W', Below W1.heap.size W1 W' → ∀ a1 a2 a3 a4 : Int, Calls Tryd.prog 22 #[.agg #[.int .i64 a1, .int .i64 a2], .agg #[.int .i64 a3, .int .i64 a4]] W' fun e w' => e = .returned (.bool (lessB a1 a2 a3 a4)) ∧ Below W1.heap.size W1 w' := fun W' hW' a1 a2 a3 a4 => by
                            refine (less_any a1 a2 a3 a4 W').mono ?_
                            rintro e w' ⟨rfl, hb⟩
                            exact ⟨rfl, hW'.trans (hb.mono hW'.size)⟩
                          have HPREV := Lib.hid hprev2
                          have HLS := Lib.hid hls
                          clear hprev2 hls y1 y2
                          have e0 : decide (0 < q) = true := by simpa using hq0
                          have e1 : IntKind.i64.wrap ((q : Int) - 1) = (q : Int) - 1 := IntWalk.i64_in _ (by omega)
                          have e2 : (0 : Int) ≤ (q : Int) - 1 := by omega
                          have e3 : ((q : Int) - 1).toNat = q - 1 := by omega
                          have e4 : (0 : Int) < (q : Int) := by omega
                          have e5 : (q : Int) - 1 < (xs[j].2.length : Int) := by omega
                          have e6 : (1 : Int) ≤ (q : Int) := by omega
                          have e7 : 1 ≤ q := by omega
                          have e8 : (q : Int) < (xs[j].2.length : Int) + 1 := by omega
                          have e9 : (q : Int) ≤ (xs[j].2.length : Int) := by omega
                          (with_reducible refine wp_region_grows (by kernel_rfl) (by kernel_rfl) ?_)
                          (with_reducible refine q_want (by kernel_rfl) (fun K hK => ?_))
                          apply Exists.intro
                          refine ⟨fun w' hw' => ?_, ?_⟩
                          · obtain ⟨f0, f1, f2, f3, f4, f5⟩ := HCELL.out w' hw'; obtain ⟨f6, f7⟩ := HPREV.out w' hw'
                            go_simp
                            exact rfl
                          go_simp
                          (with_reducible refine hK _ ?_)
                          clear hK K
                          (with_reducible refine q_want (by kernel_rfl) (fun K hK => ?_))
                          apply Exists.intro
                          refine ⟨fun w' hw' => ?_, ?_⟩
                          · obtain ⟨f0, f1, f2, f3, f4, f5⟩ := HCELL.out w' hw'; obtain ⟨f6, f7⟩ := HPREV.out w' hw'
                            go_simp
                            exact rfl
                          go_simp
                          (with_reducible refine hK _ ?_)
                          clear hK K
                          (with_reducible refine q_want (by kernel_rfl) (fun K hK => ?_))
                          apply Exists.intro
                          refine ⟨fun w' hw' => ?_, ?_⟩
                          · obtain ⟨f0, f1, f2, f3, f4, f5⟩ := HCELL.out w' hw'; obtain ⟨f6, f7⟩ := HPREV.out w' hw'
                            go_simp
                            exact rfl
                          go_simp
                          (with_reducible refine hK _ ?_)
                          clear hK K
                          (with_reducible refine q_want (by kernel_rfl) (fun K hK => ?_))
                          apply Exists.intro
                          refine ⟨fun w' hw' => ?_, ?_⟩
                          · obtain ⟨f0, f1, f2, f3, f4, f5⟩ := HCELL.out w' hw'; obtain ⟨f6, f7⟩ := HPREV.out w' hw'
                            go_simp
                            exact rfl
                          go_simp
                          (with_reducible refine hK _ ?_)
                          clear hK K
                          (with_reducible refine q_want (by kernel_rfl) (fun K hK => ?_))
                          apply Exists.intro
                          refine ⟨fun w' hw' => ?_, ?_⟩
                          · obtain ⟨f0, f1, f2, f3, f4, f5⟩ := HCELL.out w' hw'; obtain ⟨f6, f7⟩ := HPREV.out w' hw'
                            go_simp
                            (go_at_call 21; refine (HPL.out _ hw' _ _).mono ?_; rintro e w3 ⟨rfl, hb3⟩; rw [hp1]; exact ⟨rfl, hb3⟩)
                          go_simp
                          (with_reducible refine hK _ ?_)
                          clear hK K
                          (with_reducible refine q_want (by kernel_rfl) (fun K hK => ?_))
                          apply Exists.intro
                          refine ⟨fun w' hw' => ?_, ?_⟩
                          · obtain ⟨f0, f1, f2, f3, f4, f5⟩ := HCELL.out w' hw'; obtain ⟨f6, f7⟩ := HPREV.out w' hw'
                            go_simp
                            exact rfl
                          go_simp
                          (with_reducible refine hK _ ?_)
                          clear hK K
                          (with_reducible refine q_want (by kernel_rfl) (fun K hK => ?_))
                          apply Exists.intro
                          refine ⟨fun w' hw' => ?_, ?_⟩
                          · obtain ⟨f0, f1, f2, f3, f4, f5⟩ := HCELL.out w' hw'; obtain ⟨f6, f7⟩ := HPREV.out w' hw'
                            go_simp
                            exact rfl
                          go_simp
                          (with_reducible refine hK _ ?_)
                          clear hK K
                          (with_reducible refine q_want (by kernel_rfl) (fun K hK => ?_))
                          apply Exists.intro
                          refine ⟨fun w' hw' => ?_, ?_⟩
                          · obtain ⟨f0, f1, f2, f3, f4, f5⟩ := HCELL.out w' hw'; obtain ⟨f6, f7⟩ := HPREV.out w' hw'
                            go_simp
                            exact rfl
                          go_simp
                          (with_reducible refine hK _ ?_)
                          clear hK K
                          (with_reducible refine q_want (by kernel_rfl) (fun K hK => ?_))
                          apply Exists.intro
                          refine ⟨fun w' hw' => ?_, ?_⟩
                          · obtain ⟨f0, f1, f2, f3, f4, f5⟩ := HCELL.out w' hw'; obtain ⟨f6, f7⟩ := HPREV.out w' hw'
                            go_simp
                            exact rfl
                          go_simp
                          (with_reducible refine hK _ ?_)
                          clear hK K
                          (with_reducible refine q_want (by kernel_rfl) (fun K hK => ?_))
                          apply Exists.intro
                          refine ⟨fun w' hw' => ?_, ?_⟩
                          · obtain ⟨f0, f1, f2, f3, f4, f5⟩ := HCELL.out w' hw'; obtain ⟨f6, f7⟩ := HPREV.out w' hw'
                            go_simp
                            exact rfl
                          go_simp
                          (with_reducible refine hK _ ?_)
                          clear hK K
                          (with_reducible refine q_want (by kernel_rfl) (fun K hK => ?_))
                          apply Exists.intro
                          refine ⟨fun w' hw' => ?_, ?_⟩
                          · obtain ⟨f0, f1, f2, f3, f4, f5⟩ := HCELL.out w' hw'; obtain ⟨f6, f7⟩ := HPREV.out w' hw'
                            go_simp
                            exact rfl
                          go_simp
                          (with_reducible refine hK _ ?_)
                          clear hK K
                          (with_reducible refine q_want (by kernel_rfl) (fun K hK => ?_))
                          apply Exists.intro
                          refine ⟨fun w' hw' => ?_, ?_⟩
                          · obtain ⟨f0, f1, f2, f3, f4, f5⟩ := HCELL.out w' hw'; obtain ⟨f6, f7⟩ := HPREV.out w' hw'
                            go_simp
                            (go_at_call 21; refine (HPL.out _ hw' _ _).mono ?_; rintro e w3 ⟨rfl, hb3⟩; rw [hp2]; exact ⟨rfl, hb3⟩)
                          go_simp
                          (with_reducible refine hK _ ?_)
                          clear hK K
                          (with_reducible refine q_want (by kernel_rfl) (fun K hK => ?_))
                          apply Exists.intro
                          refine ⟨fun w' hw' => ?_, ?_⟩
                          · obtain ⟨f0, f1, f2, f3, f4, f5⟩ := HCELL.out w' hw'; obtain ⟨f6, f7⟩ := HPREV.out w' hw'
                            go_simp
                            exact rfl
                          go_simp
                          (with_reducible refine hK _ ?_)
                          clear hK K
                          (with_reducible refine q_want (by kernel_rfl) (fun K hK => ?_))
                          apply Exists.intro
                          refine ⟨fun w' hw' => ?_, ?_⟩
                          · obtain ⟨f0, f1, f2, f3, f4, f5⟩ := HCELL.out w' hw'; obtain ⟨f6, f7⟩ := HPREV.out w' hw'
                            go_simp
                            exact rfl
                          go_simp
                          (with_reducible refine hK _ ?_)
                          clear hK K
                          (with_reducible refine q_want (by kernel_rfl) (fun K hK => ?_))
                          apply Exists.intro
                          refine ⟨fun w' hw' => ?_, ?_⟩
                          · obtain ⟨f0, f1, f2, f3, f4, f5⟩ := HCELL.out w' hw'; obtain ⟨f6, f7⟩ := HPREV.out w' hw'
                            go_simp
                            exact rfl
                          go_simp
                          (with_reducible refine hK _ ?_)
                          clear hK K
                          (with_reducible refine q_want (by kernel_rfl) (fun K hK => ?_))
                          apply Exists.intro
                          refine ⟨fun w' hw' => ?_, ?_⟩
                          · obtain ⟨f0, f1, f2, f3, f4, f5⟩ := HCELL.out w' hw'; obtain ⟨f6, f7⟩ := HPREV.out w' hw'
                            go_simp
                            exact rfl
                          go_simp
                          (with_reducible refine hK _ ?_)
                          clear hK K
                          (with_reducible refine q_want (by kernel_rfl) (fun K hK => ?_))
                          apply Exists.intro
                          refine ⟨fun w' hw' => ?_, ?_⟩
                          · obtain ⟨f0, f1, f2, f3, f4, f5⟩ := HCELL.out w' hw'; obtain ⟨f6, f7⟩ := HPREV.out w' hw'
                            go_simp
                            exact rfl
                          go_simp
                          (with_reducible refine hK _ ?_)
                          clear hK K
                          (with_reducible refine q_want (by kernel_rfl) (fun K hK => ?_))
                          apply Exists.intro
                          refine ⟨fun w' hw' => ?_, ?_⟩
                          · obtain ⟨f0, f1, f2, f3, f4, f5⟩ := HCELL.out w' hw'; obtain ⟨f6, f7⟩ := HPREV.out w' hw'
                            go_simp
                            exact rfl
                          go_simp
                          (with_reducible refine hK _ ?_)
                          clear hK K
                          (with_reducible refine q_want (by kernel_rfl) (fun K hK => ?_))
                          apply Exists.intro
                          refine ⟨fun w' hw' => ?_, ?_⟩
                          · obtain ⟨f0, f1, f2, f3, f4, f5⟩ := HCELL.out w' hw'; obtain ⟨f6, f7⟩ := HPREV.out w' hw'
                            go_simp
                            exact rfl
                          go_simp
                          (with_reducible refine hK _ ?_)
                          clear hK K
                          (with_reducible refine q_want (by kernel_rfl) (fun K hK => ?_))
                          apply Exists.intro
                          refine ⟨fun w' hw' => ?_, ?_⟩
                          · obtain ⟨f0, f1, f2, f3, f4, f5⟩ := HCELL.out w' hw'; obtain ⟨f6, f7⟩ := HPREV.out w' hw'
                            go_simp
                            exact rfl
                          go_simp
                          (with_reducible refine hK _ ?_)
                          clear hK K
                          (with_reducible refine q_want (by kernel_rfl) (fun K hK => ?_))
                          apply Exists.intro
                          refine ⟨fun w' hw' => ?_, ?_⟩
                          · obtain ⟨f0, f1, f2, f3, f4, f5⟩ := HCELL.out w' hw'; obtain ⟨f6, f7⟩ := HPREV.out w' hw'
                            go_simp
                            exact rfl
                          go_simp
                          (with_reducible refine hK _ ?_)
                          clear hK K
                          (with_reducible refine q_want (by kernel_rfl) (fun K hK => ?_))
                          apply Exists.intro
                          refine ⟨fun w' hw' => ?_, ?_⟩
                          · obtain ⟨f0, f1, f2, f3, f4, f5⟩ := HCELL.out w' hw'; obtain ⟨f6, f7⟩ := HPREV.out w' hw'
                            go_simp
                            exact rfl
                          go_simp
                          (with_reducible refine hK _ ?_)
                          clear hK K
                          (with_reducible refine q_want (by kernel_rfl) (fun K hK => ?_))
                          apply Exists.intro
                          refine ⟨fun w' hw' => ?_, ?_⟩
                          · obtain ⟨f0, f1, f2, f3, f4, f5⟩ := HCELL.out w' hw'; obtain ⟨f6, f7⟩ := HPREV.out w' hw'
                            go_simp
                            exact rfl
                          go_simp
                          (with_reducible refine hK _ ?_)
                          clear hK K
                          (with_reducible refine q_want (by kernel_rfl) (fun K hK => ?_))
                          apply Exists.intro
                          refine ⟨fun w' hw' => ?_, ?_⟩
                          · obtain ⟨f0, f1, f2, f3, f4, f5⟩ := HCELL.out w' hw'; obtain ⟨f6, f7⟩ := HPREV.out w' hw'
                            go_simp
                            exact rfl
                          go_simp
                          (with_reducible refine hK _ ?_)
                          clear hK K
                          (with_reducible refine q_want (by kernel_rfl) (fun K hK => ?_))
                          apply Exists.intro
                          refine ⟨fun w' hw' => ?_, ?_⟩
                          · obtain ⟨f0, f1, f2, f3, f4, f5⟩ := HCELL.out w' hw'; obtain ⟨f6, f7⟩ := HPREV.out w' hw'
                            go_simp
                            exact rfl
                          go_simp
                          (with_reducible refine hK _ ?_)
                          clear hK K
                          (with_reducible refine q_want (by kernel_rfl) (fun K hK => ?_))
                          apply Exists.intro
                          refine ⟨fun w' hw' => ?_, ?_⟩
                          · obtain ⟨f0, f1, f2, f3, f4, f5⟩ := HCELL.out w' hw'; obtain ⟨f6, f7⟩ := HPREV.out w' hw'
                            go_simp
                            exact rfl
                          go_simp
                          (with_reducible refine hK _ ?_)
                          clear hK K
                          (with_reducible refine q_want (by kernel_rfl) (fun K hK => ?_))
                          apply Exists.intro
                          refine ⟨fun w' hw' => ?_, ?_⟩
                          · obtain ⟨f0, f1, f2, f3, f4, f5⟩ := HCELL.out w' hw'; obtain ⟨f6, f7⟩ := HPREV.out w' hw'
                            go_simp
                            exact rfl
                          go_simp
                          (with_reducible refine hK _ ?_)
                          clear hK K
                          (with_reducible refine q_want (by kernel_rfl) (fun K hK => ?_))
                          apply Exists.intro
                          refine ⟨fun w' hw' => ?_, ?_⟩
                          · obtain ⟨f0, f1, f2, f3, f4, f5⟩ := HCELL.out w' hw'; obtain ⟨f6, f7⟩ := HPREV.out w' hw'
                            go_simp
                            (go_at_call 22; refine (HLS.out _ hw' _ _ _ _).mono ?_; rintro e w3 ⟨rfl, hb3⟩; exact ⟨rfl, hb3⟩)
                          go_simp
                          (with_reducible refine hK _ ?_)
                          clear hK K
                          (with_reducible refine q_want (by kernel_rfl) (fun K hK => ?_))
                          apply Exists.intro
                          refine ⟨fun w' hw' => ?_, ?_⟩
                          · obtain ⟨f0, f1, f2, f3, f4, f5⟩ := HCELL.out w' hw'; obtain ⟨f6, f7⟩ := HPREV.out w' hw'
                            go_simp
                            exact rfl
                          go_simp
                          (with_reducible refine hK _ ?_)
                          clear hK K
                          (with_reducible refine q_want (by kernel_rfl) (fun K hK => ?_))
                          apply Exists.intro
                          refine ⟨fun w' hw' => ?_, ?_⟩
                          · obtain ⟨f0, f1, f2, f3, f4, f5⟩ := HCELL.out w' hw'; obtain ⟨f6, f7⟩ := HPREV.out w' hw'
                            go_simp
                            exact rfl
                          go_simp
                          (with_reducible refine hK _ ?_)
                          clear hK K
                          (with_reducible refine q_want (by kernel_rfl) (fun K hK => ?_))
                          apply Exists.intro
                          refine ⟨fun w' hw' => ?_, ?_⟩
                          · obtain ⟨f0, f1, f2, f3, f4, f5⟩ := HCELL.out w' hw'; obtain ⟨f6, f7⟩ := HPREV.out w' hw'
                            go_simp
                            exact rfl
                          go_simp
                          (with_reducible refine hK _ ?_)
                          clear hK K
                          (with_reducible refine wpQuiet_nil ?_)
                          intro w9 hw9
                          go_wp2
                          go_meet
                          case rel => exact ⟨_, rfl, hw9⟩
                        · have hq1 : decide (0 < q) = false := by simpa using hq0
                          have hq2 : decide ((0 : Int) < (q : Int)) = false := by simpa using hq0
                          clear hq0
                          (with_reducible refine wp_region_grows (by kernel_rfl) (by kernel_rfl) ?_)
                          (with_reducible refine q_want (by kernel_rfl) (fun K hK => ?_))
                          apply Exists.intro
                          refine ⟨fun w' hw' => ?_, ?_⟩
                          · obtain ⟨f0, f1, f2, f3, f4, f5⟩ := HCELL.out w' hw'
                            go_simp
                            exact rfl
                          go_simp
                          (with_reducible refine hK _ ?_)
                          clear hK K
                          (with_reducible refine q_want (by kernel_rfl) (fun K hK => ?_))
                          apply Exists.intro
                          refine ⟨fun w' hw' => ?_, ?_⟩
                          · obtain ⟨f0, f1, f2, f3, f4, f5⟩ := HCELL.out w' hw'
                            go_simp
                            exact rfl
                          go_simp
                          (with_reducible refine hK _ ?_)
                          clear hK K
                          (with_reducible refine q_want (by kernel_rfl) (fun K hK => ?_))
                          apply Exists.intro
                          refine ⟨fun w' hw' => ?_, ?_⟩
                          · obtain ⟨f0, f1, f2, f3, f4, f5⟩ := HCELL.out w' hw'
                            go_simp
                            exact rfl
                          go_simp
                          (with_reducible refine hK _ ?_)
                          clear hK K
                          (with_reducible refine q_want (by kernel_rfl) (fun K hK => ?_))
                          apply Exists.intro
                          refine ⟨fun w' hw' => ?_, ?_⟩
                          · obtain ⟨f0, f1, f2, f3, f4, f5⟩ := HCELL.out w' hw'
                            go_simp
                            exact rfl
                          go_simp
                          (with_reducible refine hK _ ?_)
                          clear hK K
                          (with_reducible refine q_want (by kernel_rfl) (fun K hK => ?_))
                          apply Exists.intro
                          refine ⟨fun w' hw' => ?_, ?_⟩
                          · obtain ⟨f0, f1, f2, f3, f4, f5⟩ := HCELL.out w' hw'
                            go_simp
                            (go_at_call 21; refine (HPL.out _ hw' _ _).mono ?_; rintro e w3 ⟨rfl, hb3⟩; rw [hp1]; exact ⟨rfl, hb3⟩)
                          go_simp
                          (with_reducible refine hK _ ?_)
                          clear hK K
                          (with_reducible refine q_want (by kernel_rfl) (fun K hK => ?_))
                          apply Exists.intro
                          refine ⟨fun w' hw' => ?_, ?_⟩
                          · obtain ⟨f0, f1, f2, f3, f4, f5⟩ := HCELL.out w' hw'
                            go_simp
                            exact rfl
                          go_simp
                          (with_reducible refine hK _ ?_)
                          clear hK K
                          (with_reducible refine q_want (by kernel_rfl) (fun K hK => ?_))
                          apply Exists.intro
                          refine ⟨fun w' hw' => ?_, ?_⟩
                          · obtain ⟨f0, f1, f2, f3, f4, f5⟩ := HCELL.out w' hw'
                            go_simp
                            exact rfl
                          go_simp
                          (with_reducible refine hK _ ?_)
                          clear hK K
                          (with_reducible refine q_want (by kernel_rfl) (fun K hK => ?_))
                          apply Exists.intro
                          refine ⟨fun w' hw' => ?_, ?_⟩
                          · obtain ⟨f0, f1, f2, f3, f4, f5⟩ := HCELL.out w' hw'
                            go_simp
                            exact rfl
                          go_simp
                          (with_reducible refine hK _ ?_)
                          clear hK K
                          (with_reducible refine q_want (by kernel_rfl) (fun K hK => ?_))
                          apply Exists.intro
                          refine ⟨fun w' hw' => ?_, ?_⟩
                          · obtain ⟨f0, f1, f2, f3, f4, f5⟩ := HCELL.out w' hw'
                            go_simp
                            exact rfl
                          go_simp
                          (with_reducible refine hK _ ?_)
                          clear hK K
                          (with_reducible refine q_want (by kernel_rfl) (fun K hK => ?_))
                          apply Exists.intro
                          refine ⟨fun w' hw' => ?_, ?_⟩
                          · obtain ⟨f0, f1, f2, f3, f4, f5⟩ := HCELL.out w' hw'
                            go_simp
                            exact rfl
                          go_simp
                          (with_reducible refine hK _ ?_)
                          clear hK K
                          (with_reducible refine q_want (by kernel_rfl) (fun K hK => ?_))
                          apply Exists.intro
                          refine ⟨fun w' hw' => ?_, ?_⟩
                          · obtain ⟨f0, f1, f2, f3, f4, f5⟩ := HCELL.out w' hw'
                            go_simp
                            exact rfl
                          go_simp
                          (with_reducible refine hK _ ?_)
                          clear hK K
                          (with_reducible refine q_want (by kernel_rfl) (fun K hK => ?_))
                          apply Exists.intro
                          refine ⟨fun w' hw' => ?_, ?_⟩
                          · obtain ⟨f0, f1, f2, f3, f4, f5⟩ := HCELL.out w' hw'
                            go_simp
                            (go_at_call 21; refine (HPL.out _ hw' _ _).mono ?_; rintro e w3 ⟨rfl, hb3⟩; rw [hp2]; exact ⟨rfl, hb3⟩)
                          go_simp
                          (with_reducible refine hK _ ?_)
                          clear hK K
                          (with_reducible refine q_want (by kernel_rfl) (fun K hK => ?_))
                          apply Exists.intro
                          refine ⟨fun w' hw' => ?_, ?_⟩
                          · obtain ⟨f0, f1, f2, f3, f4, f5⟩ := HCELL.out w' hw'
                            go_simp
                            exact rfl
                          go_simp
                          (with_reducible refine hK _ ?_)
                          clear hK K
                          (with_reducible refine q_want (by kernel_rfl) (fun K hK => ?_))
                          apply Exists.intro
                          refine ⟨fun w' hw' => ?_, ?_⟩
                          · obtain ⟨f0, f1, f2, f3, f4, f5⟩ := HCELL.out w' hw'
                            go_simp
                            exact rfl
                          go_simp
                          (with_reducible refine hK _ ?_)
                          clear hK K
                          (with_reducible refine q_want (by kernel_rfl) (fun K hK => ?_))
                          apply Exists.intro
                          refine ⟨fun w' hw' => ?_, ?_⟩
                          · obtain ⟨f0, f1, f2, f3, f4, f5⟩ := HCELL.out w' hw'
                            go_simp
                            exact rfl
                          go_simp
                          (with_reducible refine hK _ ?_)
                          clear hK K
                          (with_reducible refine q_want (by kernel_rfl) (fun K hK => ?_))
                          apply Exists.intro
                          refine ⟨fun w' hw' => ?_, ?_⟩
                          · obtain ⟨f0, f1, f2, f3, f4, f5⟩ := HCELL.out w' hw'
                            go_simp
                            exact rfl
                          go_simp
                          (with_reducible refine hK _ ?_)
                          clear hK K
                          (with_reducible refine q_want (by kernel_rfl) (fun K hK => ?_))
                          apply Exists.intro
                          refine ⟨fun w' hw' => ?_, ?_⟩
                          · obtain ⟨f0, f1, f2, f3, f4, f5⟩ := HCELL.out w' hw'
                            go_simp
                            exact rfl
                          go_simp
                          (with_reducible refine hK _ ?_)
                          clear hK K
                          (with_reducible refine q_want (by kernel_rfl) (fun K hK => ?_))
                          apply Exists.intro
                          refine ⟨fun w' hw' => ?_, ?_⟩
                          · obtain ⟨f0, f1, f2, f3, f4, f5⟩ := HCELL.out w' hw'
                            go_simp
                            exact rfl
                          go_simp
                          (with_reducible refine hK _ ?_)
                          clear hK K
                          (with_reducible refine q_skip (by kernel_rfl) (fun K hK => ?_))
                          go_simp
                          (with_reducible refine hK _ ?_)
                          clear hK K
                          (with_reducible refine q_skip (by kernel_rfl) (fun K hK => ?_))
                          go_simp
                          (with_reducible refine hK _ ?_)
                          clear hK K
                          (with_reducible refine q_skip (by kernel_rfl) (fun K hK => ?_))
                          go_simp
                          (with_reducible refine hK _ ?_)
                          clear hK K
                          (with_reducible refine q_skip (by kernel_rfl) (fun K hK => ?_))
                          go_simp
                          (with_reducible refine hK _ ?_)
                          clear hK K
                          (with_reducible refine q_skip (by kernel_rfl) (fun K hK => ?_))
                          go_simp
                          (with_reducible refine hK _ ?_)
                          clear hK K
                          (with_reducible refine q_skip (by kernel_rfl) (fun K hK => ?_))
                          go_simp
                          (with_reducible refine hK _ ?_)
                          clear hK K
                          (with_reducible refine q_skip (by kernel_rfl) (fun K hK => ?_))
                          go_simp
                          (with_reducible refine hK _ ?_)
                          clear hK K
                          (with_reducible refine q_skip (by kernel_rfl) (fun K hK => ?_))
                          go_simp
                          (with_reducible refine hK _ ?_)
                          clear hK K
                          (with_reducible refine q_skip (by kernel_rfl) (fun K hK => ?_))
                          go_simp
                          (with_reducible refine hK _ ?_)
                          clear hK K
                          (with_reducible refine q_skip (by kernel_rfl) (fun K hK => ?_))
                          go_simp
                          (with_reducible refine hK _ ?_)
                          clear hK K
                          (with_reducible refine q_skip (by kernel_rfl) (fun K hK => ?_))
                          go_simp
                          (with_reducible refine hK _ ?_)
                          clear hK K
                          (with_reducible refine q_want (by kernel_rfl) (fun K hK => ?_))
                          apply Exists.intro
                          refine ⟨fun w' hw' => ?_, ?_⟩
                          · obtain ⟨f0, f1, f2, f3, f4, f5⟩ := HCELL.out w' hw'
                            go_simp
                            exact rfl
                          go_simp
                          (with_reducible refine hK _ ?_)
                          clear hK K
                          (with_reducible refine q_want (by kernel_rfl) (fun K hK => ?_))
                          apply Exists.intro
                          refine ⟨fun w' hw' => ?_, ?_⟩
                          · obtain ⟨f0, f1, f2, f3, f4, f5⟩ := HCELL.out w' hw'
                            go_simp
                            exact rfl
                          go_simp
                          (with_reducible refine hK _ ?_)
                          clear hK K
                          (with_reducible refine wpQuiet_nil ?_)
                          intro w9 hw9
                          go_wp2
                          go_meet
                          case rel => exact ⟨_, rfl, hw9⟩
                  case rest =>
                    obtain ⟨bb, rfl, hbx⟩ := hcut
                    have HBX := Lib.hid (HWW.out.trans (hbx.mono HWW.out.size))
                    clear hbx
                    cases bb with
                    | true =>
                      go_wp2
                      go_ret
                      exact ⟨40, rfl, (fun h => by cases h), HB.out.trans ((HVW.out.trans (HBX.out.mono HVW.out.size)).mono HB.out.size)⟩
                    | false =>
                      go_wp2
                      go_roundw
                      case rel => exact ⟨q + 1, by omega, by go_num, HBX.out⟩
                      case measure => simp [intOf]; omega
                · have hqn' : decide (q < ne) = false := by simpa using hqn
                  clear hqn
                  go_wp2
                  go_roundw
                  case rel => exact ⟨j + 1, by omega, by go_num, HFIT.out, HVW.out.trans (HBR.out.mono HVW.out.size)⟩
                  case measure => simp [intOf]; omega
        · have hjn : j = xs.length := by omega
          have hchk : Chk (xs.map (·.1)) := by
            have h2 := HS2.out
            have h1 := HS1.out
            rw [hjn] at h2
            exact ⟨by rw [List.length_map]; exact h1, by rw [List.length_map]; exact h2⟩
          have HCHK := Lib.hid hchk
          have hjl' : decide (j < xs.length) = false := by simpa using hjl
          clear hchk hjn hjl
          go_wp2
          generalize hwz : wq = wz at *
          clear hwz
          go_loopw [11] (fun kv wr => ∃ k : Nat, k ≤ rs.length ∧ kv = .int .i64 k ∧ Below V.heap.size V wr) (fun kv _ => rs.length - (intOf kv).toNat)
          case atStart => exact ⟨0, Nat.zero_le _, rfl, HBQ.out⟩
          case round =>
            clear cg0 HGQ HBQ
            obtain ⟨k, hk, rfl, hbr⟩ := hrel
            have HBR := Lib.hid hbr
            have hgr := blk_below hbr HC.out (blk_lt HC.out)
            have cg0 : wr.cell? ⟨g, 0, none⟩ = some (.slice A xs.length c) := bc hgr 0
            have cg1 : wr.cell? ⟨g, 1, none⟩ = some (.slice Ar rs.length cr) := bc hgr 1
            clear hbr hgr
            by_cases hkn : k < rs.length
            · obtain ⟨A9, c9, e9, hl9, hx9⟩ := HR0.out.below HBR.out (Nat.le_refl _)
              obtain ⟨b9, o9, rfl, hb9, hr9⟩ := hx9 (by omega)
              cases e9
              obtain ⟨z1, z2⟩ := hr9 k hkn
              have hR : ∀ W', Below V.heap.size V W' → ∀ x1 x2 : Int, Calls Tryd.prog 23 #[.slice A xs.length c, .agg #[.int .i64 x1, .int .i64 x2]] W' (fun e w' => ∃ bb : Bool, e = .returned (.bool bb) ∧ Below V.heap.size V w') := fun W' hW' x1 x2 => by
                refine (root_any _ (xs.map (·.1)) x1 x2 W' (H0.out.rd.below hW' (Nat.le_refl _))).mono ?_
                rintro e w' ⟨bb, rfl, hb⟩
                exact ⟨bb, rfl, hW'.trans (hb.mono hW'.size)⟩
              have HRT := Lib.hid hR
              clear hx9 hr9 hR
              go_upto_region 30 with (fail)
              go_still_tail 7, (by kernel_rfl)
              change wpList _ _ _ _ _ wr.drew
              have HD := Lib.hid (show Below V.heap.size V wr.drew from HBR.out.drew)
              generalize wr.drew = W2 at *
              go_wp2_with (go_at_call 23; (with_reducible refine (HRT.out _ HD.out _ _).mono ?_); rintro e w3 ⟨bb, rfl, hb3⟩; have HB3 := Lib.hid hb3; clear hb3)
              all_goals first
                | (go_ret; exact ⟨40, rfl, (fun h => by cases h), HB.out.trans (HB3.out.mono HB.out.size)⟩)
                | (go_roundw; (case rel => exact ⟨k + 1, by omega, by go_num, HB3.out⟩); (case measure => simp [intOf]; omega))
            · have hkn' : decide (k < rs.length) = false := by simpa using hkn
              clear hkn
              go_wp2
              go_ret
              exact ⟨0, rfl, fun _ => HCHK.out, HB.out.trans (HBR.out.mono HB.out.size)⟩
end Go.Proofs.YtpejmgellidhbaaDoor
