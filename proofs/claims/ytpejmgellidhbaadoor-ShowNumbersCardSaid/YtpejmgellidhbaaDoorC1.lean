/- The method look of show.walk. -/
import Derived.Test.YtpejmgellidhbaaDoorC0
namespace Go.Proofs.YtpejmgellidhbaaDoor
open Go.RowKit

set_option maxRecDepth 100000 in
set_option maxHeartbeats 40000000 in
theorem look_any (w0 w : World) (B p m : Nat) (nv rv : Value) (nodes : List Nd) (v : Int × Int) (hn : RdNodes w0 nv nodes) (hr : ∃ A n c, rv = .slice A n c)
    (hsm : ∀ nd ∈ nodes, nd.fields.length ≤ 20000 ∧ nd.raw.length ≤ 20000) (hW : WalkAt w0 w B p m (.iface 59 (.agg #[nv, rv])) (.slice none 0 0) 0 [] []) :
    Calls Tryd.prog 29 #[.pointer (some ⟨p, 0, none⟩), .agg #[.int .i64 v.1, .int .i64 v.2]] w (LookPost w0 B p m (.iface 59 (.agg #[nv, rv])) (lookM nodes 501 [v] [] 0)) := by
  have hB : B ≤ w.heap.size := Nat.le_of_lt (Nat.lt_of_le_of_lt (hW.lt (.inl rfl)).1 (hW.lt (.inl rfl)).2)
  have HN := hid hn
  have HRV := hid hr
  have HSM := hid hsm
  clear hn hr hsm
  go_enter Tryd.func29, Tryd.ntmps29
  go_wp2
  have hst : StackAt (((w.alloc (.cells #[.int .i64 v.1, .int .i64 v.2] 27)).alloc (.cells #[.int .i64 0, .int .i64 0] 38)).alloc (.cells #[.int .i64 v.1, .int .i64 v.2] 27)) B (.slice (some ⟨w.heap.size + 1 + 1, 0, none⟩) 1 1) [v] :=
    by
      have h1 := StackAt.one ((w.alloc (.cells #[.int .i64 v.1, .int .i64 v.2] 27)).alloc (.cells #[.int .i64 0, .int .i64 0] 38)) B (by simp; omega) v
      simp only [World.size_alloc] at h1
      exact h1
  have hrb := ha_old (x := .cells #[.int .i64 v.1, .int .i64 v.2] 27) (ha_new (w.alloc (.cells #[.int .i64 v.1, .int .i64 v.2] 27)) (.cells #[.int .i64 0, .int .i64 0] 38))
  have hW3 := ((hW.alloc (.cells #[.int .i64 v.1, .int .i64 v.2] 27)).alloc (.cells #[.int .i64 0, .int .i64 0] 38)).alloc (.cells #[.int .i64 v.1, .int .i64 v.2] 27)
  simp only [World.size_alloc] at hrb
  have hBrb : B ≤ w.heap.size + 1 := by omega
  obtain ⟨rb, hrbe⟩ : ∃ rb, rb = w.heap.size + 1 := ⟨_, rfl⟩
  generalize World.alloc (World.alloc (World.alloc w _) _) _ = W0 at *
  go_loopg [6] 501 (fun gk sv wr => LookAt w0 wr B p m (w.heap.size + 1) (.iface 59 (.agg #[nv, rv])) nodes (lookM nodes 501 [v] [] 0) gk sv)
  case atStart => exact ⟨[v], [], [], _, 0, hW3, hst, ⟨fun _ h => by simp at h, by simp⟩, rfl, by omega, by omega, by omega, by simp, hrb, hBrb⟩
  case round =>
    obtain ⟨stk, ms, bs, ov, c, hWk, hSt, hfew, hR, hc0, hc5, hgk, hlen, hrb, hBrb⟩ := hrel
    rw [← hrbe] at *
    clear hW3 hst hrbe hW
    have HR := hid hR
    have HFew := hid hfew
    clear hR hfew
    cases stk with
    | nil =>
      obtain ⟨A, cc, rfl⟩ := hSt.nilForm
      go_wp2_with (refine st38 rfl (.tmp 5) (.tmp 154) rfl rb rfl rfl hrb rfl ?_)
      obtain ⟨k, rfl⟩ : ∃ k, gk = k + 1 := ⟨gk - 1, by omega⟩
      have e1 : lookM nodes 501 [v] [] 0 = .ok ms := HR.out.symm.trans rfl
      rw [e1]
      exact bodyPost_ret (resT38 rfl rfl (setRow_heap _ _ _ _ _ _ hrb) rfl) rfl ⟨below_setRow hWk.elder.1 hBrb _, rfl, ov, c, bs, hWk.row hrb hBrb (by decide) _⟩
    | cons x rest =>
      obtain ⟨g, cap, cur, rfl, hBg, hg, hx0, hx1, hSt', hcap, hcm⟩ := hSt.top
      have hp := hWk.own
      have cp0 : wr.cell? ⟨p, 0, none⟩ = some (.iface 59 (.agg #[nv, rv])) := bc hp 0
      have cp1 : wr.cell? ⟨p, 1, none⟩ = some (.map (some m)) := bc hp 1
      have cp2 : wr.cell? ⟨p, 2, none⟩ = some ov := bc hp 2
      have cp3 : wr.cell? ⟨p, 3, none⟩ = some (.int .i64 c) := bc hp 3
      have fp := bf hp
      have hrl : rest.length ≤ 20000000 := by simp only [List.length_cons, Int.natCast_add] at hlen; omega
      have hplt := blk_lt hp
      have hglt := blk_lt hg
      have hrp : rb ≠ p := (hWk.ne hrb (by decide) (.inl rfl)).symm
      have hWk1 := (hWk.count (c + 1)).alloc (.cells #[.int .i64 x.1, .int .i64 x.2] 27)
      have hSt1 := (hSt'.store hp (by decide) 3 (.int .i64 (c + 1))).alloc (.cells #[.int .i64 x.1, .int .i64 x.2] 27)
      have hrb1 := ha_old (x := .cells #[.int .i64 x.1, .int .i64 x.2] 27) (hs_ne (a := ⟨p, 3, none⟩) (v := .int .i64 (c + 1)) hrp hrb)
      have hxb := ha_new (wr.setCell ⟨p, 3, none⟩ (.int .i64 (c + 1))) (.cells #[.int .i64 x.1, .int .i64 x.2] 27)
      simp only [World.size_setCell] at hxb
      have HF := hid (And.intro hWk1 (And.intro hSt1 (And.intro hrb1 (And.intro hxb (And.intro hlen (And.intro hBrb hBg))))))
      clear hWk1 hSt1 hrb1 hxb hWk hSt hSt' hrb hg hlen hp hBg hrp hcm cp0 cp1 cp2
      go_upto_region 6 with (fail)
      obtain ⟨hWk1, hSt1, hrb1, hxb, hlen, hBrb, hBg⟩ := HF.out
      clear HF hx0 hx1 cp3 fp hplt hglt
      generalize hW1 : World.alloc (World.setCell wr _ _) _ = W1 at *
      have cp3 : W1.cell? ⟨p, 3, none⟩ = some (.int .i64 (c + 1)) := bc hWk1.own 3
      have cx0 : W1.cell? ⟨wr.heap.size, 0, none⟩ = some (.int .i64 x.1) := bc hxb 0
      have cx1 : W1.cell? ⟨wr.heap.size, 1, none⟩ = some (.int .i64 x.2) := bc hxb 1
      clear hW1
      generalize hxbe : wr.heap.size = xb at *
      clear hxbe
      have hxlt := blk_lt hxb
      have hplt := blk_lt hWk1.own
      obtain ⟨k, rfl⟩ : ∃ k, gk = k + 1 := ⟨gk - 1, by omega⟩
      by_cases hbig : 500 < c + 1
      · have e1 : lookM nodes 501 [v] [] 0 = .large := HR.out.symm.trans (by simp [lookM, hbig])
        have E1 := hid e1
        clear e1
        go_wp2_with (refine st38 rfl (.tmp 5) (.tmp 42) rfl rb rfl rfl hrb1 rfl ?_)
        rw [E1.out]
        exact bodyPost_ret (resT38 rfl rfl (setRow_heap _ _ _ _ _ _ hrb1) rfl) rfl ⟨below_setRow hWk1.elder.1 hBrb _, rfl⟩
      · by_cases hval : validB x.1 x.2 = true
        · by_cases hk2 : (x.1 == 2) = true
          · have hk2' : (x.1 != 2) = false := by simpa using hk2
            go_upto_region 11 with (go_at_call 35; refine (valid_any _ _ _).mono ?_; rintro e w1 ⟨rfl, hb1⟩; obtain ⟨hc1, hf1⟩ := bcell hb1)
            have hWk2 := hWk1.below hb1
            have hSt2 := hSt1.below hb1
            have hrb2 := blk_below hb1 hrb1 (blk_lt hrb1)
            have hxb2 := blk_below hb1 hxb hxlt
            have cp1 : w1.cell? ⟨p, 1, none⟩ = some (.map (some m)) := bc hWk2.own 1
            have cx1' : w1.cell? ⟨xb, 1, none⟩ = some (.int .i64 x.2) := bc hxb2 1
            clear hc1 hf1 hWk1 hSt1 hrb1 hxb cp3 cx0 cx1 hxlt hplt hb1
            obtain ⟨es, hmb, hes⟩ := hWk2.map
            have HWk := hid hWk2
            have HSt := hid hSt2
            have Hrb := hid hrb2
            have Hxb := hid hxb2
            have HL := hid hlen
            clear hWk2 hSt2 hrb2 hxb2 hlen
            obtain ⟨q, hq⟩ : ∃ q, q = mapAt ((ms.map (·.1)).zip bs) x.2 := ⟨_, rfl⟩
            have hlk : ∀ nq, (Instr.lookup 67 (.map (some m)) (.int .i64 x.2) false).run Tryd.prog (w1.drewN nq) = .ok (ptrOf q) (w1.drewN nq) := fun nq => by
              rw [run_lookup67 (w := w1.drewN nq) hmb hes x.2, ← hq]
            have heqn : ∀ W, (binOp .eql 80 (ptrOf q) (.pointer none)).run Tryd.prog W = .ok (.bool q.isNone) W := eql_ptrOf q
            have heqg : ∀ W, (eqGuard .eql 80 (.tmp 57) (.const (.pointer none)) (ptrOf q) (.pointer none)).run Tryd.prog W = .ok () W := eqg_ptrOf q
            have Hq := hid hq
            clear hq hmb hes
            go_quiet (fail)
            go_upto_if 59 with (fail)
            go_cut [8] (fun s8 wc => LookMid w0 wc B p m rb (.iface 59 (.agg #[nv, rv])) nodes (lookM nodes 501 [v] [] 0) k (c + 1) (.slice (some ⟨g, 0, none⟩) rest.length cap) rest q.isNone s8)
            case first =>
              have hWk2 := HWk.out.below (w' := w1.drewN nq) (below_drewN (Below.refl _ _) nq)
              have hSt2 := HSt.out.below (w' := w1.drewN nq) (below_drewN (Below.refl _ _) nq)
              have hrb2 : (w1.drewN nq).heap[rb]? = some (.cells #[.int .i64 0, .int .i64 0] 38 (0, 0)) := blk_below (below_drewN (Below.refl w1.heap.size w1) nq) Hrb.out (blk_lt Hrb.out)
              have hxb2 : (w1.drewN nq).heap[xb]? = some (.cells #[.int .i64 x.1, .int .i64 x.2] 27 (0, 0)) := blk_below (below_drewN (Below.refl w1.heap.size w1) nq) Hxb.out (blk_lt Hxb.out)
              clear HWk HSt Hrb Hxb hlk cp1 cx1'
              generalize World.drewN w1 nq = W2 at *
              have hmm := mapAt_met ms bs x.2 hWk2.len
              rw [← Hq.out] at hmm
              have hk3 : Hid (x.1 = 2) := hid (by simpa using hk2)
              cases q with
              | none =>
                have hnone : metAt ms x.2 = none := hmm.1 rfl
                have cp0 : W2.cell? ⟨p, 0, none⟩ = some (.iface 59 (.agg #[nv, rv])) := bc hWk2.own 0
                have cx0 : W2.cell? ⟨xb, 0, none⟩ = some (.int .i64 x.1) := bc hxb2 0
                have cx1 : W2.cell? ⟨xb, 1, none⟩ = some (.int .i64 x.2) := bc hxb2 1
                have hbe : Below w0.heap.size w0 W2 := hWk2.elder.1.mono hWk2.elder.2
                have hplt := blk_lt hWk2.own
                have hxlt := blk_lt hxb2
                have HF := hid (And.intro hWk2 (And.intro hSt2 (And.intro hrb2 hxb2)))
                have HB := hid hbe
                have HNone := hid hnone
                clear hWk2 hSt2 hrb2 hxb2 hbe hmm hnone
                go_upto_region 14 with (fail)
                go_cut [10, 11] (fun s10 s11 wc => NodeGot w0 W2 (findN nodes x.2) s10 s11 wc)
                case first =>
                  rename_i r8 _ _ _ _ r7 r6 _ r5 _ _ r4 r3 r0 _ r2 _ _ r1 ra
                  clear r8 r7 r6 r5 r4 r3 r0 r2 heqn heqg HF HR Hq HL HSM HNone HFew
                  have n1 : ¬ p = W2.heap.size := by omega
                  have n2 : ¬ xb = W2.heap.size := by omega
                  have n5 : ¬ W2.heap.size = p := by omega
                  have n6 : ¬ W2.heap.size = xb := by omega
                  have n7 : ¬ W2.heap.size + 1 = p := by omega
                  have n8 : ¬ W2.heap.size + 1 = xb := by omega
                  have n3 : ¬ p = W2.heap.size + 1 := by omega
                  have n4 : ¬ xb = W2.heap.size + 1 := by omega
                  have hC : ∀ W, Below W2.heap.size W2 W → Calls Tryd.prog 112 #[.agg #[nv, rv], .agg #[.int .i64 x.1, .int .i64 x.2]] W (fun e w' => NodeGen w0 W (findN nodes x.2) e w' ∧ W2.heap.size ≤ w'.heap.size ∧ ∀ b o, b < W2.heap.size → w'.cell? ⟨b, o, none⟩ = W2.cell? ⟨b, o, none⟩) := fun W hW =>
                    (node_gen w0 nv rv nodes _ _ W HN.out (HB.out.trans (hW.mono HB.out.size)) HRV.out).mono fun e w' h => ⟨h, Nat.le_trans hW.size h.1.size, fun b o hb => (hW.trans (h.1.mono hW.size)).cell (p := ⟨b, o, none⟩) hb⟩
                  have HC := hid hC
                  clear hC HN HB HRV
                  go_region_held3 (fun w' => w'.cell? ⟨p, 0, none⟩ = some (.iface 59 (.agg #[nv, rv])) ∧ w'.cell? ⟨xb, 0, none⟩ = some (.int .i64 x.1) ∧ w'.cell? ⟨xb, 1, none⟩ = some (.int .i64 x.2)) (go_keep) (first | (go_at_call 112; refine (HC.out _ (by go_grown)).mono ?_; rintro e w2 ⟨⟨hb2, i', k', f', A1, n1', c1, A2, n2', c2, A3, n3', c3, rfl, hres⟩, hs2, hq2⟩; obtain ⟨hc2, hf2⟩ := bcell hb2; have k3 := Nat.lt_of_lt_of_le hplt hs2; have k4 := Nat.lt_of_lt_of_le hxlt hs2; have hs3 := hb2.size; (try rw [size_drew] at hs3); (try rw [World.size_alloc] at hs3); (try rw [World.size_alloc] at hs3); (try have k1 : W2.heap.size < w2.heap.size := hs3); (try have k1 : W2.heap.size < w2.heap.size := Nat.le_of_succ_le hs3); (try have k2 : W2.heap.size + 1 < w2.heap.size := hs3); have q0 := hq2 p 0 hplt; have q1 := hq2 xb 0 hxlt; have q2 := hq2 xb 1 hxlt; clear hs2 hq2 hs3))
                  all_goals
                    go_wp2_with (fail)
                    go_meet
                  · exact nodeGot_res (got1 hb2) hres
                  · exact nodeGot_res (got2 hb2) hres
                  · exact nodeGot_res (got3 hb2) hres
                  · exact nodeGot_res (got4 hb2) hres
                  · exact nodeGot_res (got5 hb2) hres
                  · exact nodeGot_res (got6 hb2) hres
                case rest =>
                  rename_i r8 _ _ _ _ r7 r6 _ r5 _ _ r4 r3 r0
                  obtain ⟨hWk2, hSt2, hrb2, hxb2⟩ := HF.out
                  obtain ⟨nb, fb, a0, a1, a2, a3, a4, f0, f1, rfl, rfl, ⟨hgb, hgn, hgf⟩, hgr⟩ := hcut
                  have hWk3 := hWk2.below hgb
                  have hSt3 := hSt2.below hgb
                  have hrb3 := blk_below hgb hrb2 (blk_lt hrb2)
                  have hxb3 := blk_below hgb hxb2 (blk_lt hxb2)
                  clear hWk2 hSt2 hrb2 hxb2 HF HB cp0 cx0 cx1 hplt hxlt hgb
                  have hR1 := HR.out
                  have hnb : ¬ 500 < c + 1 := by omega
                  have cf0 : wc.cell? ⟨fb, 0, none⟩ = some f0 := bc hgf 0
                  have cf1 : wc.cell? ⟨fb, 1, none⟩ = some f1 := bc hgf 1
                  cases hf : findN nodes x.2 with
                  | none =>
                    rw [hf] at hgr
                    rw [look_lost hnb hval hk3.out HNone.out hf] at hR1
                    obtain ⟨rfl, rfl⟩ := hgr
                    have cr0 : wc.cell? ⟨rb, 0, none⟩ = some (.int .i64 0) := bc hrb3 0
                    have cr1 : wc.cell? ⟨rb, 1, none⟩ = some (.int .i64 0) := bc hrb3 1
                    have fr0 := bf hrb3
                    have HF := hid (And.intro hWk3 (And.intro hrb3 hR1))
                    clear hWk3 hSt3 hrb3 hxb3 hR1 hgn hgf hf
                    go_upto_region 16 with (fail)
                    go_region
                    all_goals
                      go_wp2_with (fail)
                      rw [← HF.out.2.2]
                      refine bodyPost_ret (resT38 rfl rfl (hs_same (hs_same HF.out.2.1)) rfl) rfl ⟨?_, rfl⟩
                      exact (HF.out.1.drew.elder.1.setCell hBrb _).setCell hBrb _
                  | some nd =>
                    rw [hf] at hgr
                    rw [look_new hnb hval hk3.out HNone.out hf] at hR1
                    obtain ⟨rfl, rfl, rfl, rfl, hnv⟩ := hgr
                    have hsm := HSM.out nd (List.mem_of_find?_eq_some hf)
                    obtain ⟨rA, rn, rc, hre⟩ := hnv.rawForm
                    obtain ⟨fA, fn, fc, hfe⟩ := hnv.fieldsForm
                    obtain ⟨eA, en, ec, hee⟩ := hnv.ev
                    subst hre hfe hee
                    have cn0 : wc.cell? ⟨nb, 0, none⟩ = some (.int .i64 nd.id) := bc hgn 0
                    have cn1 : wc.cell? ⟨nb, 1, none⟩ = some (.int .i64 nd.kind) := bc hgn 1
                    have cn2 : wc.cell? ⟨nb, 2, none⟩ = some (.slice rA rn rc) := bc hgn 2
                    have cn3 : wc.cell? ⟨nb, 3, none⟩ = some (.slice fA fn fc) := bc hgn 3
                    have cn4 : wc.cell? ⟨nb, 4, none⟩ = some (.slice eA en ec) := bc hgn 4
                    obtain ⟨es, hmb, hes⟩ := hWk3.map
                    have hmlt := blk_lt hmb
                    have hzl : ((ms.map (·.1)).zip bs).length = ms.length := by simp [List.length_zip, hWk3.len]
                    have hmb4 := ha_old (x := .cells #[.int .i64 nd.id, .int .i64 nd.kind, .slice rA rn rc, .slice fA fn fc, .slice eA en ec, .int .i64 0, .int .i64 (-1), .bool false] 84) hmb
                    have hup := run_put67 (by rw [hzl]; exact hmb4) hes Hq.out.symm wc.heap.size
                    have hupD := run_put67 (w := World.drew (wc.alloc (.cells #[.int .i64 nd.id, .int .i64 nd.kind, .slice rA rn rc, .slice fA fn fc, .slice eA en ec, .int .i64 0, .int .i64 (-1), .bool false] 84))) (by rw [hzl]; exact hmb4) hes Hq.out.symm wc.heap.size
                    rw [hzl] at hup hupD
                    have hW4 := hWk3.alloc (.cells #[.int .i64 nd.id, .int .i64 nd.kind, .slice rA rn rc, .slice fA fn fc, .slice eA en ec, .int .i64 0, .int .i64 (-1), .bool false] 84)
                    have hxb4 := ha_old (x := .cells #[.int .i64 nd.id, .int .i64 nd.kind, .slice rA rn rc, .slice fA fn fc, .slice eA en ec, .int .i64 0, .int .i64 (-1), .bool false] 84) hxb3
                    have cp1 : (World.alloc wc (.cells #[.int .i64 nd.id, .int .i64 nd.kind, .slice rA rn rc, .slice fA fn fc, .slice eA en ec, .int .i64 0, .int .i64 (-1), .bool false] 84)).cell? ⟨p, 1, none⟩ = some (.map (some m)) := bc hW4.own 1
                    have cx1 : (World.alloc wc (.cells #[.int .i64 nd.id, .int .i64 nd.kind, .slice rA rn rc, .slice fA fn fc, .slice eA en ec, .int .i64 0, .int .i64 (-1), .bool false] 84)).cell? ⟨xb, 1, none⟩ = some (.int .i64 x.2) := bc hxb4 1
                    have HG := hid (And.intro hWk3 (And.intro hSt3 (And.intro hrb3 (And.intro hxb3 (And.intro hR1 (And.intro hgn (And.intro hgf (And.intro hf (And.intro hnv (And.intro hsm (And.intro hmb hes)))))))))))
                    clear hWk3 hSt3 hrb3 hxb3 hR1 hgn hgf hf hnv hsm hmb hes hzl hmb4 hW4 hxb4 Hq
                    go_upto_region 18 with (fail)
                    generalize hW4 : World.alloc wc _ = W4 at *
                    clear cn0 cn1 cn2 cn3 cn4 cf0 cf1
                    go_still_tail 7, (by kernel_rfl)
                    go_upto_region 19 with (fail)
                    have hBs : B ≤ wc.heap.size := Nat.le_of_lt (Nat.lt_of_le_of_lt (HG.out.1.lt (.inl rfl)).1 (HG.out.1.lt (.inl rfl)).2)
                    have h5b : Below B w0 (mapPut (World.drew W4) m (.map (es.push { key := .int .i64 x.2, val := .pointer (some ⟨wc.heap.size, 0, none⟩), born := ms.length }) (ms.length + 1))) := by
                      rw [← hW4]
                      exact mapPut_below (HG.out.1.elder.1.alloc hBs _).drew HG.out.1.base.2.1 _
                    have h5 : (mapPut (World.drew W4) m (.map (es.push { key := .int .i64 x.2, val := .pointer (some ⟨wc.heap.size, 0, none⟩), born := ms.length }) (ms.length + 1))).heap =
                        (mapPut (wc.alloc (.cells #[.int .i64 nd.id, .int .i64 nd.kind, .slice rA rn rc, .slice fA fn fc, .slice eA en ec, .int .i64 0, .int .i64 (-1), .bool false] 84)) m (.map (es.push { key := .int .i64 x.2, val := .pointer (some ⟨wc.heap.size, 0, none⟩), born := ms.length }) (ms.length + 1))).heap := by
                      rw [← hW4]
                      rfl
                    have hg5 : wc.grownBy (mapPut (World.drew W4) m (.map (es.push { key := .int .i64 x.2, val := .pointer (some ⟨wc.heap.size, 0, none⟩), born := ms.length }) (ms.length + 1))) (some m) := by
                      rw [← hW4]
                      exact put_grown _ _ _ _
                    generalize mapPut (World.drew W4) m _ = W5 at *
                    have hO5 : W5.ownsRow B 3 1 ov ms.length (ms.map fun y => .int .i64 y.1) := World.ownsRow.kept HG.out.1.order hg5 (.inr (HG.out.1.order_ne HG.out.2.2.2.2.2.2.2.2.2.2.1 (by simp)))
                    have hp5 : W5.heap[p]? = some (.cells #[.iface 59 (.agg #[nv, rv]), .map (some m), ov, .int .i64 (c + 1)] 69 (0, 0)) := (hg5.block p (HG.out.1.lt (.inl rfl)).2 (fun e => HG.out.1.p_ne (.inl rfl) (Option.some.inj e).symm)).trans HG.out.1.own
                    have hx5 : W5.heap[xb]? = some (.cells #[.int .i64 x.1, .int .i64 x.2] 27 (0, 0)) := (hg5.block xb (blk_lt HG.out.2.2.2.1) (fun e => HG.out.1.ne HG.out.2.2.2.1 (by decide) (.inr (.inl rfl)) (Option.some.inj e).symm)).trans HG.out.2.2.2.1
                    have hpo : ov.ownBlock ≠ some p := HG.out.1.order_ne HG.out.1.own (by simp)
                    have cp2 : W5.cell? ⟨p, 2, none⟩ = some ov := bc hp5 2
                    have cx1' : W5.cell? ⟨xb, 1, none⟩ = some (.int .i64 x.2) := bc hx5 1
                    have hO5a : ((W5.drew).alloc (.cells #[.int .i64 x.2] 3)).ownsRow B 3 1 ov ms.length (ms.map fun y => .int .i64 y.1) := World.ownsRow.alloc (w := W5.drew) hO5 _
                    have hml : ms.length ≤ 1000000 := by have := HFew.out.2; omega
                    have hB5 : B ≤ W5.heap.size := Nat.le_trans hBs hg5.size
                    obtain ⟨i0, hi0, hz0, hz1, hz2⟩ := info_parts int_info
                    have hpl5 := blk_lt hp5
                    have Hp5 := hid hp5
                    have HO := hid (And.intro hO5a hpo)
                    have H5 := hid (And.intro h5 h5b)
                    obtain ⟨oA, oc, rfl⟩ := ownsRow_slice hO5
                    clear hO5 hO5a hpo hp5 hx5 h5 h5b hg5 hup hupD cp1 cx1 hmlt
                    go_region_law (refine step_append_at rfl (.tmp 87) (.tmp 90) 31 rfl B 3 i0 _ 1 8 Tryd.underlying31 hi0 hz0 hz1 hz2 rfl (by omega) (.slice oA ms.length oc) ms.length _ (by simp [Act.eval]) HO.out.1 ⟨W5.heap.size, 0, none⟩ 1 1 [.int .i64 x.2] (by simp [Act.eval]) rfl (cell_one_new (World.drew W5) _ _) (by simp [Value.oneCell']) (by simp only [maxLen]; omega) (by omega) (by simp; omega) ?_; intro v1 w1 hown1 hg1 hat1; have hgg : (W5.alloc (.cells #[.int .i64 x.2] 3)).grownBy w1 (Value.ownBlock (.slice oA ms.length oc)) := ⟨hg1.os, hg1.tape, hg1.output, hg1.size, hg1.block⟩; have hp1 := (hgg.block p (by simp; omega) (fun e => HO.out.2 e.symm)).trans (ha_old Hp5.out); have fp1 := bf hp1; have cpp := bc hp1 2; clear hg1 hat1 hp1; obtain ⟨A1, c1, rfl⟩ := ownsRow_slice hown1)
                    all_goals
                      go_wp2_with (fail)
                      go_meet
                      case rel =>
                        obtain ⟨hWk3, hSt3, hrb3, hxb3, hR1, hgn, hgf, hf, hnv, hsm, hmb, hes⟩ := HG.out
                        obtain ⟨hWn, hkeep, -⟩ := WalkAt.enter hWk3 hmb hes HNone.out hnv H5.out.1 H5.out.2 hown1 hgg
                        refine ⟨wc.heap.size, _, _, _, ms.length, x.2, ⟨nd, 0, -1, false⟩, rfl, hWn, by simp [hWk3.len], by simp, StackAt.held hSt3 (fun g' cs _ hg' => hkeep g' cs 27 _ hg' (by decide) ?_), hkeep rb _ 38 _ hrb3 (by decide) ?_, HFew.out.new rfl hc0 |>.mono (by omega) (by omega), fun _ => hsm.1, ?_⟩
                        · intro e
                          rw [e, hWk3.own] at hg'
                          simp at hg'
                        · intro e
                          rw [e, hWk3.own] at hrb3
                          simp at hrb3
                        · rw [metMod_last _ _ _ _ HNone.out]
                          simpa [once] using hR1
              | some b =>
                obtain ⟨i, mm, hi1, hi2, hi3⟩ := hmm.2 b rfl
                have HF := hid (And.intro hWk2 (And.intro hSt2 (And.intro hrb2 (And.intro hi1 (And.intro hi2 hi3)))))
                clear hWk2 hSt2 hrb2 hxb2 hmm hi1 hi2 hi3
                go_wp2_with fail
                go_meet
                case rel =>
                  obtain ⟨hWk2, hSt2, hrb2, hi1, hi2, hi3⟩ := HF.out
                  have hR1 := HR.out
                  have hnb : ¬ 500 < c + 1 := by omega
                  rw [look_met hnb hval hk3.out hi3] at hR1
                  exact ⟨b, ms, bs, ov, i, x.2, mm, rfl, hWk2, hi1, hi2, hSt2, hrb2, HFew.out.mono (by omega) (by omega), by simp, by simpa using hR1⟩
            case rest =>
              clear HWk HSt Hrb Hxb hlk heqn heqg cp1 cx1'
              clear Hq
              generalize q.isNone = fr at *
              have HM := hid hcut
              clear hcut
              obtain ⟨b, ms', bs', ov', i, n, mm, rfl, hWk, hbi, hmi, hSt, hrb3, hfew, hsm3, hRR⟩ := HM.out
              clear HM
              have ht := hfew.1 _ (List.mem_of_getElem? hmi)
              have ht0 : 0 ≤ mm.times := ht.1
              have ht1 : mm.times ≤ 500 := by have h2 : mm.times ≤ c + 1 - 1 := ht.2; omega
              clear ht
              obtain ⟨mrv, mfv, mev, hmb, hnv⟩ := hWk.mets i b _ hbi hmi
              simp only at hmb hnv
              have cb5 : wc.cell? ⟨b, 5, none⟩ = some (.int .i64 mm.times) := bc hmb 5
              have fb5 := bf hmb
              have hWk1 := hWk.turn hbi hmi once rfl 5 (.int .i64 (mm.times + 1)) (fun _ _ _ => rfl)
              have hSt1 := hSt.store hmb (by decide) 5 (.int .i64 (mm.times + 1))
              have hrb1 := hs_ne (a := ⟨b, 5, none⟩) (v := .int .i64 (mm.times + 1)) (fun e => by rw [e] at hrb3; rw [hrb3] at hmb; simp at hmb) hrb3
              have hmb1 := hs_same (i := 5) (v := .int .i64 (mm.times + 1)) hmb
              have HF := hid (And.intro hWk1 (And.intro hSt1 (And.intro hrb1 (And.intro hmb1 (And.intro hRR (And.intro hsm3 (And.intro hnv hfew)))))))
              clear hWk hSt hrb3 hmb hnv hfew hsm3 hRR hWk1 hSt1 hrb1 hmb1 hbi hmi
              go_upto_region 21 with (fail)
              generalize hW3 : World.setCell wc _ _ = W3 at *
              clear hW3 cb5 fb5
              obtain ⟨hWk, hSt, hrb3, hmb, hRR, hsm3, hnv, hfew⟩ := HF.out
              clear HF
              replace hmb : W3.heap[b]? = some (.cells #[.int .i64 mm.nd.id, .int .i64 mm.nd.kind, mrv, mfv, mev, .int .i64 (mm.times + 1), .int .i64 mm.label, .bool mm.told] 84 (0, 0)) := hmb
              have hfew1 : Few (c + 1) (c + 1) (metMod once n ms') := by
                have := hfew.once (n := n)
                rwa [Int.sub_add_cancel] at this
              clear hfew
              have cb1 : W3.cell? ⟨b, 1, none⟩ = some (.int .i64 mm.nd.kind) := bc hmb 1
              have cp3 : W3.cell? ⟨p, 3, none⟩ = some (.int .i64 (c + 1)) := bc hWk.own 3
              have fp3 := bf hWk.own
              by_cases hk4 : (mm.nd.kind == 4) = true
              · have hk4' : mm.nd.kind = 4 := by simpa using hk4
                obtain ⟨mA, mc, rfl, hrl2, -⟩ := hnv.raw
                have cb2 : W3.cell? ⟨b, 2, none⟩ = some (.slice mA mm.nd.raw.length mc) := bc hmb 2
                have hsum : IntKind.i64.wrap (c + 1 + (mm.nd.raw.length : Int)) = c + 1 + (mm.nd.raw.length : Int) := IntWalk.i64_in _ (by omega)
                have hWk1 := (hWk.count (c + 1 + mm.nd.raw.length)).drew
                have hSt1 := (hSt.store hWk.own (by decide) 3 (.int .i64 (c + 1 + mm.nd.raw.length))).below (Below.refl _ _).drew
                have hrb1 := hs_ne (w := W3) (a := ⟨p, 3, none⟩) (v := .int .i64 (c + 1 + mm.nd.raw.length)) (fun e => by rw [e] at hrb3; rw [hWk.own] at hrb3; simp at hrb3) hrb3
                have hmb1 := hs_ne (w := W3) (a := ⟨p, 3, none⟩) (v := .int .i64 (c + 1 + mm.nd.raw.length)) (fun e => by rw [e, hWk.own] at hmb; simp at hmb) hmb
                have hrb2 : (World.drew (W3.setCell ⟨p, 3, none⟩ (.int .i64 (c + 1 + mm.nd.raw.length)))).heap[rb]? = _ := hrb1
                have hmb2 : (World.drew (W3.setCell ⟨p, 3, none⟩ (.int .i64 (c + 1 + mm.nd.raw.length)))).heap[b]? = _ := hmb1
                have HF := hid (And.intro hWk1 (And.intro hSt1 (And.intro hrb2 (And.intro hmb2 (And.intro hRR (And.intro hnv hfew1))))))
                clear hrb2 hmb2
                clear hWk hSt hrb3 hmb hRR hsm3 hnv hfew1 hWk1 hSt1 hrb1 hmb1
                go_upto_region 22 with (fail)
                go_still_tail 13, (by kernel_rfl)
                go_upto_region 23 with (fail)
                generalize hW4 : World.drew (World.setCell _ _ _) = W4 at *
                clear hW4 cb1 cb2 cp3 fp3 hsum
                obtain ⟨hWk, hSt, hrb3, hmb, hRR, hnv, hfew⟩ := HF.out
                clear HF
                have cp3 : W4.cell? ⟨p, 3, none⟩ = some (.int .i64 (c + 1 + mm.nd.raw.length)) := bc hWk.own 3
                have cb1 : W4.cell? ⟨b, 1, none⟩ = some (.int .i64 mm.nd.kind) := bc hmb 1
                have Hmb := hid hmb
                have HNV := hid hnv
                have HFew2 := hid hfew
                clear hmb hnv hfew
                have hkb : kBox mm.nd.kind = false := by rw [hk4']; decide
                by_cases hb2 : 500 < c + 1 + (mm.nd.raw.length : Int)
                · have e1 : lookM nodes 501 [v] [] 0 = .large := by
                    rw [← hRR, if_pos ⟨hk4', hb2⟩]
                  have E1 := hid e1
                  clear e1 hRR
                  go_wp2_with (refine st38 rfl (.tmp 5) (.tmp 125) rfl rb rfl rfl hrb3 rfl ?_)
                  rw [E1.out]
                  exact bodyPost_ret (resT38 rfl rfl (setRow_heap _ _ _ _ _ _ hrb3) rfl) rfl ⟨below_setRow hWk.elder.1 hBrb _, rfl⟩
                · have hRR1 : lookM nodes k rest (metMod once n ms') (c + 1 + mm.nd.raw.length) = lookM nodes 501 [v] [] 0 := by
                    rw [← hRR, if_neg (fun h => hb2 h.2), hkb]
                    simp [grows, hk4']
                  have hRR2 := hid hRR1
                  clear hRR hRR1
                  have HWk := hid hWk
                  have HSt := hid hSt
                  have Hrb := hid hrb3
                  clear hWk hSt hrb3
                  cases fr
                  all_goals
                    go_wp2_with (go_at_call 36; refine (container_any _ _).mono ?_; rintro e w1 ⟨rfl, rfl⟩; first | rw [hkb] | rw [show kBox 4 = false from rfl])
                    go_roundg k
                    case measure => omega
                    case rel =>
                      have hlen := HL.out
                      simp only [List.length_cons, Int.natCast_add] at hlen
                      exact ⟨rest, _, bs', ov', c + 1 + mm.nd.raw.length, HWk.out, HSt.out, HFew2.out.mono (by omega) (by omega), hRR2.out, by omega, by omega, by omega, by omega, Hrb.out, hBrb⟩
              · have hk4' : (mm.nd.kind == 4) = false := by simpa using hk4
                have hk4n : mm.nd.kind ≠ 4 := by simpa using hk4
                have hRR1 : lookM nodes k (if (fr && kBox mm.nd.kind) = true then partsM mm.nd.kind mm.nd.fields ++ rest else rest) (metMod once n ms') (c + 1) = lookM nodes 501 [v] [] 0 := by
                  have hn4 : ¬ (mm.nd.kind = 4 ∧ 500 < c + 1 + (mm.nd.raw.length : Int)) := fun h => hk4n h.1
                  have hg0 : grows mm.nd = 0 := by simp [grows, hk4n]
                  rw [if_neg hn4, hg0, Int.add_zero] at hRR
                  exact hRR
                clear hRR hk4
                by_cases hfk : (fr && kBox mm.nd.kind) = true
                · simp only [hfk, if_true] at hRR1
                  obtain ⟨rfl, hkb⟩ : fr = true ∧ kBox mm.nd.kind = true := by simpa using hfk
                  have hlenp : (partsM mm.nd.kind mm.nd.fields).length ≤ 20000 := by
                    have := hsm3 rfl
                    unfold partsM
                    split
                    · simp
                    · split
                      · simp
                      · exact this
                  have hfv := hnv.fields.below hWk.elder.1 hWk.elder.2
                  obtain ⟨rA, rn, rc, hre⟩ := hnv.rawForm
                  obtain ⟨fA, fn, fc, hfe⟩ := hnv.fieldsForm
                  obtain ⟨eA, en, ec, hee⟩ := hnv.ev
                  subst hre hfe hee
                  have cb0 : W3.cell? ⟨b, 0, none⟩ = some (.int .i64 mm.nd.id) := bc hmb 0
                  have cb2 : W3.cell? ⟨b, 2, none⟩ = some (.slice rA rn rc) := bc hmb 2
                  have cb3 : W3.cell? ⟨b, 3, none⟩ = some (.slice fA fn fc) := bc hmb 3
                  have cb4 : W3.cell? ⟨b, 4, none⟩ = some (.slice eA en ec) := bc hmb 4
                  have HF := hid (And.intro hWk (And.intro hSt (And.intro hrb3 (And.intro hRR1 (And.intro hfew1 hfv)))))
                  have HNF := hid hnv.fields
                  clear hWk hSt hrb3 hRR1 hfew1 hfv hnv hsm3 cp3 fp3 hmb hfk
                  go_upto_region 27 with (first | (go_at_call 36; refine (container_any _ _).mono ?_; rintro e w1 ⟨rfl, rfl⟩; rw [hkb]) | (go_at_call 37; refine (parts_any _ _ _ _ _ mm.nd.fields _ HF.out.2.2.2.2.2).mono ?_; rintro e w1 ⟨pv, rfl, hpv, hb1, hpb⟩))
                  obtain ⟨hWk, hSt, hrb3, hRR1, hfew1, hfv⟩ := HF.out
                  clear HF
                  have hap := parts_apart HNF.out hWk.elder.2 hpv hpb hSt
                  have hWk4 := hWk.below hb1
                  have hSt4 := hSt.below hb1
                  have hrb4 := blk_below hb1 hrb3 (blk_lt hrb3)
                  obtain ⟨xs, hxs⟩ : ∃ xs, xs = partsM mm.nd.kind mm.nd.fields := ⟨_, rfl⟩
                  rw [← hxs] at hap hpv hlenp hRR1
                  have hP : PushAt w0 w1 B p m rb (.iface 59 (.agg #[nv, rv])) ov' (c + 1) (metMod once n ms') bs' pv xs rest xs.length (.slice (some ⟨g, 0, none⟩) rest.length cap) (.int .i64 ((xs.length : Int) - 1)) :=
                    ⟨rfl, Nat.le_refl _, hWk4, by simpa using hSt4, hpv, hap, hrb4⟩
                  have HRR := hid hRR1
                  have HFew2 := hid hfew1
                  clear hWk hSt hrb3 hRR1 hfew1 hfv hap hWk4 hSt4 hrb4 hpb hb1 HNF hxs cb0 cb1 cb2 cb3 cb4
                  obtain ⟨pA, pc, rfl, hpl, -⟩ := hpv
                  have hwrap : IntKind.i64.wrap ((xs.length : Int) - 1) = (xs.length : Int) - 1 := IntWalk.i64_in _ (by omega)
                  have HP := hid hP
                  clear hP
                  obtain ⟨i0, hi0, hz0, hz1, hz2⟩ := info_parts val_info
                  go_wp2_with (fail)
                  go_loopg [6, 13] xs.length (fun j sv iv w' => PushAt w0 w' B p m rb (.iface 59 (.agg #[nv, rv])) ov' (c + 1) (metMod once n ms') bs' (.slice pA xs.length pc) xs rest j sv iv)
                  case atStart => exact HP.out
                  case round =>
                    have hwi : u13 = .int .i64 ((gk : Int) - 1) := hrel.i
                    subst hwi
                    have hle := hrel.le
                    have HR2 := hid hrel
                    clear hrel HP
                    cases gk with
                    | zero =>
                      rw [show (((0 : Nat) : Int) - 1) = -1 from rfl] at *
                      go_wp2_with (fail)
                      go_roundg k
                      case measure => omega
                      case rel =>
                        have hlen := HL.out
                        simp only [List.length_cons, Int.natCast_add] at hlen
                        have hS := HR2.out.stack
                        rw [List.drop_zero] at hS
                        refine ⟨xs ++ rest, _, bs', ov', c + 1, HR2.out.walk, hS, HFew2.out, HRR.out, by omega, by omega, by omega, ?_, HR2.out.err, hBrb⟩
                        rw [List.length_append, Int.natCast_add]
                        omega
                    | succ j =>
                      have hjl : j < xs.length := by omega
                      rw [show (((j + 1 : Nat) : Int) - 1) = (j : Int) by omega] at *
                      obtain ⟨A2, c2, hpe, -, hpr⟩ := HR2.out.vals
                      rw [Value.slice.injEq] at hpe
                      obtain ⟨rfl, -, -⟩ := hpe
                      obtain ⟨pb, po, rfl, hpb, hpc⟩ := hpr (by omega)
                      obtain ⟨r0, r1⟩ := hpc j hjl
                      obtain ⟨x2, hx2⟩ : ∃ x2, x2 = xs[j] := ⟨_, rfl⟩
                      rw [← hx2] at r0 r1
                      have hxj : xs[j]? = some x2 := by rw [List.getElem?_eq_getElem hjl, hx2]
                      have hsub : IntKind.i64.wrap ((j : Int) - 1) = (j : Int) - 1 := IntWalk.i64_in _ (by omega)
                      clear hpr hpc hx2
                      have hlen := HL.out
                      simp only [List.length_cons, Int.natCast_add] at hlen
                      have hnl : (xs.drop (j + 1) ++ rest).length ≤ 40000000 := by
                        rw [List.length_append, List.length_drop]
                        omega
                      have hbase : B ≤ wr.heap.size := Nat.le_of_lt (Nat.lt_of_le_of_lt (HR2.out.walk.lt (.inl rfl)).1 (HR2.out.walk.lt (.inl rfl)).2)
                      clear hlen
                      go_wp2_with (at_builtin; refine wpList_append_own_at _ rfl (.tmp 147) (.tmp 152) 23 rfl B 27 i0 _ 2 16 Tryd.underlying23 hi0 hz0 hz1 hz2 rfl (by omega) u6 _ _ rfl (HR2.out.stack.alloc (.cells #[.int .i64 x2.1, .int .i64 x2.2] 27)) ⟨wr.heap.size, 0, none⟩ 1 1 [.int .i64 x2.1, .int .i64 x2.2] rfl rfl (by simpa using World.news_of_block (cs := #[.int .i64 x2.1, .int .i64 x2.2]) (t := 27) (fr := (0, 0)) (heap_alloc_new wr (.cells #[.int .i64 x2.1, .int .i64 x2.2] 27))) (by simp [Value.oneCell']) (by simp only [maxLen]; omega) (by omega) (by simp; omega) ?_; intro v1 w1 hown1 hg1 hnil1 hat1; clear hnil1)
                      go_roundg j
                      case measure => omega
                      case rel => exact HR2.out.next (iv := .int .i64 j) hxj hown1 hg1 hat1 rfl
                · simp only [hfk] at hRR1
                  have hRR2 := hid hRR1
                  have HWk := hid hWk
                  have HSt := hid hSt
                  have Hrb := hid hrb3
                  have HFew2 := hid hfew1
                  clear hRR1 hWk hSt hrb3 hfew1 hnv hsm3 hmb
                  cases fr
                  all_goals
                    simp only [Bool.false_and, Bool.true_and, Bool.not_eq_true] at hfk
                    go_wp2_with (go_at_call 36; refine (container_any _ _).mono ?_; rintro e w1 ⟨rfl, rfl⟩; rw [hfk])
                    go_roundg k
                    case measure => omega
                    case rel =>
                      have hlen := HL.out
                      simp only [List.length_cons, Int.natCast_add] at hlen
                      exact ⟨rest, _, bs', ov', c + 1, HWk.out, HSt.out, HFew2.out, hRR2.out, by omega, by omega, by omega, by omega, Hrb.out, hBrb⟩
          · have hk2' : (x.1 != 2) = true := by simpa using hk2
            have e1 : lookM nodes k rest ms (c + 1) = lookM nodes 501 [v] [] 0 := by
              rw [← HR.out]
              have hk3 : x.1 ≠ 2 := by simpa using hk2
              simp [lookM, hbig, hval, hk3]
            have E1 := hid e1
            have HL := hid hlen
            clear hk2 e1 hlen
            go_wp2_with (go_at_call 35; refine (valid_any _ _ _).mono ?_; rintro e w1 ⟨rfl, hb1⟩; obtain ⟨hc1, hf1⟩ := bcell hb1)
            go_roundg k
            case measure => omega
            case rel =>
              have hlen := HL.out
              simp only [List.length_cons, Int.natCast_add] at hlen
              exact ⟨rest, ms, bs, ov, c + 1, hWk1.below hb1, hSt1.below hb1, HFew.out.mono (by omega) (by omega), E1.out, by omega, by omega, by omega, by omega, blk_below hb1 hrb1 (blk_lt hrb1), hBrb⟩
        · have hv' : validB x.1 x.2 = false := by simpa using hval
          have e1 : lookM nodes 501 [v] [] 0 = .err 33 := HR.out.symm.trans (by simp [lookM, hbig, hv'])
          have E1 := hid e1
          clear e1 hval
          go_wp2_with (first | (go_at_call 35; refine (valid_any _ _ _).mono ?_; rintro e w1 ⟨rfl, hb1⟩; obtain ⟨hc1, hf1⟩ := bcell hb1) | (refine st38 rfl (.tmp 5) (.tmp 46) rfl rb rfl rfl (blk_below hb1 hrb1 (blk_lt hrb1)) rfl ?_))
          rw [E1.out]
          exact bodyPost_ret (resT38 rfl rfl (setRow_heap _ _ _ _ _ _ (blk_below hb1 hrb1 (blk_lt hrb1))) rfl) rfl ⟨below_setRow (hWk1.below hb1).elder.1 hBrb _, rfl⟩
end Go.Proofs.YtpejmgellidhbaaDoor
