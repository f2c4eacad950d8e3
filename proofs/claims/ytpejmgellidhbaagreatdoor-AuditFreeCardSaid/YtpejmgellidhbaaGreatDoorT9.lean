/- cut: a page is cut into blocks of class 1. -/
import Derived.Test.YtpejmgellidhbaaGreatDoorT8
import Derived.Lib.SliceRun
set_option linter.all false
set_option linter.unusedSimpArgs false
set_option maxRecDepth 10000
namespace Go.Proofs.YtpejmgellidhbaaGreatDoor
open Go Go.RowKit Go.Proofs

theorem TabZ.upto {tab : Nat → Int} {L : List Nat} {w w' : World} (h : TabZ tab w) (u : Upto L w w') (h0 : 0 ∉ L) : TabZ tab w' := by
  intro i hi
  have hc := h i hi
  have : (0 : Nat) < w.heap.size := by
    rcases Nat.lt_or_ge 0 w.heap.size with h1 | h1
    · exact h1
    · simp [World.cell?, Array.getElem?_eq_none h1] at hc
  exact (World.cell?_of_block (w := w) (a := ⟨0, i, none⟩) (u.block 0 this h0)).trans hc

/-- What stands still of the Space. -/
structure SpW (N : Nat) (w : World) : Prop where
  space : ∃ sc, w.heap[N + 5]? = some (.cells sc 67) ∧ sc[0]? = some (.slice (some ⟨N + 2, 0, none⟩) 64 64) ∧ sc[1]? = some (ptr (N + 1)) ∧ sc[4]? = some (ptr (N + 11))
theorem SpW.upto {N : Nat} {L : List Nat} {w w' : World} (h : SpW N w) (u : Upto L w w') (hn : N + 5 ∉ L) : SpW N w' := by
  obtain ⟨sc, h1, h2⟩ := h.space
  exact ⟨sc, u.get h1 hn, h2⟩
theorem BmAt.upto {B R : Nat} {r : Int} {L : List Nat} {w w' : World} (h : BmAt w B R r) (u : Upto L w w') (h1 : B ∉ L) (h2 : R ∉ L) : BmAt w' B R r := ⟨u.get h.map h1, u.get h.row h2⟩

/-- The words. -/
def WsAt (N : Nat) (w : World) (ws : Array Value) : Prop := w.heap[N + 2]? = some (.cells ws 3) ∧ ws.size = 64

/-- After some rounds of the first loop. -/
structure Cut1 (N : Nat) (w0 w : World) : Prop where
  upto : Upto [N + 2, N + 10] w0 w
  words : ∃ ws, WsAt N w ws
  bm : ∃ r, BmAt w (N + 11) (N + 10) r

theorem Cut1.set {N : Nat} {w0 w w' : World} (h : Cut1 N w0 w) {L : List Nat} (u : Upto L w w') (hL : L = []) (r : Int) (d : Nat) : Cut1 N w0 { (w'.setCell ⟨N + 10, 0, none⟩ (.int .u64 r)) with drawn := d } := by
  subst hL
  obtain ⟨ws, h1, h2⟩ := h.words
  obtain ⟨r0, hb⟩ := h.bm
  refine ⟨(((h.upto.trans u).less (by simp)).setCell _ _ (.inl (by simp))).draw d, ⟨ws, ?_, h2⟩, ⟨r, ?_, ?_⟩⟩
  · exact hs_ne (by simp) (u.get h1 (by simp))
  · exact hs_ne (by simp) (u.get hb.map (by simp))
  · have := hs_same (i := 0) (v := .int .u64 r) (u.get hb.row (by simp))
    exact this.trans (by simp)

theorem setCells_ne (b : Nat) {x : Nat} (hx : x ≠ b) : ∀ (vs : List Value) (o : Nat) (w : World), (w.setCells b o vs).heap[x]? = w.heap[x]?
  | [], _, _ => rfl
  | v :: vs, o, w => (setCells_ne b hx vs (o + 1) (w.setCell ⟨b, o, none⟩ v)).trans (Below.heap_setCell w ⟨b, o, none⟩ v x hx)
theorem setCells_at (b : Nat) {T : TypeId} {fr : Nat × Nat} : ∀ (vs : List Value) (o : Nat) (w : World) (ws : Array Value), w.heap[b]? = some (.cells ws T fr) → ∃ ws', (w.setCells b o vs).heap[b]? = some (.cells ws' T fr) ∧ ws'.size = ws.size
  | [], _, _, ws, h => ⟨ws, h, rfl⟩
  | v :: vs, o, w, ws, h => by
    obtain ⟨ws', h1, h2⟩ := setCells_at b vs (o + 1) (w.setCell ⟨b, o, none⟩ v) _ (hs_same (i := o) (v := v) h)
    exact ⟨ws', h1, by simpa using h2⟩
theorem Upto.setCells {L : List Nat} {a : World} (b : Nat) (hb : b ∈ L) : ∀ (vs : List Value) (o : Nat) (w : World), Upto L a w → Upto L a (w.setCells b o vs)
  | [], _, _, h => h
  | v :: vs, o, w, h => Upto.setCells b hb vs (o + 1) (w.setCell ⟨b, o, none⟩ v) (h.setCell ⟨b, o, none⟩ v (.inl hb))

theorem zero3v (w : World) : (zeroValue 3).run Tryz.prog w = .ok i0 w := by kernel_rfl
/-- clear of the first n words. -/
theorem clearW (N n c : Nat) (hn : 0 < n) (hn' : n ≤ 64) (w : World) (ws : Array Value) (h : WsAt N w ws) (ty : TypeId) :
    (Builtin.clear_ #[23] ty #[.slice (some ⟨N + 2, 0, none⟩) n c]).run Tryz.prog w = .ok (.tuple #[]) (w.setCells (N + 2) 0 (List.replicate n i0)) :=
  Lib.run_clear_slice w 23 3 ty i0 Tryz.underlying23 zero3v rfl rfl (N + 2) 0 n c hn
    (fun j hj => by
      have : w.cell? ⟨N + 2, 0 + j, none⟩ = ws[0 + j]? := bc h.1 (0 + j)
      rw [this]
      have := h.2
      rw [Array.getElem?_eq_getElem (by omega)]
      rfl)
    (fun j hj => bf h.1 (0 + j))

theorem set4_ok (c : Nat) (hc : c < 16) (B R : Nat) (r : Int) (w : World) (hb : BmAt w B R r) : Calls Tryz.prog 24 #[ptr B, .int .i64 (4 * (c : Int))] w fun e w' => e = .returned (.int .i64 0) ∧
    ∃ d, w' = {(w.setCell ⟨R, 0, none⟩ (.int .u64 (bits .or .u64 r (one_ (4 * (c : Int)))))) with drawn := d} := by
  have := set_ok (4 * c) (by omega) B R r w hb
  rwa [show ((4 * c : Nat) : Int) = 4 * (c : Int) from by omega] at this
theorem slink4_ok (tab : Nat → Int) (c : Nat) (hc : c < 16) (S B R : Nat) (r : Int) (w : World) (hb : BmAt w B R r) (hs : w.cell? ⟨S, 4, none⟩ = some (ptr B)) (ht : TabZ tab w) :
    Calls Tryz.prog 49 #[ptr S, .int .i64 1, .int .i64 (4 * (c : Int))] w fun e w' => e = .returned (.int .i64 (linkv tab r (4 * c))) ∧ ∃ d, w' = { w with drawn := d } := by
  have := slink_ok tab (4 * c) (by omega) S B R r w hb hs ht
  rwa [show ((4 * c : Nat) : Int) = 4 * (c : Int) from by omega] at this

theorem cut2_step {tab : Nat → Int} {N c : Nat} {r : Int} {w0 w5 w' : World} {L : List Nat} {ws : Array Value} (hlt : c < 16) (U : Upto L w0 w5) (hB : BmAt w5 (N + 11) (N + 10) r) (hW : WsAt N w5 ws)
    (hl : 0 < c → ws[0]? = some (.int .i64 (linkv tab r 0))) (h1 : w'.heap = (w5.setCell ⟨N + 2, 4 * c, none⟩ (.int .i64 (linkv tab r (4 * c)))).heap) (h2 : w'.os = w5.os) (h3 : w'.tape = w5.tape) (h4 : w'.output = w5.output) (hL : L = [N + 2, N + 10] ++ [] := by rfl) :
    Upto [N + 2, N + 10] w0 w' ∧ BmAt w' (N + 11) (N + 10) r ∧ ∃ ws, WsAt N w' ws ∧ (0 < c + 1 → ws[0]? = some (.int .i64 (linkv tab r 0))) := by
  have hU := ((U.less (L' := [N + 2, N + 10]) (by subst hL; simp)).setCell ⟨N + 2, 4 * c, none⟩ (.int .i64 (linkv tab r (4 * c))) (.inl (by simp)))
  refine ⟨⟨h2.trans hU.os, h3.trans hU.tape, h4.trans hU.output, by rw [h1]; exact hU.size, fun b hb hn => by rw [h1]; exact hU.block b hb hn⟩, ⟨?_, ?_⟩, ws.setIfInBounds (4 * c) (.int .i64 (linkv tab r (4 * c))), ⟨?_, ?_⟩, fun _ => ?_⟩
  · rw [h1]; exact hs_ne (by simp) hB.map
  · rw [h1]; exact hs_ne (by simp) hB.row
  · rw [h1]; exact hs_same hW.1
  · simp [hW.2]
  · rcases Nat.eq_zero_or_pos c with rfl | hp
    · simp [hW.2]
    · rw [Array.getElem?_setIfInBounds_ne (by omega)]
      exact hl hp

set_option maxHeartbeats 1000000 in
theorem cut_ok (N : Nat) (tab : Nat → Int) (w : World) (hs : SpW N w) (hw : ∃ ws, WsAt N w ws) (hb : ∃ r, BmAt w (N + 11) (N + 10) r) (ht : TabZ tab w) :
    Calls Tryz.prog 48 #[ptr (N + 5), .int .i64 0, .int .i64 1] w fun e w' => e = .returned (.tuple #[]) ∧ Upto [N + 2, N + 10] w w' ∧
      ∃ r ws, BmAt w' (N + 11) (N + 10) r ∧ WsAt N w' ws ∧ ws[0]? = some (.int .i64 (linkv tab r 0)) := by
  obtain ⟨sc, hsp, s0, s1, s4⟩ := hs.space
  have c0 : w.cell? ⟨N + 5, 0, none⟩ = some (.slice (some ⟨N + 2, 0, none⟩) 64 64) := (bc hsp 0).trans s0
  go_enter Tryz.func48, Tryz.ntmps48
  obtain ⟨ws, hws⟩ := hw
  have hcl := clearW N 64 64 (by omega) (by omega) w ws hws 0
  have U0 : Upto [N + 2, N + 10] w (w.setCells (N + 2) 0 (List.replicate 64 i0)) := Upto.setCells (N + 2) (by simp) _ _ _ ((Upto.refl w).less (by simp))
  have hC0 : Cut1 N w (w.setCells (N + 2) 0 (List.replicate 64 i0)) := by
    obtain ⟨r, hb⟩ := hb
    obtain ⟨ws', h1, h2⟩ := setCells_at (N + 2) (List.replicate 64 i0) 0 w ws hws.1
    exact ⟨U0, ⟨ws', h1, by rw [h2]; exact hws.2⟩, r, (setCells_ne (N + 2) (by omega) _ _ _).trans hb.map, (setCells_ne (N + 2) (by omega) _ _ _).trans hb.row⟩
  have hlen : (w.setCells (N + 2) 0 (List.replicate 64 i0)).heap.size = (w.setCells (N + 2) 0 (List.replicate 64 i0)).heap.size := rfl
  generalize hW : w.setCells (N + 2) 0 (List.replicate 64 i0) = W0 at hcl U0 hC0
  have hs0 := hs.upto U0 (by simp)
  have ht0 := ht.upto U0 (by simp)
  clear hlen
  have H0 := hid (And.intro hC0 (And.intro hs0 ht0))
  clear hC0 hs0 ht0 U0 hb hws
  go_wp2_with (go_at_call 35; refine (Blocks1 _).mono ?_; rintro e w1 ⟨rfl, hb1⟩)
  have hC1 : Cut1 N w w1 := by
    obtain ⟨ws', h1, h2⟩ := H0.out.1.words
    obtain ⟨r, hb⟩ := H0.out.1.bm
    have u := Upto.of_below hb1
    exact ⟨(H0.out.1.upto.trans u).less (by simp), ⟨ws', u.get h1 (by simp), h2⟩, r, hb.upto u (by simp) (by simp)⟩
  go_loopw [22] (fun iv wr => ∃ c : Nat, c ≤ 16 ∧ iv = .int .i64 c ∧ Cut1 N w wr) (fun iv _ => 16 - (intOf iv).toNat)
  case atStart => exact ⟨0, by omega, rfl, hC1⟩
  case round =>
    obtain ⟨c, hc, rfl, hcut⟩ := hrel
    by_cases hlt : c < 16
    · obtain ⟨r, hbm⟩ := hcut.bm
      obtain ⟨sc', hsp', -, -, s4'⟩ := (hs.upto hcut.upto (by simp)).space
      have c4 : wr.cell? ⟨N + 5, 4, none⟩ = some (ptr (N + 11)) := (bc hsp' 4).trans s4'
      have c4d : wr.drew.cell? ⟨N + 5, 4, none⟩ = some (ptr (N + 11)) := c4
      have l4 : N + 5 < wr.heap.size := blk_lt hsp'
      have hlt' : (c : Int) < 16 := by omega
      have hwc : IntKind.i64.wrap (4 * (c : Int)) = ((4 * c : Nat) : Int) := by rw [IntKind.wrap_i64]; omega
      have H := hid (And.intro hcut hbm)
      clear hcut hbm hsp' s4'
      go_wp2
      go_region_law (go_simp; first
        | (go_at_call 36; refine (Start1 c hlt _).mono ?_; rintro e w2 ⟨rfl, hb2⟩
           have u2 : Upto [] wr w2 := ((Upto.refl wr).draw _).trans (Upto.of_below hb2)
           have c42 : w2.cell? ⟨N + 5, 4, none⟩ = some (ptr (N + 11)) := (World.cell?_of_block (w := wr) (a := ⟨N + 5, 4, none⟩) (u2.block _ l4 (by simp))).trans c4)
        | (go_at_call 24; refine (set4_ok c hlt (N + 11) (N + 10) r _ (H.out.2.upto u2 (by simp) (by simp))).mono ?_; rintro e w3 ⟨rfl, d, rfl⟩))
      all_goals go_wp2
      all_goals refine ⟨⟨c + 1, by omega, by go_num, H.out.1.set u2 rfl _ _⟩, by simp [intOf]; omega⟩
    · obtain rfl : c = 16 := by omega
      obtain ⟨r, hbm⟩ := hcut.bm
      have H := hid (And.intro hcut hbm)
      clear hcut hbm
      go_wp2_with (go_at_call 35; refine (Blocks1 _).mono ?_; rintro e w4 ⟨rfl, hb4⟩)
      have u4 := Upto.of_below hb4
      have hbm4 : BmAt w4 (N + 11) (N + 10) r := H.out.2.upto u4 (by simp) (by simp)
      have hw4 : ∃ ws, WsAt N w4 ws ∧ (0 < 0 → ws[0]? = some (.int .i64 (linkv tab r 0))) := by
        obtain ⟨ws', h1, h2⟩ := H.out.1.words
        exact ⟨ws', ⟨u4.get h1 (by simp), h2⟩, by simp⟩
      have U4 : Upto [N + 2, N + 10] w w4 := (H.out.1.upto.trans u4).less (by simp)
      clear H hb4 u4
      go_loopw [40] (fun iv wr => ∃ c : Nat, c ≤ 16 ∧ iv = .int .i64 c ∧ Upto [N + 2, N + 10] w wr ∧ BmAt wr (N + 11) (N + 10) r ∧ ∃ ws, WsAt N wr ws ∧ (0 < c → ws[0]? = some (.int .i64 (linkv tab r 0)))) (fun iv _ => 16 - (intOf iv).toNat)
      case atStart => exact ⟨0, by omega, rfl, U4, hbm4, hw4⟩
      case round =>
        obtain ⟨c, hc, rfl, hU, hB, ws, hW, hl⟩ := hrel
        by_cases hlt : c < 16
        · obtain ⟨sc', hsp', s0', -, s4'⟩ := (hs.upto hU (by simp)).space
          have hT := ht.upto hU (by simp)
          have hlt' : (c : Int) < 16 := by omega
          have hwc : IntKind.i64.wrap (4 * (c : Int)) = ((4 * c : Nat) : Int) := by rw [IntKind.wrap_i64]; omega
          have H := hid (And.intro hU (And.intro hB (And.intro hW (And.intro hl hT))))
          clear hU hB hW hl hT
          have H2 := hid (And.intro hsp' (And.intro s0' s4'))
          clear hsp' s0' s4'
          go_wp2_with (go_at_call 36; refine (Start1 c hlt _).mono ?_; rintro e w5 ⟨rfl, hb5⟩)
          have u5 := Upto.of_below hb5
          have U5 := H.out.1.trans u5
          have hW5 : WsAt N w5 ws := ⟨u5.get H.out.2.2.1.1 (by simp), H.out.2.2.1.2⟩
          have hB5 := H.out.2.1.upto u5 (by simp) (by simp)
          have hT5 := H.out.2.2.2.2.upto u5 (by simp)
          have hS5 := u5.get H2.out.1 (by simp)
          have c0 : w5.drew.cell? ⟨N + 5, 0, none⟩ = some (.slice (some ⟨N + 2, 0, none⟩) 64 64) := (bc (w := w5.drew) hS5 0).trans H2.out.2.1
          have c4 : w5.cell? ⟨N + 5, 4, none⟩ = some (ptr (N + 11)) := (bc hS5 4).trans H2.out.2.2
          have cw : ∃ v, w5.cell? ⟨N + 2, 4 * c, none⟩ = some v := ⟨_, (bc hW5.1 (4 * c)).trans (Array.getElem?_eq_getElem (by have := hW5.2; omega))⟩
          obtain ⟨v0, cw⟩ := cw
          have fw : w5.frozen? ⟨N + 2, 4 * c, none⟩ = false := bf hW5.1 (4 * c)
          have hto : (4 * (c : Int)).toNat = 4 * c := by omega
          have cwd : ∀ d : Nat, ({ heap := w5.drew.heap, tape := w5.tape, drawn := d, os := w5.drew.os, output := w5.drew.output } : World).cell? ⟨N + 2, 4 * c, none⟩ = some v0 := fun _ => cw
          have fwd : ∀ d : Nat, ({ heap := w5.drew.heap, tape := w5.tape, drawn := d, os := w5.drew.os, output := w5.drew.output } : World).frozen? ⟨N + 2, 4 * c, none⟩ = false := fun _ => fw
          have H3 := hid (And.intro hW5 (And.intro hB5 (And.intro hT5 U5)))
          clear hW5 hB5 hT5 hS5 U5 u5 hb5
          have c0d : ∀ d : Nat, ({ heap := w5.drew.heap, tape := w5.tape, drawn := d, os := w5.drew.os, output := w5.drew.output } : World).cell? ⟨N + 5, 0, none⟩ = some (.slice (some ⟨N + 2, 0, none⟩) 64 64) := fun _ => c0
          have hi0 : (0 : Int) ≤ 4 * (c : Int) := by omega
          have hi1 : 4 * (c : Int) < 64 := by omega
          go_region_law (go_simp; go_at_call 49; refine (slink4_ok tab c hlt (N + 5) (N + 11) (N + 10) r _ (by exact ⟨H3.out.2.1.map, H3.out.2.1.row⟩) (by exact c4) (by exact H3.out.2.2.1)).mono ?_; rintro e w6 ⟨rfl, d, rfl⟩)
          all_goals go_wp2
          all_goals refine ⟨⟨c + 1, by omega, by go_num, cut2_step hlt H3.out.2.2.2 H3.out.2.1 H3.out.1 H.out.2.2.2.1 rfl rfl rfl rfl⟩, by simp [intOf]; omega⟩
        · obtain rfl : c = 16 := by omega
          go_wp2
          go_end0
          exact ⟨rfl, hU, r, ws, hB, hW, hl (by omega)⟩
end Go.Proofs.YtpejmgellidhbaaGreatDoor
