/- take: a block of class 1 of a fresh Space. -/
import Derived.Test.YtpejmgellidhbaaGreatDoorT9
set_option linter.all false
set_option linter.unusedSimpArgs false
set_option maxRecDepth 10000
namespace Go.Proofs.YtpejmgellidhbaaGreatDoor
open Go Go.RowKit Go.Proofs

theorem nextv0 (tab : Nat → Int) : nextv tab 0 0 = -1 := by
  have : bits .and .u64 0 (all_ 0) = 0 := by
    rw [show all_ 0 = 18446744073709551615 from by simp [all_]]
    kernel_rfl
  simp [nextv, this]

theorem next0 (tab : Nat → Int) (B R : Nat) (w : World) (hb : BmAt w B R 0) (ht : TabZ tab w) :
    Calls Tryz.prog 46 #[ptr B, .int .i64 0] w fun e w' => e = .returned (.int .i64 (-1)) ∧ ∃ d, w' = { w with drawn := d } := by
  have := next_any tab 0 (by omega) B R 0 w hb ht
  rwa [nextv0] at this

/-- What Alloc reads of the Space. -/
structure SpF (N : Nat) (w : World) : Prop where
  pages : w.heap[N]? = some (.cells #[i0, i0, i0] 95)
  table : w.heap[N + 1]? = some (.cells #[.slice (some ⟨N, 0, none⟩) 1 1, i0, .int .i64 1] 102)
  words : w.heap[N + 2]? = some (.cells zw 3)
  shapes : w.heap[N + 3]? = some (.map #[] 0)
  places : w.heap[N + 4]? = some (.map #[] 0)
  space : w.heap[N + 5]? = some (.cells (spC N 8) 67)
  trows : w.heap[N + 6]? = some (.cells #[.int .u64 0] 83)
  taken : w.heap[N + 7]? = some (.cells #[.int .i64 64, .slice (some ⟨N + 6, 0, none⟩) 1 1] 105)
  rows : w.heap[N + 10]? = some (.cells #[.int .u64 0] 83)
  free : w.heap[N + 11]? = some (.cells #[.int .i64 64, .slice (some ⟨N + 10, 0, none⟩) 1 1] 105)
theorem SpAt.spF {w0 w : World} {N : Nat} (h : SpAt w0 N 8 w) : SpF N w := ⟨h.pages, h.table, h.words, h.shapes, h.places, h.space, h.trows, h.taken, h.rows 1 (by omega), h.free 1 (by omega)⟩
theorem SpF.upto {N : Nat} {w w' : World} (h : SpF N w) (u : Upto [] w w') : SpF N w' :=
  ⟨u.get h.pages (by simp), u.get h.table (by simp), u.get h.words (by simp), u.get h.shapes (by simp), u.get h.places (by simp), u.get h.space (by simp), u.get h.trows (by simp), u.get h.taken (by simp), u.get h.rows (by simp), u.get h.free (by simp)⟩
theorem SpF.spW {w : World} {N : Nat} (h : SpF N w) : SpW N w := ⟨_, h.space, rfl, rfl, by simp [fr]⟩
theorem SpAt.spW {w0 w : World} {N : Nat} (h : SpAt w0 N 8 w) : SpW N w := ⟨_, h.space, rfl, rfl, by simp [fr]⟩

set_option maxHeartbeats 2000000 in
theorem take_ok (N E : Nat) (tab : Nat → Int) (w : World) (hN : 0 < N) (hE : N + 24 ≤ E) (hsz : w.heap.size = E) (hs : SpF N w) (ht : TabZ tab w) :
    Calls Tryz.prog 20 #[ptr (N + 5), .int .i64 3] w fun e w' => e = .returned (.tuple #[.int .i64 0, .agg #[i0, i0]]) ∧ Upto [N, N + 1, N + 2, N + 10] w w' ∧ ∃ ws, WsAt N w' ws := by
  have sp := hs.spW
  have hb : BmAt w (N + 11) (N + 10) 0 := ⟨hs.free, hs.rows⟩
  have n0 : ¬ E = N := by omega
  have n1 : ¬ E = N + 1 := by omega
  have n2 : ¬ E = N + 2 := by omega
  have n10 : ¬ E = N + 10 := by omega
  have H := hid (And.intro hs (And.intro sp (And.intro hb ht)))
  clear hs sp hb ht
  go_enter Tryz.func20, Tryz.ntmps20
  go_wp2_with (first
    | (go_at_call 43; refine (Of3 _).mono ?_; rintro e w1 ⟨rfl, hb1⟩
       have u1 : Upto [] w w1 := (((Upto.refl w).alloc _).trans (Upto.of_below hb1)).less (by simp)
       have e1 : w1.heap[E]? = some (.cells #[i0, i0] 39) := blk_below hb1 (by rw [← hsz]; exact ha_new w _) (by simp; omega)
       have c14 : w1.cell? ⟨N + 5, 4, none⟩ = some (ptr (N + 11)) := (bc (u1.get H.out.1.space (by simp)) 4).trans (by simp [fr])
       clear hb1)
    | (go_at_call 46; refine (next0 tab (N + 11) (N + 10) _ (H.out.2.2.1.upto u1 (by simp) (by simp)) (H.out.2.2.2.upto u1 (by simp))).mono ?_; rintro e w2 ⟨rfl, d, hw2⟩
       have u2 : Upto [] w w2 := hw2 ▸ u1.draw d
       have e2 : w2.heap[E]? = some (.cells #[i0, i0] 39) := by rw [hw2]; exact e1
       have c21 : w2.cell? ⟨N + 5, 1, none⟩ = some (ptr (N + 1)) := bc (u2.get H.out.1.space (by simp)) 1
       clear hw2 c14 e1 u1)
    | (go_at_call 47; refine (TakeClass_ok N _ (u2.get H.out.1.table (by simp)) (u2.get H.out.1.pages (by simp))).mono ?_; rintro e w3 ⟨rfl, u3'⟩
       have u3 : Upto [N, N + 1] w w3 := u2.trans u3'
       have e3 : w3.heap[E]? = some (.cells #[i0, i0] 39) := u3'.get e2 (by simp [n0, n1])
       clear u3' e2 u2 c21)
    | (go_at_call 48; refine (cut_ok N tab _ (H.out.2.1.upto u3 (by simp)) ⟨zw, u3.get H.out.1.words (by simp), by simp [zw]⟩ ⟨0, H.out.2.2.1.upto u3 (by simp) (by simp)⟩ (H.out.2.2.2.upto u3 (by simp; omega))).mono ?_
       rintro e w4 ⟨rfl, u4', r, ws, hbm, hws, hl⟩
       have u4 : Upto [N, N + 1, N + 2, N + 10] w w4 := u3.trans u4'
       have e4 : w4.heap[E]? = some (.cells #[i0, i0] 39) := u4'.get e3 (by simp [n2, n10])
       clear u4' e3 u3))
  have s4 := u4.get H.out.1.space (by simp)
  have ht4 := H.out.2.2.2.upto u4 (by simp; omega)
  have c0 : ∀ d : Nat, ({ heap := w4.heap, tape := w4.tape, drawn := d, os := w4.os, output := w4.output } : World).cell? ⟨N + 5, 0, none⟩ = some (.slice (some ⟨N + 2, 0, none⟩) 64 64) := fun _ => bc (w := w4) s4 0
  have c4 : ∀ d : Nat, ({ heap := w4.heap, tape := w4.tape, drawn := d, os := w4.os, output := w4.output } : World).cell? ⟨N + 5, 4, none⟩ = some (ptr (N + 11)) := fun _ => (bc (w := w4) s4 4).trans (by simp [fr])
  have cw : ∀ d : Nat, ({ heap := w4.heap, tape := w4.tape, drawn := d, os := w4.os, output := w4.output } : World).cell? ⟨N + 2, 0, none⟩ = some (.int .i64 (linkv tab r 0)) := fun _ => (bc (w := w4) hws.1 0).trans hl
  have c0' : ∀ d : Nat, ({ heap := w4.drew.heap, tape := w4.tape, drawn := d, os := w4.drew.os, output := w4.drew.output } : World).cell? ⟨N + 5, 0, none⟩ = some (.slice (some ⟨N + 2, 0, none⟩) 64 64) := c0
  have c4' : ∀ d : Nat, ({ heap := w4.drew.heap, tape := w4.tape, drawn := d, os := w4.drew.os, output := w4.drew.output } : World).cell? ⟨N + 5, 4, none⟩ = some (ptr (N + 11)) := c4
  have cw' : ∀ d : Nat, ({ heap := w4.drew.heap, tape := w4.tape, drawn := d, os := w4.drew.os, output := w4.drew.output } : World).cell? ⟨N + 2, 0, none⟩ = some (.int .i64 (linkv tab r 0)) := cw
  have b0 : w4.drew.cell? ⟨N + 5, 0, none⟩ = some (.slice (some ⟨N + 2, 0, none⟩) 64 64) := c0 0
  have bw : w4.drew.cell? ⟨N + 2, 0, none⟩ = some (.int .i64 (linkv tab r 0)) := cw 0
  go_region_law (go_simp; go_at_call 49; refine (slink_ok tab 0 (by omega) (N + 5) (N + 11) (N + 10) r _ (by exact ⟨hbm.map, hbm.row⟩) (by exact c4 0) (by exact ht4)).mono ?_; rintro e w5 ⟨rfl, d, rfl⟩)
  all_goals (go_wp2_with (go_at_call 50; refine (clear_ok 0 (by omega) (N + 11) (N + 10) r _ (by exact ⟨hbm.map, hbm.row⟩)).mono ?_; rintro e w6 ⟨rfl, d6, hw6⟩
                          have u6 : Upto [N, N + 1, N + 2, N + 10] w w6 := by rw [hw6]; exact ((u4.draw _).setCell _ _ (.inl (by simp))).draw _
                          have e6 : w6.heap[E]? = some (.cells #[i0, i0] 39) := by rw [hw6]; exact hs_ne (w := { w4 with drawn := _ }) (by simp [n10]) e4
                          have ws6 : WsAt N w6 ws := by rw [hw6]; exact ⟨hs_ne (w := { w4 with drawn := _ }) (by simp) hws.1, hws.2⟩
                          have k0 : w6.cell? ⟨E, 0, none⟩ = some i0 := bc e6 0
                          have k1 : w6.cell? ⟨E, 1, none⟩ = some i0 := bc e6 1
                          have kf : ∀ o, w6.frozen? ⟨E, o, none⟩ = false := bf e6
                          clear hw6))
  all_goals exact bodyPost_ret (v := .tuple #[.int .i64 0, .agg #[i0, i0]]) (by simp [results, Tryz.results20, go_sem, k0, k1, kf]) rfl ⟨rfl, (u6.setCell _ _ (.inr (by simp [hsz]))).setCell _ _ (.inr (by simp [hsz])), ws, hs_ne (by simp; omega) (hs_ne (by simp; omega) ws6.1), ws6.2⟩
end Go.Proofs.YtpejmgellidhbaaGreatDoor
