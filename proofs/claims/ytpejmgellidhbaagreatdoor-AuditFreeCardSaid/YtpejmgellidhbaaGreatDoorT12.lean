/- Alloc(s, 1, 3, 0) of a fresh Space of one page: whole. -/
import Derived.Test.YtpejmgellidhbaaGreatDoorT11
set_option linter.all false
set_option linter.unusedSimpArgs false
set_option maxRecDepth 10000
namespace Go.Proofs.YtpejmgellidhbaaGreatDoor
open Go Go.RowKit Go.Proofs

set_option maxHeartbeats 4000000 in
theorem alloc_ok (N E : Nat) (tab : Nat → Int) (w : World) (hN : 0 < N) (hE : N + 24 ≤ E) (hsz : w.heap.size = E) (hs : SpF N w) (ht : TabZ tab w) :
    Calls Tryz.prog 7 #[ptr (N + 5), .int .i64 1, .int .i64 3, .int .i64 0] w (Post7 N E w) := by
  have n : ∀ k, k < 24 → ¬ E = N + k := by omega
  have H := hid (And.intro hs ht)
  clear hs ht
  go_enter Tryz.func7, Tryz.ntmps7
  go_wp2_with (first
    | (go_at_call 19; refine (Fits13 _).mono ?_; rintro e w' ⟨rfl, rfl⟩)
    | (go_at_call 20; refine (take_ok N (E + 1) tab _ hN (by omega) (by simp [hsz]) (H.out.1.upto ((Upto.refl w).alloc _)) (H.out.2.upto ((Upto.refl w).alloc _) (by simp))).mono ?_; rintro e w1 ⟨rfl, hu, hws1⟩
       have u1 : Upto (spL N) w w1 := (((Upto.refl w).alloc _).trans hu).less (by simp)
       have e1 : w1.heap[E]? = some (.cells #[i0, i0] 39) := hu.get (by rw [← hsz]; exact ha_new w _) (by simp [n]; omega)
       have s1 : w1.heap[N + 5]? = some (.cells (spC N 8) 67) := hu.get (((Upto.refl w).alloc _).get H.out.1.space (by simp)) (by simp)
       have x1 : ∀ k, k < 12 → k ≠ 0 → k ≠ 1 → k ≠ 2 → k ≠ 10 → w1.heap[N + k]? = w.heap[N + k]? := fun k _ h0 h1 h2 h3 => (hu.block _ (by simp; omega) (by simp; omega)).trans (((Upto.refl w).alloc _).block _ (by omega) (by simp))
       have z1 := hu.size))
  have hA : A1 N E w w1 := ⟨u1, s1, hws1, e1, (x1 3 (by omega) (by omega) (by omega) (by omega) (by omega)).trans H.out.1.shapes, (x1 4 (by omega) (by omega) (by omega) (by omega) (by omega)).trans H.out.1.places,
    (x1 6 (by omega) (by omega) (by omega) (by omega) (by omega)).trans H.out.1.trows, (x1 7 (by omega) (by omega) (by omega) (by omega) (by omega)).trans H.out.1.taken⟩
  replace hA : A1 N E w (w1.alloc (.cells #[.int .i64 0, .int .i64 0] 39)) := hA.go ((Upto.refl _).alloc _)
  clear u1 s1 hws1 e1 x1 z1 hu H
  generalize w1.alloc (.cells #[.int .i64 0, .int .i64 0] 39) = x at hA ⊢
  have HA := hid hA
  have c0 : x.drew.cell? ⟨N + 5, 0, none⟩ = some (.slice (some ⟨N + 2, 0, none⟩) 64 64) := bc (w := x.drew) hA.space 0
  clear hA
  have h4 : IntKind.i64.wrap 4 = 4 := rfl
  go_region_law (go_simp; go_at_call 21; refine (wide3 _).mono ?_; rintro e w2 ⟨rfl, hb2⟩
                 have A2 := hid (HA.out.go (((Upto.refl x).draw _).trans (Upto.of_below hb2)))
                 have c02 : w2.cell? ⟨N + 5, 0, none⟩ = some (.slice (some ⟨N + 2, 0, none⟩) 64 64) := bc A2.out.space 0
                 obtain ⟨ws, hws⟩ := A2.out.words
                 have hcl := clearW N 4 64 (by omega) (by omega) w2 ws hws 0
                 have hws' := hid hws
                 clear hws)
  all_goals
    have A3 : A1 N E w (w2.setCells (N + 2) 0 [i0, i0, i0, i0]) := by
      obtain ⟨ws', h1, h2⟩ := setCells_at (N + 2) [i0, i0, i0, i0] 0 w2 ws hws'.out.1
      exact A2.out.word hE (Upto.setCells (N + 2) (by simp) _ _ _ ((Upto.refl w2).less (by simp))) ⟨ws', h1, by rw [h2]; exact hws'.out.2⟩
    clear A2 hcl hws' c02 hb2
    generalize w2.setCells (N + 2) 0 [i0, i0, i0, i0] = x3 at A3 ⊢
    clear c0 HA
    have HA := hid A3
    have c0 : x3.drew.cell? ⟨N + 5, 0, none⟩ = some (.slice (some ⟨N + 2, 0, none⟩) 64 64) := bc (w := x3.drew) A3.space 0
    obtain ⟨ws3, hw3⟩ := A3.words
    have cw : ∃ v, x3.cell? ⟨N + 2, 0, none⟩ = some v := ⟨_, (bc hw3.1 0).trans (Array.getElem?_eq_getElem (by have := hw3.2; omega))⟩
    obtain ⟨v0, cw⟩ := cw
    have cwd : x3.drew.cell? ⟨N + 2, 0, none⟩ = some v0 := cw
    have fw : x3.frozen? ⟨N + 2, 0, none⟩ = false := bf hw3.1 0
    have fwd : x3.drew.frozen? ⟨N + 2, 0, none⟩ = false := fw
    have hws3 := hid hw3
    clear hw3 A3
    go_wp2
    go_region_law (go_simp; go_at_call 22; refine (Make013 _).mono ?_; rintro e w4 ⟨rfl, rfl⟩)
  all_goals
    have A4 : A1 N E w ((x3.setCell ⟨N + 2, 0, none⟩ (.int .i64 hdr013)).drew) :=
      HA.out.word hE (((Upto.refl x3).less (by simp)).setCell ⟨N + 2, 0, none⟩ (.int .i64 hdr013) (.inl (by simp)) |>.draw _) ⟨ws3.setIfInBounds 0 (.int .i64 hdr013), hs_same (i := 0) hws3.out.1, by simpa using hws3.out.2⟩
    have ht8 := tail8 N E w _ hE hsz A4
    simp only [R8, body7, Tryz.f7, Option.getD_some] at ht8
    rename_i hk
    exact hk _ _ (ht8 _ _ _ _ _ _ _ _ _ _ _ _ _ _ _ _ _ _ _ _ _ _ _ _ _ _ _ _ _ _ _ _ _ _ _ _ _ _ _ _ _ _ _ _ _ _ _ _ _ _ _ _ _ _ _ _ _ _ _ _ _ _ _ _ _ _ _ _ _ _ _ _ _ _ _ _ _ _ _ _ _ _ _ _ _ _ _ _ _)
end Go.Proofs.YtpejmgellidhbaaGreatDoor
