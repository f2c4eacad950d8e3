/-
  From words' entry to the end, whole machine.
-/
import Derived.Test.YtpejmgellidhbaaGreatDoorA7
set_option linter.all false
set_option linter.unusedSimpArgs false
namespace Go.Proofs.YtpejmgellidhbaaGreatDoor
open Go Go.Conc Go.ConcN Go.RowKit Go.Conc.Lib Go.ConcR.Gen Go.ConcN.Gen
open Go.ConcR (KK wgBlock WgAt stA smA rd wr mk Payload Aside2 DC0 ofEvent_cell)

section
variable {N A C p Wd Pg M : Nat} {c4 : Array Value} {w₀ : World} {S0 : Goroutine → World → Prop} {cs : List Frame}
/-- The four rounds. -/
theorem four_rounds (m : Mem9 N A C p Wd Pg M c4 w₀) (cs : List Frame) (w : World) (hF : FW (FA N w₀) 87 (N + 1) 0 w) :
    SpX N (AtCloseX Tryz.prog 87 (N + 1) C 4 (Own N) (Rd N) (N + 5) (fun i => c4.getD i undef) (AnW N C w₀ cs) (KT N) (N + 3) (fun _ => h28 N)) 4 (g9 A N (.int .i64 0) undef undef undef undef cs) w := by
  have f4 : ∀ j9 j10 j11 j12 w, FW (FA N w₀) 87 (N + 1) 4 w → GA Tryz.prog (N + 1) (Own N) (Rd N) (N + 5) 4 (StopX N (AtCloseX Tryz.prog 87 (N + 1) C 4 (Own N) (Rd N) (N + 5) (fun i => c4.getD i undef) (AnW N C w₀ cs) (KT N) (N + 3) (fun _ => h28 N)) 0) 40 (g9 A N (.int .i64 4) j9 j10 j11 j12 cs) w :=
    fun j9 j10 j11 j12 w h => fin9 m j9 j10 j11 j12 cs w h
  have f3 := fun j9 j10 j11 j12 w h => round9 (A := A) (cs := cs) 3 0 40 (by omega) j9 j10 j11 j12 w h f4
  have f2 := fun j9 j10 j11 j12 w h => round9 (A := A) (cs := cs) 2 1 30 (by omega) j9 j10 j11 j12 w h f3
  have f1 := fun j9 j10 j11 j12 w h => round9 (A := A) (cs := cs) 1 2 30 (by omega) j9 j10 j11 j12 w h f2
  have f0 := round9 (A := A) (cs := cs) 0 3 30 (by omega) undef undef undef undef w hF f1
  rw [spX_iff]
  exact ⟨30, f0⟩
end

theorem goes_exact {P : Program} {E : Event → Prop} {S : Goroutine → World → Prop} : ∀ (n : Nat) (g : Goroutine) (w : World), Goes P true Eq (DE E) S n g w → ∃ g1 w1, S g1 w1 ∧ Goes P true Eq (DE E) (fun x y => x = g1 ∧ y = w1) n g w := by
  intro n
  induction n with
  | zero => exact fun g w h => ⟨g, w, h w rfl, fun w₁ e => ⟨rfl, e.symm⟩⟩
  | succ n ih =>
    intro g w h
    rcases h with h | ⟨hs, h⟩
    · exact ⟨g, w, h w rfl, .inl fun w₁ e => ⟨rfl, e.symm⟩⟩
    · obtain ⟨g', w', es, he, k⟩ := goes_elim (h w rfl)
      obtain ⟨g1, w1, h1, h2⟩ := ih _ _ k.2
      refine ⟨g1, w1, h1, .inr ⟨hs, fun w₁ e => ?_⟩⟩
      subst e
      rw [he, goes_go]
      exact ⟨k.1, h2⟩

/-- ████ FROM words' ENTRY TO THE END. ████ -/
theorem crowd_end {w0 w1 w : World} {g : Goroutine} {p C : Nat} {c4 : Array Value} (hp1 : 1 ≤ p) (hp : p ≤ 4096) (u01 : Upto [] w0 w1) (hC0 : w0.heap.size ≤ C) (hC : w1.heap[C]? = some (.cells c4 75)) (h4 : c4.size = 4) (h : Reach g w (AtWords p w1)) :
    ∃ N last o w' t', runNT Tryz.prog (N + 1) (solo g w) #[] = (.ended o w', t') ∧ runN Tryz.prog N (solo g w) = .next last ∧ step Tryz.prog last = .ended o w' ∧
      Conc.Good Tryz.prog (fun v w' => v = .bool true ∧ Upto [] w0 w') last o w' t' := by
  obtain ⟨n, g1, wN, ⟨A, M, Wd, Pg, T5, T3, rfl, u1N, hA, hlA, hPg, hlP, s5, h54, s3, h30⟩, hz, hg⟩ := h
  obtain ⟨N, hN⟩ : ∃ N, N = wN.heap.size := ⟨_, rfl⟩
  have hCN := u1N.get hC (by simp)
  have lC1 := blk_lt hC
  have lC : C < N := hN ▸ blk_lt hCN
  have lA : A < N := hN ▸ blk_lt hA
  have lP : Pg < N := hN ▸ blk_lt hPg
  have hz1 := u1N.size
  have hz0 := u01.size
  have hw : ∃ w9, ReachE (EvL (N + 1)) (G ((base 9).at ⟨#[pa A, undef, undef, undef, undef, undef, undef, undef, undef, undef, undef, undef, undef, undef, undef, undef, undef, undef, undef, undef, undef, undef, undef, undef, undef, undef, undef, undef, undef, undef, undef, undef, undef, undef, undef, undef], []⟩ [.code body9]) [c5 T5, c3 T3]) wN (fun g' w' => g' = g9 A N (.int .i64 0) undef undef undef undef [c5 T5, c3 T3] ∧ w' = w9) ∧
      Mem9 N A C p Wd Pg M c4 w9 ∧ w9.heap[N + 1]? = some (.cells #[.int .u64 0, .int .u32 0] 87) ∧ Upto [] wN w9 := by
    have hd := words_head A wN [c5 T5, c3 T3] (S := fun g' w' => g' = g9 A N (.int .i64 0) undef undef undef undef [c5 T5, c3 T3] ∧ (Mem9 N A C p Wd Pg M c4 w' ∧ w'.heap[N + 1]? = some (.cells #[.int .u64 0, .int .u32 0] 87) ∧ Upto [] wN w')) (by
      rw [← hN]
      intro w' hs a0 a1 a2 a3 a4 u
      exact ⟨rfl, ⟨hs, a0, a2, a3, a4, u.get hA (by simp), u.get hPg (by simp), u.get hCN (by simp), h4, lC, lA, lP, by omega, by omega⟩, a1, u⟩)
    rw [← hN] at hd
    obtain ⟨k, hk⟩ := hd
    obtain ⟨g9', w9, ⟨rfl, hm, h1, hu⟩, hx⟩ := goes_exact k _ _ hk
    exact ⟨w9, ⟨k, hx⟩, hm, h1, hu⟩
  obtain ⟨w9, ⟨k, hk⟩, m, hwg, uN9⟩ := hw
  have hFW : FW (FA N w9) 87 (N + 1) 0 w9 := ⟨Aside.refl _ _, by
    unfold WgAt
    rw [hwg]
    rfl⟩
  have hsp := four_rounds m [c5 T5, c3 T3] w9 hFW
  have hg0 : Goes Tryz.prog true Eq (DE (EvL (N + 1))) (fun a' w' => SpX N (AtCloseX Tryz.prog 87 (N + 1) C 4 (Own N) (Rd N) (N + 5) (fun i => c4.getD i undef) (AnW N C w9 [c5 T5, c3 T3]) (KT N) (N + 3) (fun _ => h28 N)) 4 a' w' ∧ KT N w' ∧ ChanOpen (N + 3) w') (k + n) g w := by
    refine goes_cat ?_ n g w (goes_DE (evP_evL (by omega)) n g w hg)
    refine goes_mono ?_ hk
    rintro x y ⟨rfl, rfl⟩
    exact ⟨hsp, m.todo, 0, 0, 0, false, m.chan⟩
  have hres := crowd_phase (P := Tryz.prog) (ty := 87) (Wg := N + 1) (C := C) (n := 4) (Own := Own N) (Rd := Rd N) (Low := N + 5) (val := fun i => c4.getD i undef) (vals := c4.toList) (AnchW := AnW N C w9 [c5 T5, c3 T3])
    (Post := fun v w' => v = .bool true ∧ FX N C w9 [] w') (K := KT N) (c := N + 3) (z := .int .i64 0) (h := fun _ => h28 N) (apart N) (by decide) (by omega) (by omega) (by omega) (anW_running T5 T3)
    (anW_round m hp1 hp T5 T3 s5 h54 s3 h30 c4.toList) (by simpa using h4) (fun i hi => by
      have : i < c4.size := by omega
      simp [this]) (fun w w' hk hK => (hk (N + 4) (by omega) (by omega) (by omega)).trans hK) (by omega) (by omega) (by omega) hg0
  obtain ⟨X, last, o, w', t', r1, r2, r3, v, e, ⟨hv, hF⟩, g1, g2, g3, g4⟩ := hres
  refine ⟨X, last, o, w', t', r1, r2, r3, v, e, ⟨hv, ?_⟩, g1, g2, g3, g4⟩
  have U09 : Upto [] w0 w9 := ((u01.trans u1N).trans uN9).less (by simp)
  have hzN := uN9.size
  exact ⟨hF.os.trans U09.os, hF.tape.trans U09.tape, hF.output.trans U09.output, by have := hF.lo; omega, fun b hb _ => (hF.block b (by omega) (by omega) (by omega) (by omega)).trans (U09.block b hb (by simp))⟩
end Go.Proofs.YtpejmgellidhbaaGreatDoor
