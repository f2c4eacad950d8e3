/- Size of the reference of layouts, and counts of the reference of graphs: what Check needs of them. -/
import Derived.Test.YtpejmgellidhbaaDoorN2
import Derived.Lib.Hide
import Derived.Deep.QuietTactic
import Derived.BigQuiet
namespace Go.Proofs.YtpejmgellidhbaaDoor
open Go.RowKit

/-- Some number and some bool are returned. -/
def SizePost (w : World) (e : Ending) (w' : World) : Prop := ∃ (r : Int) (b : Bool), e = .returned (.tuple #[.int .i64 r, .bool b]) ∧ Below w.heap.size w w'
theorem sizePost {w w' : World} (r : Int) (b : Bool) (h : Below w.heap.size w w') : SizePost w (.returned (.tuple #[.int .i64 r, .bool b])) w' := ⟨r, b, rfl, h⟩
set_option maxHeartbeats 2000000 in
theorem size_any (k n : Int) (w : World) : Calls Tryd.prog 25 #[.int .i64 k, .int .i64 n] w (SizePost w) := by
  by_cases hk : k < 1 ∨ 13 < k
  · rcases hk with hk | hk
    all_goals
      go_enter Tryd.func25, Tryd.ntmps25
      go_wp2
      go_ret2
      exact sizePost _ _ (Below.refl _ _)
  have k1 : decide (k < 1) = false := by simp; omega
  have k2 : decide (13 < k) = false := by simp; omega
  clear hk
  go_enter Tryd.func25, Tryd.ntmps25
  go_upto_region 4 with (go_at_call 33; (with_reducible refine (rowOf_any _ _).mono ?_); rintro e w1 ⟨A, ln, lc, rest, least, most, per, rfl, h1, h2, h3, h4, h5, hb⟩)
  have hbW : Below w.heap.size w (w1.alloc (.cells #[.slice A ln lc, .int .i64 rest, .int .i64 least, .int .i64 most, .int .i64 per] 78)) := hb.alloc hb.size _
  have HB := Lib.hid hbW
  have hc4 : (w1.alloc (.cells #[.slice A ln lc, .int .i64 rest, .int .i64 least, .int .i64 most, .int .i64 per] 78)).heap[w1.heap.size]? = some (.cells #[.slice A ln lc, .int .i64 rest, .int .i64 least, .int .i64 most, .int .i64 per] 78 (0, 0)) := ha_new w1 _
  clear hb hbW
  generalize World.alloc w1 _ = W at *
  generalize w1.heap.size = g at *
  have c0 : W.cell? ⟨g, 0, none⟩ = some (.slice A ln lc) := bc hc4 0
  have c1 : W.cell? ⟨g, 1, none⟩ = some (.int .i64 rest) := bc hc4 1
  have c2 : W.cell? ⟨g, 2, none⟩ = some (.int .i64 least) := bc hc4 2
  have c3 : W.cell? ⟨g, 3, none⟩ = some (.int .i64 most) := bc hc4 3
  have c4 : W.cell? ⟨g, 4, none⟩ = some (.int .i64 per) := bc hc4 4
  have HC := Lib.hid hc4
  clear hc4
  by_cases ha : n < least
  · go_wp2
    go_ret2
    exact sizePost _ _ HB.out
  have ha' : decide (n < least) = false := by simpa using ha
  clear ha
  by_cases hm : most < n
  · go_wp2
    go_ret2
    exact sizePost _ _ HB.out
  have hm' : decide (most < n) = false := by simpa using hm
  have hn : n ≤ 4096 := by omega
  clear hm
  go_cut [35] (fun s wx => (∃ b : Bool, s = .bool b) ∧ wx = W)
  case first =>
    by_cases h12 : k = 12
    · subst h12
      go_wp2_with (go_at_call 34; (with_reducible refine (heads_any _ _).mono ?_); rintro e w2 ⟨b, rfl, rfl⟩)
      go_meet
      case rel => exact ⟨⟨_, rfl⟩, rfl⟩
    · have h12' : (k == 12) = false := by simpa using h12
      clear h12
      go_wp2
      go_meet
      case rel => exact ⟨⟨_, rfl⟩, rfl⟩
  case rest =>
    obtain ⟨⟨b, rfl⟩, hcut⟩ := hcut
    subst hcut
    cases b with
    | true =>
      go_wp2
      go_ret2
      exact sizePost _ _ HB.out
    | false =>
    by_cases hr : 0 < rest
    · obtain ⟨p1, p2⟩ := h5 hr
      clear h5
      go_wp2
      go_loop [7, 8] (fun t i => ∃ x m : Int, 0 ≤ m ∧ m ≤ 5000 ∧ 0 ≤ x ∧ x ≤ m + 10 ∧ t = .int .i64 x ∧ i = .int .i64 m) (fun _ i => (6000 - intOf i).toNat)
      case atStart => exact ⟨_, 0, by omega, by omega, by omega, by omega, rfl, rfl⟩
      case round =>
        obtain ⟨x, m, x1, x2, x3, x4, rfl, rfl⟩ := hrel
        by_cases hlt : m < n
        · go_wp2
          go_round
          case rel => exact ⟨x + 1, m + per, by omega, by omega, by omega, by omega, rfl, rfl⟩
          case measure => simp [intOf]; omega
        · go_wp2
          go_ret2
          exact sizePost _ _ HB.out
    · clear h5
      go_wp2
      go_ret2
      exact sizePost _ _ HB.out
theorem below_dN {B : Nat} {w w' : World} (h : Below B w w') (n : Nat) : Below B w (w'.drewN n) := ⟨h.os, h.tape, h.output, h.size, h.block⟩
/-- What counts tells: 0 or more just of nodes whose lists are as long as their kind has them. -/
def CountsPost (k : Int) (rn : Nat) (w : World) (e : Ending) (w' : World) : Prop := ∃ r : Int, e = .returned (.int .i64 r) ∧ (0 ≤ r → (k = 6 → rn = 1) ∧ (k = 11 → rn = 3)) ∧ Below w.heap.size w w'
set_option maxRecDepth 100000 in
set_option maxHeartbeats 2000000 in
theorem counts_any (id k : Int) (A1 A2 A3 : Option Addr) (n1 n2 n3 c1 c2 c3 : Nat) (w : World) (l1 : n1 ≤ 140737488351232) (l2 : n2 ≤ 140737488351232) :
    Calls Tryd.prog 19 #[.agg #[.int .i64 id, .int .i64 k, .slice A1 n1 c1, .slice A2 n2 c2, .slice A3 n3 c3]] w (CountsPost k n1 w) := by
  go_enter Tryd.func19, Tryd.ntmps19
  go_upto_block 0 with (fail)
  have hb0 : Below w.heap.size w (w.alloc (.cells #[.int .i64 id, .int .i64 k, .slice A1 n1 c1, .slice A2 n2 c2, .slice A3 n3 c3] 34)) := (Below.refl _ _).alloc (Nat.le_refl _) _
  have hc0 := ha_new w (.cells #[.int .i64 id, .int .i64 k, .slice A1 n1 c1, .slice A2 n2 c2, .slice A3 n3 c3] 34)
  generalize World.alloc w _ = W at *
  have HB := Lib.hid hb0
  have HC := Lib.hid hc0
  have d1 : W.cell? ⟨w.heap.size, 1, none⟩ = some (.int .i64 k) := bc hc0 1
  have d2 : W.cell? ⟨w.heap.size, 2, none⟩ = some (.slice A1 n1 c1) := bc hc0 2
  have d3 : W.cell? ⟨w.heap.size, 3, none⟩ = some (.slice A2 n2 c2) := bc hc0 3
  clear hb0 hc0
  go_cut [3, 4, 5] (fun x3 x4 x5 wx => ∃ r f p : Int, x3 = .int .i64 r ∧ x4 = .int .i64 f ∧ x5 = .int .i64 p ∧ (k = 6 → r = 1) ∧ (k = 11 → r = 3) ∧ -5 ≤ p ∧ p ≤ 140737488351232 ∧ 0 ≤ f ∧ 0 ≤ r ∧ Below W.heap.size W wx)
  case first =>
    go_wp2
    all_goals (try (go_quiet (fail); go_wp2))
    all_goals (try (go_meet; case rel => (simp only [beq_iff_eq, beq_eq_false_iff_ne, ne_eq] at *; refine ⟨_, _, _, rfl, rfl, rfl, by omega, by omega, by omega, by omega, by omega, by omega, ?_⟩; first | exact Below.refl _ _ | exact below_dN (Below.refl _ _) _)))
    exact bodyPost_ret (results_tmp rfl _ _ _) rfl ⟨-1, rfl, fun h => by omega, HB.out⟩
  case rest =>
    obtain ⟨r, f, p, rfl, rfl, rfl, h6, h11, p1, p2, f0, r0, hbc⟩ := hcut
    have hbw := HB.out.trans (hbc.mono HB.out.size)
    have hc1 := blk_below hbc HC.out (blk_lt HC.out)
    have e1 : wc.cell? ⟨w.heap.size, 1, none⟩ = some (.int .i64 k) := bc hc1 1
    have e2 : wc.cell? ⟨w.heap.size, 2, none⟩ = some (.slice A1 n1 c1) := bc hc1 2
    have e3 : wc.cell? ⟨w.heap.size, 3, none⟩ = some (.slice A2 n2 c2) := bc hc1 3
    have e4 : wc.cell? ⟨w.heap.size, 4, none⟩ = some (.slice A3 n3 c3) := bc hc1 4
    have H6 := Lib.hid (And.intro h6 h11)
    have HW := Lib.hid hbw
    clear h6 h11 hbc hc1 hbw d1 d2 d3
    go_wp2_with (go_at_call 25; (with_reducible refine (size_any _ _ _).mono ?_); rintro e w2 ⟨sr, sb, rfl, hb2⟩)
    all_goals
      go_ret
      refine ⟨_, rfl, fun h => ?_, ?_⟩
      · first
          | omega
          | exact ⟨fun e => by have := H6.out.1 e; omega, fun e => by have := H6.out.2 e; omega⟩
      · first
          | exact HW.out
          | exact HW.out.trans (hb2.mono HW.out.size)
end Go.Proofs.YtpejmgellidhbaaDoor
