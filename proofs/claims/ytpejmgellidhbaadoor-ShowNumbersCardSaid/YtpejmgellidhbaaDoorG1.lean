/- Small functions of the statements: num, good, fix, ref, alive. -/
import Derived.Test.YtpejmgellidhbaaDoorF6
namespace Go.Proofs.YtpejmgellidhbaaDoor
open Go.RowKit

set_option maxHeartbeats 400000 in
theorem num_any (n : Int) (w : World) : Calls Tryd.prog 15 #[.int .i64 n] w fun e w' => e = .returned (.int .i64 n) ∧ w = w' := by
  go_enter Tryd.func15, Tryd.ntmps15
  go_wp2
  go_ret
  exact ⟨rfl, rfl⟩
def goodB (f a : Int) : Bool := decide (f = 0) && decide (a = 0)
set_option maxHeartbeats 400000 in
theorem good_any (f a : Int) (w : World) : Calls Tryd.prog 16 #[.agg #[.int .i64 f, .int .i64 a]] w fun e w' => e = .returned (.bool (goodB f a)) ∧ Below w.heap.size w w' := by
  have hb : Below w.heap.size w (w.alloc (.cells #[.int .i64 f, .int .i64 a] 38)) := (Below.refl _ _).alloc (Nat.le_refl _) _
  by_cases hf : f = 0
  · by_cases ha : a = 0
    · subst hf ha
      go_enter Tryd.func16, Tryd.ntmps16
      go_wp2_with (go_at_call 15; refine (num_any _ _).mono ?_; rintro e w' ⟨rfl, rfl⟩)
      go_ret
      exact ⟨rfl, hb⟩
    · have ha' : (a == 0) = false := by simpa using ha
      have hg : goodB f a = false := by simp [goodB, ha]
      have HG := hid hg
      subst hf
      clear hg ha
      go_enter Tryd.func16, Tryd.ntmps16
      go_wp2_with (go_at_call 15; refine (num_any _ _).mono ?_; rintro e w' ⟨rfl, rfl⟩)
      go_ret
      exact ⟨by rw [HG.out]; rfl, hb⟩
  · have hf' : (f == 0) = false := by simpa using hf
    have hg : goodB f a = false := by simp [goodB, hf]
    have HG := hid hg
    clear hg hf
    go_enter Tryd.func16, Tryd.ntmps16
    go_wp2_with (go_at_call 15; refine (num_any _ _).mono ?_; rintro e w' ⟨rfl, rfl⟩)
    go_ret
    exact ⟨by rw [HG.out]; rfl, hb⟩
set_option maxHeartbeats 400000 in
theorem fix_any (n : Int) (w : World) : Calls Tryd.prog 14 #[.int .i64 n] w fun e w' => e = .returned (.agg #[.int .i64 1, .int .i64 n]) ∧ Below w.heap.size w w' := by
  go_enter Tryd.func14, Tryd.ntmps14
  go_wp2
  exact bodyPost_ret (v := .agg #[.int .i64 1, .int .i64 n]) (by simp [results, Tryd.results14, go_sem]) rfl ⟨rfl, (Below.refl _ _).alloc (Nat.le_refl _) _⟩
set_option maxHeartbeats 400000 in
theorem ref_any (n : Int) (w : World) : Calls Tryd.prog 17 #[.int .i64 n] w fun e w' => e = .returned (.agg #[.int .i64 2, .int .i64 n]) ∧ Below w.heap.size w w' := by
  go_enter Tryd.func17, Tryd.ntmps17
  go_wp2
  exact bodyPost_ret (v := .agg #[.int .i64 2, .int .i64 n]) (by simp [results, Tryd.results17, go_sem]) rfl ⟨rfl, (Below.refl _ _).alloc (Nat.le_refl _) _⟩
theorem nodes_nil (w : World) : RdNodes w (.slice none 0 0) [] := ⟨none, 0, rfl, by simp, fun h => by simp at h⟩
theorem small_nil : SmallNodes [] := fun nd h => by simp at h
theorem itoa_m7 : Lib.itoa (-7) = [45, 55] := by
  unfold Lib.itoa
  rw [if_pos (by omega), show (-7 : Int).natAbs = 7 from rfl, Lib.decDigits]
  rfl
theorem show_atom (nodes : List Nd) (x : Int × Int) (hv : validB x.1 x.2 = true) (h2 : x.1 ≠ 2) : showM nodes x = (atomL x, 0) := by
  have hl : lookM nodes 501 [x] [] 0 = .ok [] := by
    have hv' : ¬ validB x.1 x.2 = false := by rw [hv]; decide
    unfold lookM
    rw [if_neg (by omega), if_neg hv', if_pos h2]
    rfl
  unfold showM
  rw [hl]
  have hv' : ¬ validB x.1 x.2 = false := by rw [hv]; decide
  have ht : tellM goTells (rounds (labelM 0 [])) [.val x] (labelM 0 []) [] = some (atomL x) := by
    show tellM goTells 6 [.val x] [] [] = some (atomL x)
    unfold tellM formM
    rw [if_neg hv', if_pos h2]
    simp only
    show tellM goTells 5 [.text (bsOf (atomL x))] [] [] = _
    unfold tellM
    show tellM goTells 4 [] [] ([] ++ (bsOf (atomL x)).data.toList) = _
    simp [tellM, bsOf]
  simp only [ht]
  rfl
theorem show_m7 : showM [] (1, -7) = ([45, 55], 0) := by
  rw [show_atom [] (1, -7) (by decide) (by decide)]
  rw [show atomL (1, -7) = Lib.itoa (-7) from rfl, itoa_m7]
set_option maxHeartbeats 400000 in
theorem alive_any (w : World) (hT : Tabs w) : Calls Tryd.prog 8 #[] w fun e w' => e = .returned (.bool true) ∧ Below w.heap.size w w' := by
  have hG : Calls Tryd.prog 12 #[.agg #[.slice none 0 0, .slice none 0 0], .agg #[.int .i64 1, .int .i64 (-7)]] w fun e w' => e = .returned (.tuple #[.string ⟨#[45, 55]⟩, .agg #[.int .i64 0, .int .i64 0]]) ∧ Below w.heap.size w w' := by
    refine (graph_any w (.slice none 0 0) (.slice none 0 0) [] (1, -7) hT (nodes_nil w) ⟨none, 0, 0, rfl⟩ small_nil).mono ?_
    rintro e w' ⟨rfl, hb⟩
    rw [show_m7]
    exact ⟨rfl, hb⟩
  have HG := hid hG
  clear hG hT
  go_enter Tryd.func8, Tryd.ntmps8
  go_wp2_with (first | (go_at_call 12; refine HG.out.mono ?_; rintro e w1 ⟨rfl, hb1⟩) | (go_at_call 16; refine (good_any _ _ _).mono ?_; rintro e w2 ⟨rfl, hb2⟩))
  go_ret
  exact ⟨rfl, (hb1.alloc hb1.size _).trans (hb2.mono (Nat.le_trans hb1.size (by simp)))⟩
end Go.Proofs.YtpejmgellidhbaaDoor
