/- The statement ShowLeaves: its walk. -/
import Derived.Test.YtpejmgellidhbaaDoorG1
namespace Go.Proofs.YtpejmgellidhbaaDoor
open Go.RowKit

def leafNd (kind a b : Int) : Nd := ⟨5, kind, [a, b], [(2, a), (2, b)]⟩
theorem show_leaf (nd : Nd) (hid : validB 2 nd.id = true) (hk : kBox nd.kind = false) (h4 : nd.kind ≠ 4) : showM [nd] (2, nd.id) = (leafL nd, 0) := by
  have hv' : ¬ validB 2 nd.id = false := by rw [hid]; decide
  have hf : findN [nd] nd.id = some nd := by simp [findN]
  have hl : lookM [nd] 501 [(2, nd.id)] [] 0 = .ok [(nd.id, ⟨nd, 1, -1, false⟩)] := by
    unfold lookM
    rw [if_neg (by omega), if_neg hv', if_neg (by simp), metAt_nil]
    simp only [hf]
    rw [if_neg (fun h => h4 h.1), if_neg (by rw [hk]; decide)]
    rfl
  have hlab : labelM 0 [(nd.id, (⟨nd, 1, -1, false⟩ : Met))] = [(nd.id, ⟨nd, 1, -1, false⟩)] := by
    simp [labelM, many, hk]
  have ht : tellM goTells (rounds (labelM 0 [(nd.id, ⟨nd, 1, -1, false⟩)])) [.val (2, nd.id)] (labelM 0 [(nd.id, ⟨nd, 1, -1, false⟩)]) [] = some (leafL nd) := by
    rw [hlab]
    have hr : rounds [(nd.id, (⟨nd, 1, -1, false⟩ : Met))] = 5 + 1 := by simp [rounds, wtE, wtN, hk]
    rw [hr]
    have hform : formM goTells [(nd.id, ⟨nd, 1, -1, false⟩)] (2, nd.id) = some ([.text (bsOf (leafL nd))], [(nd.id, ⟨nd, 1, -1, false⟩)]) := by
      unfold formM
      rw [if_neg hv', if_neg (by simp), metAt_cons, if_pos rfl]
      simp only
      rw [if_pos hk]
      rfl
    unfold tellM
    rw [hform]
    show tellM goTells 5 [.text (bsOf (leafL nd))] _ [] = _
    unfold tellM
    show tellM goTells 4 [] _ ([] ++ (bsOf (leafL nd)).data.toList) = _
    simp [tellM, bsOf]
  unfold showM
  rw [hl]
  simp only [ht]
  rfl
/-- The graph of ShowLeaves in memory. -/
theorem leaf_world {w1 w2 w3 w4 w5 : World} {kind a b : Int} (hb2 : Below (w1.alloc (.cells #[.int .i64 a, .int .i64 b] 3)).heap.size (w1.alloc (.cells #[.int .i64 a, .int .i64 b] 3)) w2) (hb3 : Below w2.heap.size w2 w3)
    (hb4 : Below (w3.alloc (.cells #[.int .i64 2, .int .i64 a, .int .i64 2, .int .i64 b] 27)).heap.size (w3.alloc (.cells #[.int .i64 2, .int .i64 a, .int .i64 2, .int .i64 b] 27)) w4) (hb5 : Below w4.heap.size w4 w5) (e : Obj) {G : Array Value} :
    Below w1.heap.size w1 (((w5.alloc e).alloc (.cells #[.int .i64 5, .int .i64 kind, .slice (some ⟨w1.heap.size, 0, none⟩) 2 2, .slice (some ⟨w3.heap.size, 0, none⟩) 2 2, .slice (some ⟨w5.heap.size, 0, none⟩) 1 1] 34)).alloc (.cells G 25)) ∧
    RdNodes (((w5.alloc e).alloc (.cells #[.int .i64 5, .int .i64 kind, .slice (some ⟨w1.heap.size, 0, none⟩) 2 2, .slice (some ⟨w3.heap.size, 0, none⟩) 2 2, .slice (some ⟨w5.heap.size, 0, none⟩) 1 1] 34)).alloc (.cells G 25))
      (.slice (some ⟨w5.heap.size + 1, 0, none⟩) 1 1) [leafNd kind a b] ∧
    (((w5.alloc e).alloc (.cells #[.int .i64 5, .int .i64 kind, .slice (some ⟨w1.heap.size, 0, none⟩) 2 2, .slice (some ⟨w3.heap.size, 0, none⟩) 2 2, .slice (some ⟨w5.heap.size, 0, none⟩) 1 1] 34)).alloc (.cells G 25)).heap[w5.heap.size + 1 + 1]? = some (.cells G 25 (0, 0)) := by
  have s2 := hb2.size
  have s3 := hb3.size
  have s4 := hb4.size
  have s5 := hb5.size
  simp only [World.size_alloc] at s2 s4
  have r1 := blk_below hb2 (ha_new w1 _) (by simp)
  have r2 := blk_below hb3 r1 (blk_lt r1)
  have r3 := ha_old (x := .cells #[.int .i64 2, .int .i64 a, .int .i64 2, .int .i64 b] 27) r2
  have r4 := blk_below hb4 r3 (blk_lt r3)
  have r5 := blk_below hb5 r4 (blk_lt r4)
  have f4 := blk_below hb4 (ha_new w3 _) (by simp)
  have f5 := blk_below hb5 f4 (blk_lt f4)
  have n1 := ha_new (w5.alloc e) (.cells #[.int .i64 5, .int .i64 kind, .slice (some ⟨w1.heap.size, 0, none⟩) 2 2, .slice (some ⟨w3.heap.size, 0, none⟩) 2 2, .slice (some ⟨w5.heap.size, 0, none⟩) 1 1] 34)
  simp only [World.size_alloc] at n1
  have g1 := ha_new ((w5.alloc e).alloc (.cells #[.int .i64 5, .int .i64 kind, .slice (some ⟨w1.heap.size, 0, none⟩) 2 2, .slice (some ⟨w3.heap.size, 0, none⟩) 2 2, .slice (some ⟨w5.heap.size, 0, none⟩) 1 1] 34)) (.cells G 25)
  simp only [World.size_alloc] at g1
  have r6 := ha_old (x := .cells G 25) (ha_old (x := .cells #[.int .i64 5, .int .i64 kind, .slice (some ⟨w1.heap.size, 0, none⟩) 2 2, .slice (some ⟨w3.heap.size, 0, none⟩) 2 2, .slice (some ⟨w5.heap.size, 0, none⟩) 1 1] 34) (ha_old (x := e) r5))
  have f6 := ha_old (x := .cells G 25) (ha_old (x := .cells #[.int .i64 5, .int .i64 kind, .slice (some ⟨w1.heap.size, 0, none⟩) 2 2, .slice (some ⟨w3.heap.size, 0, none⟩) 2 2, .slice (some ⟨w5.heap.size, 0, none⟩) 1 1] 34) (ha_old (x := e) f5))
  have n2 := ha_old (x := .cells G 25) n1
  refine ⟨?_, ⟨_, 1, rfl, by simp, fun _ => ⟨_, 0, rfl, blk_lt n2, fun j hj => ?_⟩⟩, g1⟩
  · have h1 : Below w1.heap.size w1 w3 := ((Below.refl _ _).alloc (Nat.le_refl _) _).trans ((hb2.mono (by simp)).trans (hb3.mono (by omega)))
    have h2 : Below w1.heap.size w1 w5 := (h1.alloc (by omega) _).trans ((hb4.mono (by simp; omega)).trans (hb5.mono (by omega)))
    exact ((h2.alloc h2.size e).alloc (by simp; omega) _).alloc (by simp; omega) _
  · simp only [List.length_cons, List.length_nil] at hj
    match j, hj with
    | 0, _ =>
      refine ⟨_, _, _, (bc n2 0).trans rfl, (bc n2 1).trans rfl, (bc n2 2).trans rfl, (bc n2 3).trans rfl, (bc n2 4).trans rfl, ?_, ?_, _, _, _, rfl⟩
      · refine ⟨_, 2, rfl, by simp [leafNd], fun _ => ⟨_, 0, rfl, blk_lt r6, fun i hi => ?_⟩⟩
        simp only [leafNd, List.getElem_cons_zero, List.length_cons, List.length_nil] at hi
        match i, hi with
        | 0, _ => exact (bc r6 0).trans rfl
        | 1, _ => exact (bc r6 1).trans rfl
      · refine ⟨_, 2, rfl, by simp [leafNd], fun _ => ⟨_, 0, rfl, blk_lt f6, fun i hi => ?_⟩⟩
        simp only [leafNd, List.getElem_cons_zero, List.length_cons, List.length_nil] at hi
        match i, hi with
        | 0, _ => exact ⟨(bc f6 0).trans rfl, (bc f6 1).trans rfl⟩
        | 1, _ => exact ⟨(bc f6 2).trans rfl, (bc f6 3).trans rfl⟩
theorem fault_late {W w8 : World} (h : Below W.heap.size W w8) : ∃ fb, Value.pointer (some ⟨w8.heap.size, 0, none⟩) = .pointer (some ⟨fb, 0, none⟩) ∧ (w8.alloc (.cells #[.int .i64 0, .int .i64 0] 38)).heap[fb]? = some (.cells #[.int .i64 0, .int .i64 0] 38 (0, 0)) ∧ Below W.heap.size W (w8.alloc (.cells #[.int .i64 0, .int .i64 0] 38)) :=
  ⟨_, rfl, ha_new _ _, h.alloc h.size _⟩
theorem fault_early {W W1 w8 : World} (h1 : Below W.heap.size W W1) (h : Below (W1.alloc nil38).heap.size (W1.alloc nil38) w8) : ∃ fb, Value.pointer (some ⟨W1.heap.size, 0, none⟩) = .pointer (some ⟨fb, 0, none⟩) ∧ ((w8.setCell ⟨W1.heap.size, 0, none⟩ (.int .i64 0)).setCell ⟨W1.heap.size, 1, none⟩ (.int .i64 0)).heap[fb]? = some (.cells #[.int .i64 0, .int .i64 0] 38 (0, 0)) ∧
    Below W.heap.size W ((w8.setCell ⟨W1.heap.size, 0, none⟩ (.int .i64 0)).setCell ⟨W1.heap.size, 1, none⟩ (.int .i64 0)) := by
  have hb := blk_below h (ha_new W1 nil38) (by simp)
  have h2 : Below W.heap.size W w8 := (h1.alloc h1.size _).trans (h.mono (by have := h1.size; simp; omega))
  exact ⟨_, rfl, (hs_same (hs_same hb)).trans rfl, (h2.setCell h1.size _).setCell h1.size _⟩
theorem fault_first {W w7 w8 : World} (h7 : Below (W.alloc nil38).drew.heap.size (W.alloc nil38).drew w7) (h8 : Below w7.heap.size w7 w8) : ∃ fb, Value.pointer (some ⟨W.heap.size, 0, none⟩) = .pointer (some ⟨fb, 0, none⟩) ∧ ((w8.setCell ⟨W.heap.size, 0, none⟩ (.int .i64 0)).setCell ⟨W.heap.size, 1, none⟩ (.int .i64 0)).heap[fb]? = some (.cells #[.int .i64 0, .int .i64 0] 38 (0, 0)) ∧
    Below W.heap.size W ((w8.setCell ⟨W.heap.size, 0, none⟩ (.int .i64 0)).setCell ⟨W.heap.size, 1, none⟩ (.int .i64 0)) := by
  have h7' : Below (W.alloc nil38).heap.size (W.alloc nil38) w7 := (Below.refl (W.alloc nil38).heap.size (W.alloc nil38)).drew.trans h7
  exact fault_early (Below.refl _ _) (h7'.trans (h8.mono h7'.size))
theorem graph_leaf (W : World) (nv : Value) (kind a b : Int) (hk : kind = 7 ∨ kind = 8 ∨ kind = 9 ∨ kind = 10 ∨ kind = 11) (hT : Tabs W) (hn : RdNodes W nv [leafNd kind a b]) (ha : IntOk a) :
    Calls Tryd.prog 12 #[.agg #[nv, .slice none 0 0], .agg #[.int .i64 2, .int .i64 5]] W fun e w' => e = .returned (.tuple #[.string ⟨(leafL (leafNd kind a b)).toArray⟩, .agg #[.int .i64 0, .int .i64 0]]) ∧ Below W.heap.size W w' := by
  have hs : SmallNodes [leafNd kind a b] := fun nd hnd => by
    simp only [List.mem_singleton] at hnd
    subst hnd
    exact ⟨by simp [leafNd], by simp [leafNd], by simpa [leafNd, rawM] using ha⟩
  have hsh : showM [leafNd kind a b] (2, 5) = (leafL (leafNd kind a b), 0) := show_leaf (leafNd kind a b) (by show validB 2 5 = true; decide) (by show kBox kind = false; rcases hk with rfl | rfl | rfl | rfl | rfl <;> decide) (by show kind ≠ 4; omega)
  refine (graph_any W nv (.slice none 0 0) [leafNd kind a b] (2, 5) hT hn ⟨none, 0, 0, rfl⟩ hs).mono ?_
  rintro e w' ⟨rfl, hb⟩
  rw [hsh]
  exact ⟨rfl, hb⟩
set_option maxRecDepth 100000 in
set_option maxHeartbeats 4000000 in
theorem leaves_7 (a b : Int) (w : World) (hT : Tabs w) (ha : IntOk a) :
    Calls Tryd.prog 7 #[.int .i64 7, .int .i64 a, .int .i64 b] w fun e w' => e = .returned (.bool true) ∧ Below w.heap.size w w' := by
  have HT := Lib.hid (And.intro hT ha)
  clear hT ha
  go_enter Tryd.func7, Tryd.ntmps7
  go_upto_region 16 with (first | (go_at_call 8; refine (alive_any _ HT.out.1).mono ?_; rintro e w1 ⟨rfl, hb1⟩) | (go_at_call 17; (with_reducible refine (ref_any a _).mono ?_); rintro e w2 ⟨rfl, hb2⟩) | (go_at_call 17; (with_reducible refine (ref_any b _).mono ?_); rintro e w3 ⟨rfl, hb3⟩) | (go_at_call 14; refine (fix_any b _).mono ?_; rintro e w5 ⟨rfl, hb5⟩))
  obtain ⟨hL1, hL2, hL3⟩ := leaf_world (kind := 7) (by assumption) hb3 hb2 hb5 (.cells #[.int .i64 2, .int .i64 a, .int .i64 1, .int .i64 b] 51) (G := #[.slice (some ⟨w5.heap.size + 1, 0, none⟩) 1 1, .slice none 0 0])
  generalize World.alloc (World.alloc (World.alloc w5 _) _) _ = W6 at *
  have hb6 := hb1.trans (hL1.mono hb1.size)
  have hT6 := HT.out.1.below hb6 (Nat.le_refl _)
  have hS : ∀ W, Below W6.heap.size W6 W → (W.cell? ⟨w5.heap.size + 1 + 1, 0, none⟩ = some (.slice (some ⟨w5.heap.size + 1, 0, none⟩) 1 1) ∧ W.cell? ⟨w5.heap.size + 1 + 1, 1, none⟩ = some (.slice none 0 0)) := fun W hW => by
    have h := blk_below hW hL3 (blk_lt hL3)
    exact ⟨bc h 0, bc h 1⟩
  have hC17 : ∀ W, Below W6.heap.size W6 W → Calls Tryd.prog 17 #[.int .i64 5] W fun e w' => e = .returned (.agg #[.int .i64 2, .int .i64 5]) ∧ Below W.heap.size W w' ∧ Below W6.heap.size W6 w' := fun W hW => by
    refine (ref_any 5 W).mono ?_
    rintro e w' ⟨rfl, hb⟩
    exact ⟨rfl, hb, hW.trans (hb.mono hW.size)⟩
  have hC12 : ∀ W, Below W6.heap.size W6 W → Calls Tryd.prog 12 #[.agg #[.slice (some ⟨w5.heap.size + 1, 0, none⟩) 1 1, .slice none 0 0], .agg #[.int .i64 2, .int .i64 5]] W fun e w' => e = .returned (.tuple #[.string ⟨#[35, 60, 99, 111, 110, 116, 105, 110, 117, 97, 116, 105, 111, 110, 62]⟩, .agg #[.int .i64 0, .int .i64 0]]) ∧ Below W.heap.size W w' ∧ Below W6.heap.size W6 w' := fun W hW => by
    refine (graph_leaf W _ 7 a b (by omega) (hT6.below hW (Nat.le_refl _)) (hL2.below hW (Nat.le_refl _)) HT.out.2).mono ?_
    rintro e w' ⟨rfl, hb⟩
    rw [show leafL (leafNd 7 a b) = [35, 60, 99, 111, 110, 116, 105, 110, 117, 97, 116, 105, 111, 110, 62] from by simp [leafL, leafNd]]
    exact ⟨rfl, hb, hW.trans (hb.mono hW.size)⟩
  obtain ⟨q0, q1⟩ := hS W6 (Below.refl _ _)
  have HC17 := Lib.hid hC17
  have HC12 := Lib.hid hC12
  have HS := Lib.hid (And.intro hS hb6)
  have l6 := blk_lt hL3
  have m1 : ¬ w5.heap.size + 1 + 1 = W6.heap.size := by omega
  have m2 : ¬ W6.heap.size = w5.heap.size + 1 + 1 := by omega
  clear hS hC17 hC12 hT6 hL1 hL2 hL3 hb6 hb1 hb2 hb3 hb5
  go_cut [10, 11] (fun s10 s11 wc => s10 = .string ⟨#[35, 60, 99, 111, 110, 116, 105, 110, 117, 97, 116, 105, 111, 110, 62]⟩ ∧ ∃ fb, s11 = .pointer (some ⟨fb, 0, none⟩) ∧ wc.heap[fb]? = some (.cells #[.int .i64 0, .int .i64 0] 38 (0, 0)) ∧ Below W6.heap.size W6 wc)
  case first =>
    go_region_held3 (fun w' => w'.cell? ⟨w5.heap.size + 1 + 1, 0, none⟩ = some (.slice (some ⟨w5.heap.size + 1, 0, none⟩) 1 1) ∧ w'.cell? ⟨w5.heap.size + 1 + 1, 1, none⟩ = some (.slice none 0 0)) (go_keep)
      (first | (go_at_call 17; (with_reducible refine (HC17.out _ ?_).mono ?_); (first | (exact (Below.refl _ _).drew) | go_grown); rintro e w7 ⟨rfl, hb7, hB7⟩; obtain ⟨hc7, hf7⟩ := bcell hb7; obtain ⟨p0, p1⟩ := HS.out.1 _ hB7; have l7 := Nat.lt_of_lt_of_le l6 hB7.size; have m3 := Nat.ne_of_lt l7; have m4 := Nat.ne_of_gt l7; have hs7 := hb7.size; (try rw [size_drew] at hs7); (try rw [World.size_alloc] at hs7); (try have e7 : W6.heap.size < w7.heap.size := hs7)) | (go_at_call 12; (with_reducible refine (HC12.out _ ?_).mono ?_); (first | assumption | exact hB7.alloc hB7.size _ | go_grown); rintro e w8 ⟨rfl, hb8, hB8⟩; obtain ⟨hc8, hf8⟩ := bcell hb8; obtain ⟨p2, p3⟩ := HS.out.1 _ hB8; have l8 := Nat.lt_of_lt_of_le l6 hB8.size; have m5 := Nat.ne_of_lt l8; have m6 := Nat.ne_of_gt l8; have hs8 := hb8.size; (try rw [size_drew] at hs8); (try rw [World.size_alloc] at hs8); (try have e8 : w7.heap.size < w8.heap.size := hs8)))
    all_goals
      go_wp2_with fail
      go_meet
      case rel =>
        refine ⟨rfl, ?_⟩
        first
          | with_reducible exact fault_late hB8
          | with_reducible exact fault_early hB7 hb8
          | with_reducible exact fault_first hb7 hb8
  case rest =>
    obtain ⟨rfl, fb, rfl, hfb, hbc⟩ := hcut
    have f0 : wc.cell? ⟨fb, 0, none⟩ = some (.int .i64 0) := bc hfb 0
    have f1 : wc.cell? ⟨fb, 1, none⟩ = some (.int .i64 0) := bc hfb 1
    have HB := Lib.hid (HS.out.2.trans (hbc.mono HS.out.2.size))
    clear hfb hbc m1 m2 q0 q1 l6
    go_wp2_with (go_at_call 16; refine (good_any 0 0 _).mono ?_; rintro e w9 ⟨rfl, hb9⟩)
    go_ret
    exact ⟨rfl, HB.out.trans (hb9.mono HB.out.size)⟩
set_option maxRecDepth 100000 in
set_option maxHeartbeats 4000000 in
theorem leaves_8 (a b : Int) (w : World) (hT : Tabs w) (ha : IntOk a) :
    Calls Tryd.prog 7 #[.int .i64 8, .int .i64 a, .int .i64 b] w fun e w' => e = .returned (.bool true) ∧ Below w.heap.size w w' := by
  have HT := Lib.hid (And.intro hT ha)
  clear hT ha
  go_enter Tryd.func7, Tryd.ntmps7
  go_upto_region 16 with (first | (go_at_call 8; refine (alive_any _ HT.out.1).mono ?_; rintro e w1 ⟨rfl, hb1⟩) | (go_at_call 17; (with_reducible refine (ref_any a _).mono ?_); rintro e w2 ⟨rfl, hb2⟩) | (go_at_call 17; (with_reducible refine (ref_any b _).mono ?_); rintro e w3 ⟨rfl, hb3⟩) | (go_at_call 14; refine (fix_any b _).mono ?_; rintro e w5 ⟨rfl, hb5⟩))
  obtain ⟨hL1, hL2, hL3⟩ := leaf_world (kind := 8) (by assumption) hb3 hb2 hb5 (.cells #[.int .i64 2, .int .i64 a, .int .i64 1, .int .i64 b] 51) (G := #[.slice (some ⟨w5.heap.size + 1, 0, none⟩) 1 1, .slice none 0 0])
  generalize World.alloc (World.alloc (World.alloc w5 _) _) _ = W6 at *
  have hb6 := hb1.trans (hL1.mono hb1.size)
  have hT6 := HT.out.1.below hb6 (Nat.le_refl _)
  have hS : ∀ W, Below W6.heap.size W6 W → (W.cell? ⟨w5.heap.size + 1 + 1, 0, none⟩ = some (.slice (some ⟨w5.heap.size + 1, 0, none⟩) 1 1) ∧ W.cell? ⟨w5.heap.size + 1 + 1, 1, none⟩ = some (.slice none 0 0)) := fun W hW => by
    have h := blk_below hW hL3 (blk_lt hL3)
    exact ⟨bc h 0, bc h 1⟩
  have hC17 : ∀ W, Below W6.heap.size W6 W → Calls Tryd.prog 17 #[.int .i64 5] W fun e w' => e = .returned (.agg #[.int .i64 2, .int .i64 5]) ∧ Below W.heap.size W w' ∧ Below W6.heap.size W6 w' := fun W hW => by
    refine (ref_any 5 W).mono ?_
    rintro e w' ⟨rfl, hb⟩
    exact ⟨rfl, hb, hW.trans (hb.mono hW.size)⟩
  have hC12 : ∀ W, Below W6.heap.size W6 W → Calls Tryd.prog 12 #[.agg #[.slice (some ⟨w5.heap.size + 1, 0, none⟩) 1 1, .slice none 0 0], .agg #[.int .i64 2, .int .i64 5]] W fun e w' => e = .returned (.tuple #[.string ⟨#[35, 60, 119, 101, 97, 107, 62]⟩, .agg #[.int .i64 0, .int .i64 0]]) ∧ Below W.heap.size W w' ∧ Below W6.heap.size W6 w' := fun W hW => by
    refine (graph_leaf W _ 8 a b (by omega) (hT6.below hW (Nat.le_refl _)) (hL2.below hW (Nat.le_refl _)) HT.out.2).mono ?_
    rintro e w' ⟨rfl, hb⟩
    rw [show leafL (leafNd 8 a b) = [35, 60, 119, 101, 97, 107, 62] from by simp [leafL, leafNd]]
    exact ⟨rfl, hb, hW.trans (hb.mono hW.size)⟩
  obtain ⟨q0, q1⟩ := hS W6 (Below.refl _ _)
  have HC17 := Lib.hid hC17
  have HC12 := Lib.hid hC12
  have HS := Lib.hid (And.intro hS hb6)
  have l6 := blk_lt hL3
  have m1 : ¬ w5.heap.size + 1 + 1 = W6.heap.size := by omega
  have m2 : ¬ W6.heap.size = w5.heap.size + 1 + 1 := by omega
  clear hS hC17 hC12 hT6 hL1 hL2 hL3 hb6 hb1 hb2 hb3 hb5
  go_cut [10, 11] (fun s10 s11 wc => s10 = .string ⟨#[35, 60, 119, 101, 97, 107, 62]⟩ ∧ ∃ fb, s11 = .pointer (some ⟨fb, 0, none⟩) ∧ wc.heap[fb]? = some (.cells #[.int .i64 0, .int .i64 0] 38 (0, 0)) ∧ Below W6.heap.size W6 wc)
  case first =>
    go_region_held3 (fun w' => w'.cell? ⟨w5.heap.size + 1 + 1, 0, none⟩ = some (.slice (some ⟨w5.heap.size + 1, 0, none⟩) 1 1) ∧ w'.cell? ⟨w5.heap.size + 1 + 1, 1, none⟩ = some (.slice none 0 0)) (go_keep)
      (first | (go_at_call 17; (with_reducible refine (HC17.out _ ?_).mono ?_); (first | (exact (Below.refl _ _).drew) | go_grown); rintro e w7 ⟨rfl, hb7, hB7⟩; obtain ⟨hc7, hf7⟩ := bcell hb7; obtain ⟨p0, p1⟩ := HS.out.1 _ hB7; have l7 := Nat.lt_of_lt_of_le l6 hB7.size; have m3 := Nat.ne_of_lt l7; have m4 := Nat.ne_of_gt l7; have hs7 := hb7.size; (try rw [size_drew] at hs7); (try rw [World.size_alloc] at hs7); (try have e7 : W6.heap.size < w7.heap.size := hs7)) | (go_at_call 12; (with_reducible refine (HC12.out _ ?_).mono ?_); (first | assumption | exact hB7.alloc hB7.size _ | go_grown); rintro e w8 ⟨rfl, hb8, hB8⟩; obtain ⟨hc8, hf8⟩ := bcell hb8; obtain ⟨p2, p3⟩ := HS.out.1 _ hB8; have l8 := Nat.lt_of_lt_of_le l6 hB8.size; have m5 := Nat.ne_of_lt l8; have m6 := Nat.ne_of_gt l8; have hs8 := hb8.size; (try rw [size_drew] at hs8); (try rw [World.size_alloc] at hs8); (try have e8 : w7.heap.size < w8.heap.size := hs8)))
    all_goals
      go_wp2_with fail
      go_meet
      case rel =>
        refine ⟨rfl, ?_⟩
        first
          | with_reducible exact fault_late hB8
          | with_reducible exact fault_early hB7 hb8
          | with_reducible exact fault_first hb7 hb8
  case rest =>
    obtain ⟨rfl, fb, rfl, hfb, hbc⟩ := hcut
    have f0 : wc.cell? ⟨fb, 0, none⟩ = some (.int .i64 0) := bc hfb 0
    have f1 : wc.cell? ⟨fb, 1, none⟩ = some (.int .i64 0) := bc hfb 1
    have HB := Lib.hid (HS.out.2.trans (hbc.mono HS.out.2.size))
    clear hfb hbc m1 m2 q0 q1 l6
    go_wp2_with (go_at_call 16; refine (good_any 0 0 _).mono ?_; rintro e w9 ⟨rfl, hb9⟩)
    go_ret
    exact ⟨rfl, HB.out.trans (hb9.mono HB.out.size)⟩
set_option maxRecDepth 100000 in
set_option maxHeartbeats 4000000 in
theorem leaves_9 (a b : Int) (w : World) (hT : Tabs w) (ha : IntOk a) :
    Calls Tryd.prog 7 #[.int .i64 9, .int .i64 a, .int .i64 b] w fun e w' => e = .returned (.bool true) ∧ Below w.heap.size w w' := by
  have HT := Lib.hid (And.intro hT ha)
  clear hT ha
  go_enter Tryd.func7, Tryd.ntmps7
  go_upto_region 16 with (first | (go_at_call 8; refine (alive_any _ HT.out.1).mono ?_; rintro e w1 ⟨rfl, hb1⟩) | (go_at_call 17; (with_reducible refine (ref_any a _).mono ?_); rintro e w2 ⟨rfl, hb2⟩) | (go_at_call 17; (with_reducible refine (ref_any b _).mono ?_); rintro e w3 ⟨rfl, hb3⟩) | (go_at_call 14; refine (fix_any b _).mono ?_; rintro e w5 ⟨rfl, hb5⟩))
  obtain ⟨hL1, hL2, hL3⟩ := leaf_world (kind := 9) (by assumption) hb3 hb2 hb5 (.cells #[.int .i64 2, .int .i64 a, .int .i64 1, .int .i64 b] 51) (G := #[.slice (some ⟨w5.heap.size + 1, 0, none⟩) 1 1, .slice none 0 0])
  generalize World.alloc (World.alloc (World.alloc w5 _) _) _ = W6 at *
  have hb6 := hb1.trans (hL1.mono hb1.size)
  have hT6 := HT.out.1.below hb6 (Nat.le_refl _)
  have hS : ∀ W, Below W6.heap.size W6 W → (W.cell? ⟨w5.heap.size + 1 + 1, 0, none⟩ = some (.slice (some ⟨w5.heap.size + 1, 0, none⟩) 1 1) ∧ W.cell? ⟨w5.heap.size + 1 + 1, 1, none⟩ = some (.slice none 0 0)) := fun W hW => by
    have h := blk_below hW hL3 (blk_lt hL3)
    exact ⟨bc h 0, bc h 1⟩
  have hC17 : ∀ W, Below W6.heap.size W6 W → Calls Tryd.prog 17 #[.int .i64 5] W fun e w' => e = .returned (.agg #[.int .i64 2, .int .i64 5]) ∧ Below W.heap.size W w' ∧ Below W6.heap.size W6 w' := fun W hW => by
    refine (ref_any 5 W).mono ?_
    rintro e w' ⟨rfl, hb⟩
    exact ⟨rfl, hb, hW.trans (hb.mono hW.size)⟩
  have hC12 : ∀ W, Below W6.heap.size W6 W → Calls Tryd.prog 12 #[.agg #[.slice (some ⟨w5.heap.size + 1, 0, none⟩) 1 1, .slice none 0 0], .agg #[.int .i64 2, .int .i64 5]] W fun e w' => e = .returned (.tuple #[.string ⟨#[35, 60, 101, 112, 104, 101, 109, 101, 114, 111, 110, 62]⟩, .agg #[.int .i64 0, .int .i64 0]]) ∧ Below W.heap.size W w' ∧ Below W6.heap.size W6 w' := fun W hW => by
    refine (graph_leaf W _ 9 a b (by omega) (hT6.below hW (Nat.le_refl _)) (hL2.below hW (Nat.le_refl _)) HT.out.2).mono ?_
    rintro e w' ⟨rfl, hb⟩
    rw [show leafL (leafNd 9 a b) = [35, 60, 101, 112, 104, 101, 109, 101, 114, 111, 110, 62] from by simp [leafL, leafNd]]
    exact ⟨rfl, hb, hW.trans (hb.mono hW.size)⟩
  obtain ⟨q0, q1⟩ := hS W6 (Below.refl _ _)
  have HC17 := Lib.hid hC17
  have HC12 := Lib.hid hC12
  have HS := Lib.hid (And.intro hS hb6)
  have l6 := blk_lt hL3
  have m1 : ¬ w5.heap.size + 1 + 1 = W6.heap.size := by omega
  have m2 : ¬ W6.heap.size = w5.heap.size + 1 + 1 := by omega
  clear hS hC17 hC12 hT6 hL1 hL2 hL3 hb6 hb1 hb2 hb3 hb5
  go_cut [10, 11] (fun s10 s11 wc => s10 = .string ⟨#[35, 60, 101, 112, 104, 101, 109, 101, 114, 111, 110, 62]⟩ ∧ ∃ fb, s11 = .pointer (some ⟨fb, 0, none⟩) ∧ wc.heap[fb]? = some (.cells #[.int .i64 0, .int .i64 0] 38 (0, 0)) ∧ Below W6.heap.size W6 wc)
  case first =>
    go_region_held3 (fun w' => w'.cell? ⟨w5.heap.size + 1 + 1, 0, none⟩ = some (.slice (some ⟨w5.heap.size + 1, 0, none⟩) 1 1) ∧ w'.cell? ⟨w5.heap.size + 1 + 1, 1, none⟩ = some (.slice none 0 0)) (go_keep)
      (first | (go_at_call 17; (with_reducible refine (HC17.out _ ?_).mono ?_); (first | (exact (Below.refl _ _).drew) | go_grown); rintro e w7 ⟨rfl, hb7, hB7⟩; obtain ⟨hc7, hf7⟩ := bcell hb7; obtain ⟨p0, p1⟩ := HS.out.1 _ hB7; have l7 := Nat.lt_of_lt_of_le l6 hB7.size; have m3 := Nat.ne_of_lt l7; have m4 := Nat.ne_of_gt l7; have hs7 := hb7.size; (try rw [size_drew] at hs7); (try rw [World.size_alloc] at hs7); (try have e7 : W6.heap.size < w7.heap.size := hs7)) | (go_at_call 12; (with_reducible refine (HC12.out _ ?_).mono ?_); (first | assumption | exact hB7.alloc hB7.size _ | go_grown); rintro e w8 ⟨rfl, hb8, hB8⟩; obtain ⟨hc8, hf8⟩ := bcell hb8; obtain ⟨p2, p3⟩ := HS.out.1 _ hB8; have l8 := Nat.lt_of_lt_of_le l6 hB8.size; have m5 := Nat.ne_of_lt l8; have m6 := Nat.ne_of_gt l8; have hs8 := hb8.size; (try rw [size_drew] at hs8); (try rw [World.size_alloc] at hs8); (try have e8 : w7.heap.size < w8.heap.size := hs8)))
    all_goals
      go_wp2_with fail
      go_meet
      case rel =>
        refine ⟨rfl, ?_⟩
        first
          | with_reducible exact fault_late hB8
          | with_reducible exact fault_early hB7 hb8
          | with_reducible exact fault_first hb7 hb8
  case rest =>
    obtain ⟨rfl, fb, rfl, hfb, hbc⟩ := hcut
    have f0 : wc.cell? ⟨fb, 0, none⟩ = some (.int .i64 0) := bc hfb 0
    have f1 : wc.cell? ⟨fb, 1, none⟩ = some (.int .i64 0) := bc hfb 1
    have HB := Lib.hid (HS.out.2.trans (hbc.mono HS.out.2.size))
    clear hfb hbc m1 m2 q0 q1 l6
    go_wp2_with (go_at_call 16; refine (good_any 0 0 _).mono ?_; rintro e w9 ⟨rfl, hb9⟩)
    go_ret
    exact ⟨rfl, HB.out.trans (hb9.mono HB.out.size)⟩
set_option maxRecDepth 100000 in
set_option maxHeartbeats 4000000 in
theorem leaves_10 (a b : Int) (w : World) (hT : Tabs w) (ha : IntOk a) :
    Calls Tryd.prog 7 #[.int .i64 10, .int .i64 a, .int .i64 b] w fun e w' => e = .returned (.bool true) ∧ Below w.heap.size w w' := by
  have HT := Lib.hid (And.intro hT ha)
  clear hT ha
  go_enter Tryd.func7, Tryd.ntmps7
  go_upto_region 16 with (first | (go_at_call 8; refine (alive_any _ HT.out.1).mono ?_; rintro e w1 ⟨rfl, hb1⟩) | (go_at_call 17; (with_reducible refine (ref_any a _).mono ?_); rintro e w2 ⟨rfl, hb2⟩) | (go_at_call 17; (with_reducible refine (ref_any b _).mono ?_); rintro e w3 ⟨rfl, hb3⟩) | (go_at_call 14; refine (fix_any b _).mono ?_; rintro e w5 ⟨rfl, hb5⟩))
  obtain ⟨hL1, hL2, hL3⟩ := leaf_world (kind := 10) (by assumption) hb3 hb2 hb5 (.cells #[.int .i64 2, .int .i64 a, .int .i64 1, .int .i64 b] 51) (G := #[.slice (some ⟨w5.heap.size + 1, 0, none⟩) 1 1, .slice none 0 0])
  generalize World.alloc (World.alloc (World.alloc w5 _) _) _ = W6 at *
  have hb6 := hb1.trans (hL1.mono hb1.size)
  have hT6 := HT.out.1.below hb6 (Nat.le_refl _)
  have hS : ∀ W, Below W6.heap.size W6 W → (W.cell? ⟨w5.heap.size + 1 + 1, 0, none⟩ = some (.slice (some ⟨w5.heap.size + 1, 0, none⟩) 1 1) ∧ W.cell? ⟨w5.heap.size + 1 + 1, 1, none⟩ = some (.slice none 0 0)) := fun W hW => by
    have h := blk_below hW hL3 (blk_lt hL3)
    exact ⟨bc h 0, bc h 1⟩
  have hC17 : ∀ W, Below W6.heap.size W6 W → Calls Tryd.prog 17 #[.int .i64 5] W fun e w' => e = .returned (.agg #[.int .i64 2, .int .i64 5]) ∧ Below W.heap.size W w' ∧ Below W6.heap.size W6 w' := fun W hW => by
    refine (ref_any 5 W).mono ?_
    rintro e w' ⟨rfl, hb⟩
    exact ⟨rfl, hb, hW.trans (hb.mono hW.size)⟩
  have hC12 : ∀ W, Below W6.heap.size W6 W → Calls Tryd.prog 12 #[.agg #[.slice (some ⟨w5.heap.size + 1, 0, none⟩) 1 1, .slice none 0 0], .agg #[.int .i64 2, .int .i64 5]] W fun e w' => e = .returned (.tuple #[.string ⟨#[35, 60, 116, 97, 98, 108, 101, 62]⟩, .agg #[.int .i64 0, .int .i64 0]]) ∧ Below W.heap.size W w' ∧ Below W6.heap.size W6 w' := fun W hW => by
    refine (graph_leaf W _ 10 a b (by omega) (hT6.below hW (Nat.le_refl _)) (hL2.below hW (Nat.le_refl _)) HT.out.2).mono ?_
    rintro e w' ⟨rfl, hb⟩
    rw [show leafL (leafNd 10 a b) = [35, 60, 116, 97, 98, 108, 101, 62] from by simp [leafL, leafNd]]
    exact ⟨rfl, hb, hW.trans (hb.mono hW.size)⟩
  obtain ⟨q0, q1⟩ := hS W6 (Below.refl _ _)
  have HC17 := Lib.hid hC17
  have HC12 := Lib.hid hC12
  have HS := Lib.hid (And.intro hS hb6)
  have l6 := blk_lt hL3
  have m1 : ¬ w5.heap.size + 1 + 1 = W6.heap.size := by omega
  have m2 : ¬ W6.heap.size = w5.heap.size + 1 + 1 := by omega
  clear hS hC17 hC12 hT6 hL1 hL2 hL3 hb6 hb1 hb2 hb3 hb5
  go_cut [10, 11] (fun s10 s11 wc => s10 = .string ⟨#[35, 60, 116, 97, 98, 108, 101, 62]⟩ ∧ ∃ fb, s11 = .pointer (some ⟨fb, 0, none⟩) ∧ wc.heap[fb]? = some (.cells #[.int .i64 0, .int .i64 0] 38 (0, 0)) ∧ Below W6.heap.size W6 wc)
  case first =>
    go_region_held3 (fun w' => w'.cell? ⟨w5.heap.size + 1 + 1, 0, none⟩ = some (.slice (some ⟨w5.heap.size + 1, 0, none⟩) 1 1) ∧ w'.cell? ⟨w5.heap.size + 1 + 1, 1, none⟩ = some (.slice none 0 0)) (go_keep)
      (first | (go_at_call 17; (with_reducible refine (HC17.out _ ?_).mono ?_); (first | (exact (Below.refl _ _).drew) | go_grown); rintro e w7 ⟨rfl, hb7, hB7⟩; obtain ⟨hc7, hf7⟩ := bcell hb7; obtain ⟨p0, p1⟩ := HS.out.1 _ hB7; have l7 := Nat.lt_of_lt_of_le l6 hB7.size; have m3 := Nat.ne_of_lt l7; have m4 := Nat.ne_of_gt l7; have hs7 := hb7.size; (try rw [size_drew] at hs7); (try rw [World.size_alloc] at hs7); (try have e7 : W6.heap.size < w7.heap.size := hs7)) | (go_at_call 12; (with_reducible refine (HC12.out _ ?_).mono ?_); (first | assumption | exact hB7.alloc hB7.size _ | go_grown); rintro e w8 ⟨rfl, hb8, hB8⟩; obtain ⟨hc8, hf8⟩ := bcell hb8; obtain ⟨p2, p3⟩ := HS.out.1 _ hB8; have l8 := Nat.lt_of_lt_of_le l6 hB8.size; have m5 := Nat.ne_of_lt l8; have m6 := Nat.ne_of_gt l8; have hs8 := hb8.size; (try rw [size_drew] at hs8); (try rw [World.size_alloc] at hs8); (try have e8 : w7.heap.size < w8.heap.size := hs8)))
    all_goals
      go_wp2_with fail
      go_meet
      case rel =>
        refine ⟨rfl, ?_⟩
        first
          | with_reducible exact fault_late hB8
          | with_reducible exact fault_early hB7 hb8
          | with_reducible exact fault_first hb7 hb8
  case rest =>
    obtain ⟨rfl, fb, rfl, hfb, hbc⟩ := hcut
    have f0 : wc.cell? ⟨fb, 0, none⟩ = some (.int .i64 0) := bc hfb 0
    have f1 : wc.cell? ⟨fb, 1, none⟩ = some (.int .i64 0) := bc hfb 1
    have HB := Lib.hid (HS.out.2.trans (hbc.mono HS.out.2.size))
    clear hfb hbc m1 m2 q0 q1 l6
    go_wp2_with (go_at_call 16; refine (good_any 0 0 _).mono ?_; rintro e w9 ⟨rfl, hb9⟩)
    go_ret
    exact ⟨rfl, HB.out.trans (hb9.mono HB.out.size)⟩
set_option maxRecDepth 100000 in
set_option maxHeartbeats 4000000 in
theorem leaves_11 (a b : Int) (w : World) (hT : Tabs w) (ha : IntOk a) :
    Calls Tryd.prog 7 #[.int .i64 11, .int .i64 a, .int .i64 b] w fun e w' => e = .returned (.bool true) ∧ Below w.heap.size w w' := by
  have HT := Lib.hid (And.intro hT ha)
  clear hT ha
  go_enter Tryd.func7, Tryd.ntmps7
  go_upto_region 16 with (first | (go_at_call 8; refine (alive_any _ HT.out.1).mono ?_; rintro e w1 ⟨rfl, hb1⟩) | (go_at_call 17; (with_reducible refine (ref_any a _).mono ?_); rintro e w2 ⟨rfl, hb2⟩) | (go_at_call 17; (with_reducible refine (ref_any b _).mono ?_); rintro e w3 ⟨rfl, hb3⟩) | (go_at_call 14; refine (fix_any b _).mono ?_; rintro e w5 ⟨rfl, hb5⟩))
  obtain ⟨hL1, hL2, hL3⟩ := leaf_world (kind := 11) (by assumption) hb3 hb2 hb5 (.cells #[.int .i64 2, .int .i64 a, .int .i64 1, .int .i64 b] 51) (G := #[.slice (some ⟨w5.heap.size + 1, 0, none⟩) 1 1, .slice none 0 0])
  generalize World.alloc (World.alloc (World.alloc w5 _) _) _ = W6 at *
  have hb6 := hb1.trans (hL1.mono hb1.size)
  have hT6 := HT.out.1.below hb6 (Nat.le_refl _)
  have hS : ∀ W, Below W6.heap.size W6 W → (W.cell? ⟨w5.heap.size + 1 + 1, 0, none⟩ = some (.slice (some ⟨w5.heap.size + 1, 0, none⟩) 1 1) ∧ W.cell? ⟨w5.heap.size + 1 + 1, 1, none⟩ = some (.slice none 0 0)) := fun W hW => by
    have h := blk_below hW hL3 (blk_lt hL3)
    exact ⟨bc h 0, bc h 1⟩
  have hC17 : ∀ W, Below W6.heap.size W6 W → Calls Tryd.prog 17 #[.int .i64 5] W fun e w' => e = .returned (.agg #[.int .i64 2, .int .i64 5]) ∧ Below W.heap.size W w' ∧ Below W6.heap.size W6 w' := fun W hW => by
    refine (ref_any 5 W).mono ?_
    rintro e w' ⟨rfl, hb⟩
    exact ⟨rfl, hb, hW.trans (hb.mono hW.size)⟩
  have hC12 : ∀ W, Below W6.heap.size W6 W → Calls Tryd.prog 12 #[.agg #[.slice (some ⟨w5.heap.size + 1, 0, none⟩) 1 1, .slice none 0 0], .agg #[.int .i64 2, .int .i64 5]] W fun e w' => e = .returned (.tuple #[.string ⟨#[35, 60, 102, 114, 97, 109, 101, 62]⟩, .agg #[.int .i64 0, .int .i64 0]]) ∧ Below W.heap.size W w' ∧ Below W6.heap.size W6 w' := fun W hW => by
    refine (graph_leaf W _ 11 a b (by omega) (hT6.below hW (Nat.le_refl _)) (hL2.below hW (Nat.le_refl _)) HT.out.2).mono ?_
    rintro e w' ⟨rfl, hb⟩
    rw [show leafL (leafNd 11 a b) = [35, 60, 102, 114, 97, 109, 101, 62] from by simp [leafL, leafNd]]
    exact ⟨rfl, hb, hW.trans (hb.mono hW.size)⟩
  obtain ⟨q0, q1⟩ := hS W6 (Below.refl _ _)
  have HC17 := Lib.hid hC17
  have HC12 := Lib.hid hC12
  have HS := Lib.hid (And.intro hS hb6)
  have l6 := blk_lt hL3
  have m1 : ¬ w5.heap.size + 1 + 1 = W6.heap.size := by omega
  have m2 : ¬ W6.heap.size = w5.heap.size + 1 + 1 := by omega
  clear hS hC17 hC12 hT6 hL1 hL2 hL3 hb6 hb1 hb2 hb3 hb5
  go_cut [10, 11] (fun s10 s11 wc => s10 = .string ⟨#[35, 60, 102, 114, 97, 109, 101, 62]⟩ ∧ ∃ fb, s11 = .pointer (some ⟨fb, 0, none⟩) ∧ wc.heap[fb]? = some (.cells #[.int .i64 0, .int .i64 0] 38 (0, 0)) ∧ Below W6.heap.size W6 wc)
  case first =>
    go_region_held3 (fun w' => w'.cell? ⟨w5.heap.size + 1 + 1, 0, none⟩ = some (.slice (some ⟨w5.heap.size + 1, 0, none⟩) 1 1) ∧ w'.cell? ⟨w5.heap.size + 1 + 1, 1, none⟩ = some (.slice none 0 0)) (go_keep)
      (first | (go_at_call 17; (with_reducible refine (HC17.out _ ?_).mono ?_); (first | (exact (Below.refl _ _).drew) | go_grown); rintro e w7 ⟨rfl, hb7, hB7⟩; obtain ⟨hc7, hf7⟩ := bcell hb7; obtain ⟨p0, p1⟩ := HS.out.1 _ hB7; have l7 := Nat.lt_of_lt_of_le l6 hB7.size; have m3 := Nat.ne_of_lt l7; have m4 := Nat.ne_of_gt l7; have hs7 := hb7.size; (try rw [size_drew] at hs7); (try rw [World.size_alloc] at hs7); (try have e7 : W6.heap.size < w7.heap.size := hs7)) | (go_at_call 12; (with_reducible refine (HC12.out _ ?_).mono ?_); (first | assumption | exact hB7.alloc hB7.size _ | go_grown); rintro e w8 ⟨rfl, hb8, hB8⟩; obtain ⟨hc8, hf8⟩ := bcell hb8; obtain ⟨p2, p3⟩ := HS.out.1 _ hB8; have l8 := Nat.lt_of_lt_of_le l6 hB8.size; have m5 := Nat.ne_of_lt l8; have m6 := Nat.ne_of_gt l8; have hs8 := hb8.size; (try rw [size_drew] at hs8); (try rw [World.size_alloc] at hs8); (try have e8 : w7.heap.size < w8.heap.size := hs8)))
    all_goals
      go_wp2_with fail
      go_meet
      case rel =>
        refine ⟨rfl, ?_⟩
        first
          | with_reducible exact fault_late hB8
          | with_reducible exact fault_early hB7 hb8
          | with_reducible exact fault_first hb7 hb8
  case rest =>
    obtain ⟨rfl, fb, rfl, hfb, hbc⟩ := hcut
    have f0 : wc.cell? ⟨fb, 0, none⟩ = some (.int .i64 0) := bc hfb 0
    have f1 : wc.cell? ⟨fb, 1, none⟩ = some (.int .i64 0) := bc hfb 1
    have HB := Lib.hid (HS.out.2.trans (hbc.mono HS.out.2.size))
    clear hfb hbc m1 m2 q0 q1 l6
    go_wp2_with (go_at_call 16; refine (good_any 0 0 _).mono ?_; rintro e w9 ⟨rfl, hb9⟩)
    go_ret
    exact ⟨rfl, HB.out.trans (hb9.mono HB.out.size)⟩
set_option maxRecDepth 100000 in
set_option maxHeartbeats 1000000 in
theorem leaves_none (kind a b : Int) (w : World) (hT : Tabs w) (hk : ¬ (kind = 7 ∨ kind = 8 ∨ kind = 9 ∨ kind = 10 ∨ kind = 11)) :
    Calls Tryd.prog 7 #[.int .i64 kind, .int .i64 a, .int .i64 b] w fun e w' => e = .returned (.bool true) ∧ Below w.heap.size w w' := by
  have HT := Lib.hid hT
  have h7 : (kind == 7) = false := by simp; omega
  have h8 : (kind == 8) = false := by simp; omega
  have h9 : (kind == 9) = false := by simp; omega
  have h10 : (kind == 10) = false := by simp; omega
  have h11 : (kind == 11) = false := by simp; omega
  clear hT hk
  go_enter Tryd.func7, Tryd.ntmps7
  go_wp2_with (go_at_call 8; refine (alive_any _ HT.out).mono ?_; rintro e w1 ⟨rfl, hb1⟩)
  go_ret
  exact ⟨rfl, hb1⟩
theorem leaves_any (kind a b : Int) (w : World) (hT : Tabs w) (ha : IntOk a) : Calls Tryd.prog 7 #[.int .i64 kind, .int .i64 a, .int .i64 b] w fun e w' => e = .returned (.bool true) ∧ Below w.heap.size w w' := by
  by_cases hk : kind = 7 ∨ kind = 8 ∨ kind = 9 ∨ kind = 10 ∨ kind = 11
  · rcases hk with rfl | rfl | rfl | rfl | rfl
    · exact leaves_7 a b w hT ha
    · exact leaves_8 a b w hT ha
    · exact leaves_9 a b w hT ha
    · exact leaves_10 a b w hT ha
    · exact leaves_11 a b w hT ha
  · exact leaves_none kind a b w hT hk
end Go.Proofs.YtpejmgellidhbaaDoor
