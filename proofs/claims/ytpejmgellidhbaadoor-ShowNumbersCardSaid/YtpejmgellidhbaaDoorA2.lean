/- What a node's slices read as; the functions field, raw, made, Imm of show and value. -/
import Derived.Test.YtpejmgellidhbaaDoorA1
namespace Go.Proofs.YtpejmgellidhbaaDoor
open Go.RowKit

/-- A slice of values reads as this list of pairs (kind, number). -/
def RdVals (w : World) (v : Value) (xs : List (Int × Int)) : Prop :=
  ∃ A c, v = .slice A xs.length c ∧ xs.length ≤ 140737488351232 ∧ (0 < xs.length → ∃ b o, A = some ⟨b, o, none⟩ ∧ b < w.heap.size ∧
    ∀ j, (h : j < xs.length) → w.cell? ⟨b, o + j * 2, none⟩ = some (.int .i64 xs[j].1) ∧ w.cell? ⟨b, o + j * 2 + 1, none⟩ = some (.int .i64 xs[j].2))
/-- A slice of whole numbers reads as this list. -/
def RdInts (w : World) (v : Value) (xs : List Int) : Prop :=
  ∃ A c, v = .slice A xs.length c ∧ xs.length ≤ 140737488351232 ∧ (0 < xs.length → ∃ b o, A = some ⟨b, o, none⟩ ∧ b < w.heap.size ∧
    ∀ j, (h : j < xs.length) → w.cell? ⟨b, o + j, none⟩ = some (.int .i64 xs[j]))

theorem RdVals.below {w w' : World} {v : Value} {xs : List (Int × Int)} (h : RdVals w v xs) {B : Nat} (hb : Below B w w') (hB : w.heap.size ≤ B) : RdVals w' v xs := by
  obtain ⟨A, c, e, hl, hc⟩ := h
  refine ⟨A, c, e, hl, fun h0 => ?_⟩
  obtain ⟨b, o, e2, hlt, hr⟩ := hc h0
  exact ⟨b, o, e2, Nat.lt_of_lt_of_le hlt hb.size, fun j hj => ⟨(hb.cell (p := ⟨b, _, none⟩) (by simp; omega)).trans (hr j hj).1, (hb.cell (p := ⟨b, _, none⟩) (by simp; omega)).trans (hr j hj).2⟩⟩
theorem RdInts.below {w w' : World} {v : Value} {xs : List Int} (h : RdInts w v xs) {B : Nat} (hb : Below B w w') (hB : w.heap.size ≤ B) : RdInts w' v xs := by
  obtain ⟨A, c, e, hl, hc⟩ := h
  refine ⟨A, c, e, hl, fun h0 => ?_⟩
  obtain ⟨b, o, e2, hlt, hr⟩ := hc h0
  exact ⟨b, o, e2, Nat.lt_of_lt_of_le hlt hb.size, fun j hj => (hb.cell (p := ⟨b, _, none⟩) (by simp; omega)).trans (hr j hj)⟩

theorem ret_val {a b c d : Int} (h1 : a = c) (h2 : b = d) : Ending.returned (.agg #[.int .i64 a, .int .i64 b]) = .returned (.agg #[.int .i64 c, .int .i64 d]) := by rw [h1, h2]

def madeM (k n : Int) : Int × Int := if validB k n then (k, n) else (0, 0)
def vv (x : Int × Int) : Value := .agg #[.int .i64 x.1, .int .i64 x.2]

theorem bcell {W w1 : World} (hb : Below W.heap.size W w1) : (∀ b o, b < W.heap.size → w1.cell? ⟨b, o, none⟩ = W.cell? ⟨b, o, none⟩) ∧ (∀ b o, b < W.heap.size → w1.frozen? ⟨b, o, none⟩ = W.frozen? ⟨b, o, none⟩) :=
  ⟨fun b o h => hb.cell (p := ⟨b, o, none⟩) h, fun b o h => hb.frozen (p := ⟨b, o, none⟩) h⟩

theorem hid {p : Prop} (h : p) : Hid p := h
/-! Blocks behind stores and new blocks. -/
theorem hs_same {w : World} {b i : Nat} {c : Array Value} {T : TypeId} {fr : Nat × Nat} {v : Value} (h : w.heap[b]? = some (.cells c T fr)) :
    (w.setCell ⟨b, i, none⟩ v).heap[b]? = some (.cells (c.setIfInBounds i v) T fr) := by
  simp [World.setCell, Array.getElem?_modify, h]
theorem hs_ne {w : World} {a : Addr} {b : Nat} {v : Value} (hne : b ≠ a.block) {o : Option Obj} (h : w.heap[b]? = o) : (w.setCell a v).heap[b]? = o := (Below.heap_setCell w a v b hne).trans h
theorem ha_old {w : World} {b : Nat} {x o : Obj} (h : w.heap[b]? = some o) : (w.alloc x).heap[b]? = some o :=
  (Below.heap_alloc w x b (Array.getElem?_eq_some_iff.1 h).1).trans h
theorem ha_new (w : World) (o : Obj) : (w.alloc o).heap[w.heap.size]? = some o := heap_alloc_new w o
theorem blk_lt {w : World} {b : Nat} {o : Obj} (h : w.heap[b]? = some o) : b < w.heap.size := (Array.getElem?_eq_some_iff.1 h).1
theorem blk_below {w w1 : World} {B b : Nat} {o : Obj} (hb : Below B w w1) (h : w.heap[b]? = some o) (hB : b < B) : w1.heap[b]? = some o := (hb.block b hB).trans h
theorem bc {w : World} {b : Nat} {c : Array Value} {T : TypeId} {fr : Nat × Nat} (h : w.heap[b]? = some (.cells c T fr)) (i : Nat) : w.cell? ⟨b, i, none⟩ = c[i]? := by
  simp [World.cell?, h]
theorem bf {w : World} {b : Nat} {c : Array Value} {T : TypeId} (h : w.heap[b]? = some (.cells c T (0, 0))) (i : Nat) : w.frozen? ⟨b, i, none⟩ = false := by
  simp [World.frozen?, h]

/-- A result that lies in a variable of type 27. -/
theorem load27 {w : World} {b : Nat} {x y : Value} {T : TypeId} {fr : Nat × Nat} (h : w.heap[b]? = some (.cells #[x, y] T fr)) :
    (loadVar 27 ⟨b, 0, none⟩).run Tryd.prog w = .ok (.agg #[x, y]) w := by
  have h0 := bc h 0
  have h1 := bc h 1
  simp at h0 h1
  go_simp
theorem run_asAddr (w : World) (a : Addr) : (asAddr (.pointer (some a))).run Tryd.prog w = .ok a w := rfl
theorem results_cell1 {fn : Func} {p : Tmp} {ty : TypeId} (h : fn.results = #[.cell p ty]) (tmps : Array Value) (P : Program) (w : World) :
    (results fn tmps).run P w = ((asAddr (tmps.getD p undef)).run P w).andThen fun a w₁ => (loadVar ty a).run P w₁ := by
  simp only [results, h]
  simp [Sem.run_bind, Result.andThen]
theorem res27 {fn : Func} {p : Tmp} (h : fn.results = #[.cell p 27]) {tmps : Array Value} {w : World} {b : Nat} {x y : Value} {T : TypeId} {fr : Nat × Nat}
    (ht : tmps.getD p undef = .pointer (some ⟨b, 0, none⟩)) (hb : w.heap[b]? = some (.cells #[x, y] T fr)) : (results fn tmps).run Tryd.prog w = .ok (.agg #[x, y]) w := by
  refine (results_cell1 h _ _ _).trans ?_
  rw [ht]
  simp only [run_asAddr, Result.andThen]
  exact load27 hb

set_option maxHeartbeats 400000 in
theorem made_any (k n : Int) (w : World) :
    Calls Tryd.prog 56 #[.int .i64 k, .int .i64 n] w fun e w' => e = .returned (vv (madeM k n)) ∧ Below w.heap.size w w' := by
  by_cases hv : validB k n = true
  all_goals
    go_enter Tryd.func56, Tryd.ntmps56
    go_wp2_with (go_at_call 35; refine (valid_any _ _ _).mono ?_; rintro e w1 ⟨rfl, hb1⟩; obtain ⟨hc1, hf1⟩ := bcell hb1)
    have hb := blk_below hb1 (ha_old (ha_new w _)) (by simp; omega)
    refine bodyPost_ret (res27 rfl rfl (hs_same (hs_same hb))) rfl ⟨by simp [madeM, hv, vv], ?_⟩
    exact (((((Below.refl _ _).alloc (Nat.le_refl _) _).alloc (by simp) _).trans (hb1.mono (by simp; omega))).setCell (by simp) _).setCell (by simp) _

set_option maxHeartbeats 400000 in
theorem imm_any (n : Int) (w : World) :
    Calls Tryd.prog 48 #[.int .i64 n] w fun e w' => e = .returned (vv (madeM 3 n)) ∧ Below w.heap.size w w' := by
  go_enter Tryd.func48, Tryd.ntmps48
  go_wp2_with (go_at_call 56; refine (made_any _ _ _).mono ?_; rintro e w1 ⟨rfl, hb1⟩; obtain ⟨hc1, hf1⟩ := bcell hb1; unfold vv)
  have hb := blk_below hb1 (ha_new w _) (by simp)
  refine bodyPost_ret (res27 rfl rfl (hs_same (hs_same hb))) rfl ⟨by simp [vv], ?_⟩
  exact ((((Below.refl _ _).alloc (Nat.le_refl _) _).trans (hb1.mono (by simp))).setCell (by simp) _).setCell (by simp) _

end Go.Proofs.YtpejmgellidhbaaDoor
