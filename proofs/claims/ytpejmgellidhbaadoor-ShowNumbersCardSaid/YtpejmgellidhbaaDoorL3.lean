/- A graph in memory that grows node by node. -/
import Derived.Test.YtpejmgellidhbaaDoorL2
namespace Go.Proofs.YtpejmgellidhbaaDoor
open Go.RowKit

def valCells (xs : List (Int × Int)) : List Value := xs.flatMap fun x => [.int .i64 x.1, .int .i64 x.2]
def ndCells (nd : Nd) (f : Nat) : List Value := [.int .i64 nd.id, .int .i64 nd.kind, .slice none 0 0, .slice (some ⟨f, 0, none⟩) nd.fields.length nd.fields.length, .slice none 0 0]
def rowC (ps : List (Nd × Nat)) : List Value := ps.flatMap fun p => ndCells p.1 p.2
theorem valCells_at (xs : List (Int × Int)) : ∀ j, (h : j < xs.length) → (valCells xs)[j * 2]? = some (.int .i64 xs[j].1) ∧ (valCells xs)[j * 2 + 1]? = some (.int .i64 xs[j].2) := by
  induction xs with
  | nil => intro j h; simp at h
  | cons x r ih =>
    intro j h
    cases j with
    | zero => simp [valCells]
    | succ j =>
      have h2 := ih j (by simpa using h)
      rw [show (j + 1) * 2 = j * 2 + 1 + 1 by omega]
      simpa [valCells] using h2
theorem rowC_snoc (ps : List (Nd × Nat)) (p : Nd × Nat) : rowC (ps ++ [p]) = rowC ps ++ ndCells p.1 p.2 := by simp [rowC]
theorem rowC_at (ps : List (Nd × Nat)) : ∀ j, (h : j < ps.length) → ∀ i, i < 5 → (rowC ps)[j * 5 + i]? = (ndCells ps[j].1 ps[j].2)[i]? := by
  induction ps with
  | nil => intro j h; simp at h
  | cons p r ih =>
    intro j h i hi
    have hl : (ndCells p.1 p.2).length = 5 := rfl
    have e : rowC (p :: r) = ndCells p.1 p.2 ++ rowC r := by simp [rowC]
    rw [e]
    cases j with
    | zero =>
      rw [List.getElem?_append_left (by rw [hl]; omega)]
      simp
    | succ j =>
      rw [List.getElem?_append_right (by rw [hl]; omega), hl, show (j + 1) * 5 + i - 5 = j * 5 + i by omega]
      exact ih j (by simpa using h) i hi
structure GraphIn (B : Nat) (w : World) (g : Nat) (sv : Value) (ps : List (Nd × Nat)) : Prop where
  own : w.heap[g]? = some (.cells #[sv, .slice none 0 0] 25 (0, 0))
  ge : B ≤ g
  row : w.ownsRow B 34 5 sv ps.length (rowC ps)
  fs : ∀ p ∈ ps, B ≤ p.2 ∧ w.heap[p.2]? = some (.cells (valCells p.1.fields).toArray 27 (0, 0))
/-- Every block that lay is as it was, but for two. -/
structure Turned (W w' : World) (g : Nat) (o : Option Nat) : Prop where
  size : W.heap.size ≤ w'.heap.size
  block : ∀ k, k < W.heap.size → k ≠ g → some k ≠ o → w'.heap[k]? = W.heap[k]?
section
variable {B : Nat} {w w' : World} {g : Nat} {sv : Value} {ps : List (Nd × Nat)}
theorem row34 {n : Nat} {xs : List Value} (h : w.ownsRow B 34 5 sv n xs) : ∀ k, sv.ownBlock = some k → B ≤ k ∧ ∃ cs, w.heap[k]? = some (.cells cs 34 (0, 0)) := by
  intro k hk
  rcases h.2 with ⟨rfl, -⟩ | ⟨g, cap, cur, rfl, hb, hg, -⟩
  · cases hk
  · cases hk
    exact ⟨hb, _, hg⟩
theorem GraphIn.kept (h : GraphIn B w g sv ps) (hk : ∀ k, k = g ∨ sv.ownBlock = some k ∨ (∃ p ∈ ps, p.2 = k) → w'.heap[k]? = w.heap[k]?) : GraphIn B w' g sv ps := by
  refine ⟨(hk g (.inl rfl)).trans h.own, h.ge, ⟨h.row.1, ?_⟩, fun p hp => ⟨(h.fs p hp).1, (hk p.2 (.inr (.inr ⟨p, hp, rfl⟩))).trans (h.fs p hp).2⟩⟩
  rcases h.row.2 with hn | ⟨b, cap, cur, rfl, hb, hg, rest⟩
  · exact .inl hn
  · exact .inr ⟨b, cap, cur, rfl, hb, (hk b (.inr (.inl rfl))).trans hg, rest⟩
theorem GraphIn.lt (h : GraphIn B w g sv ps) {k : Nat} (hk : k = g ∨ sv.ownBlock = some k ∨ (∃ p ∈ ps, p.2 = k)) : k < w.heap.size := by
  rcases hk with rfl | hk | ⟨p, hp, rfl⟩
  · exact blk_lt h.own
  · obtain ⟨_, cs, hcs⟩ := row34 h.row k hk
    exact blk_lt hcs
  · exact blk_lt (h.fs p hp).2
theorem GraphIn.below (h : GraphIn B w g sv ps) (hb : Below w.heap.size w w') : GraphIn B w' g sv ps :=
  h.kept fun k hk => hb.block k (h.lt hk)
/-- Another graph has grown. -/
theorem GraphIn.other (h : GraphIn B w g sv ps) {g' : Nat} {sv' : Value} {ps' : List (Nd × Nat)} (h' : GraphIn B w g' sv' ps') (hne : g ≠ g') (hrow : ∀ k, sv.ownBlock = some k → sv'.ownBlock ≠ some k) (ht : Turned w w' g' sv'.ownBlock) : GraphIn B w' g sv ps := by
  have hd : ∀ {k : Nat} {c1 c2 : Array Value} {T1 T2 : TypeId}, w.heap[k]? = some (.cells c1 T1 (0, 0)) → w.heap[k]? = some (.cells c2 T2 (0, 0)) → T1 = T2 := fun h1 h2 => by
    rw [h1] at h2
    simp only [Option.some.injEq, Obj.cells.injEq] at h2
    exact h2.2.1
  refine h.kept fun k hk => ht.block k (h.lt hk) ?_ ?_
  · rintro rfl
    rcases hk with rfl | hk | ⟨p, hp, e⟩
    · exact hne rfl
    · obtain ⟨_, cs, hcs⟩ := row34 h.row _ hk
      exact absurd (hd hcs h'.own) (by decide)
    · have h1 := (h.fs p hp).2
      rw [e] at h1
      exact absurd (hd h1 h'.own) (by decide)
  · intro e
    obtain ⟨_, cs, hcs⟩ := row34 h'.row k e.symm
    rcases hk with rfl | hk | ⟨p, hp, e2⟩
    · exact absurd (hd hcs h.own) (by decide)
    · exact hrow k hk e.symm
    · have h1 := (h.fs p hp).2
      rw [e2] at h1
      exact absurd (hd hcs h1) (by decide)
/-- A node more: W' is the world just ahead of the append. -/
theorem GraphIn.add {W W' w3 : World} (h : GraphIn B W g sv ps) (hB : B ≤ W.heap.size) (hb : Below W.heap.size W W') {nd : Nd} {f : Nat} (hf : W'.heap[f]? = some (.cells (valCells nd.fields).toArray 27 (0, 0))) (hfB : B ≤ f) {v1 : Value} {n : Nat} (hn : n = ps.length + 1)
    (hown : w3.ownsRow B 34 5 v1 n (rowC ps ++ ndCells nd f)) (hg : W'.grownBy w3 sv.ownBlock) :
    GraphIn B (w3.setCell ⟨g, 0, none⟩ v1) g v1 (ps ++ [(nd, f)]) ∧ Turned W (w3.setCell ⟨g, 0, none⟩ v1) g sv.ownBlock ∧ Below B W (w3.setCell ⟨g, 0, none⟩ v1) := by
  subst hn
  have h2 := h.below hb
  have hgg : ∀ {k : Nat} {cs : Array Value} {T : TypeId}, W'.heap[k]? = some (.cells cs T (0, 0)) → T ≠ 34 → w3.heap[k]? = some (.cells cs T (0, 0)) := fun {k cs T} hk hT => by
    refine (hg.block k (blk_lt hk) fun e => ?_).trans hk
    obtain ⟨_, cs', hcs⟩ := row34 h2.row k e.symm
    rw [hcs] at hk
    simp only [Option.some.injEq, Obj.cells.injEq] at hk
    exact hT hk.2.1.symm
  have hne : ∀ {k : Nat} {cs : Array Value} {T : TypeId}, w3.heap[k]? = some (.cells cs T (0, 0)) → T ≠ 25 → k ≠ g := fun {k cs T} hk hT e => by
    subst e
    rw [hgg h2.own (by decide)] at hk
    simp only [Option.some.injEq, Obj.cells.injEq] at hk
    exact hT hk.2.1.symm
  refine ⟨⟨hs_same (hgg h2.own (by decide)), h.ge, ?_, fun p hp => ?_⟩, ⟨?_, fun k hk hkg hko => ?_⟩, ?_⟩
  · rw [rowC_snoc, List.length_append]
    refine ⟨hown.1, ?_⟩
    rcases hown.2 with hn | ⟨b, cap, cur, rfl, hb2, hg2, rest⟩
    · exact .inl hn
    · exact .inr ⟨b, cap, cur, rfl, hb2, hs_ne (a := ⟨g, 0, none⟩) (hne hg2 (by decide)) hg2, rest⟩
  · rcases List.mem_append.1 hp with hp | hp
    · have h1 := (h2.fs p hp).2
      exact ⟨(h2.fs p hp).1, hs_ne (a := ⟨g, 0, none⟩) (hne (hgg h1 (by decide)) (by decide)) (hgg h1 (by decide))⟩
    · rw [List.mem_singleton] at hp
      subst hp
      exact ⟨hfB, hs_ne (a := ⟨g, 0, none⟩) (hne (hgg hf (by decide)) (by decide)) (hgg hf (by decide))⟩
  · rw [World.size_setCell]
    exact Nat.le_trans hb.size hg.size
  · rw [Below.heap_setCell _ _ _ _ hkg, hg.block k (Nat.lt_of_lt_of_le hk hb.size) hko, hb.block k hk]
  · exact ((hb.mono hB).grown hg (Nat.le_trans hB hb.size) fun k hk => (row34 h2.row k hk).1).setCell h.ge _
theorem GraphIn.two (h : GraphIn B w g sv ps) (F N : Obj) : GraphIn B ((w.alloc F).alloc N) g sv ps := h.below (((Below.refl _ _).alloc (Nat.le_refl _) _).alloc (by simp) _)
theorem GraphIn.grown_own (h : GraphIn B w g sv ps) (hg : w.grownBy w' sv.ownBlock) : w'.heap[g]? = some (.cells #[sv, .slice none 0 0] 25 (0, 0)) := by
  refine (hg.block g (blk_lt h.own) fun e => ?_).trans h.own
  obtain ⟨_, cs, hcs⟩ := row34 h.row g e.symm
  rw [h.own] at hcs
  simp at hcs
theorem GraphIn.own_ne (h : GraphIn B w g sv ps) {sv1 v1 : Value} (hne : ∀ b, sv1.ownBlock = some b → sv.ownBlock ≠ some b) (ho : v1.ownBlock = sv1.ownBlock ∨ ∃ b, v1.ownBlock = some b ∧ w.heap.size ≤ b) : ∀ b, v1.ownBlock = some b → sv.ownBlock ≠ some b := by
  intro b hb e
  rcases ho with ho | ⟨c, hc, hl⟩
  · rw [ho] at hb
    exact hne b hb e
  · rw [hb, Option.some.injEq] at hc
    subst hc
    have := h.lt (.inr (.inl e))
    omega
theorem GraphIn.var (h : GraphIn B w g sv ps) {b : Nat} {cs : Array Value} (hb : w.heap[b]? = some (.cells cs 27 (0, 0))) (ht : Turned w w' g sv.ownBlock) : w'.heap[b]? = some (.cells cs 27 (0, 0)) := by
  refine (ht.block b (blk_lt hb) ?_ fun e => ?_).trans hb
  · rintro rfl
    rw [h.own] at hb
    simp at hb
  · obtain ⟨_, cs', hcs⟩ := row34 h.row b e.symm
    rw [hcs] at hb
    simp at hb
theorem ne_swap {o1 o2 : Option Nat} (h : ∀ b, o1 = some b → o2 ≠ some b) : ∀ b, o2 = some b → o1 ≠ some b := fun b h2 h1 => h b h1 h2
theorem GraphIn.rd (h : GraphIn B w g sv ps) (hraw : ∀ p ∈ ps, p.1.raw = [] ∧ p.1.fields.length ≤ 1000) (hl : ps.length ≤ 1000000) : RdNodes w sv (ps.map (·.1)) := by
  rcases h.row.2 with ⟨rfl, h0⟩ | ⟨b, cap, cur, rfl, hb, hg, hn, hc, hcs, ht⟩
  · rw [List.length_eq_zero_iff] at h0
    subst h0
    exact nodes_nil w
  · have hlm : (ps.map (·.1)).length = ps.length := by simp
    refine ⟨some ⟨b, 0, none⟩, cap, by rw [hlm], by rw [hlm]; omega, fun _ => ⟨b, 0, rfl, blk_lt hg, fun j hj => ?_⟩⟩
    rw [hlm] at hj
    have hcell : ∀ i, i < 5 → w.cell? ⟨b, 0 + j * 5 + i, none⟩ = (ndCells ps[j].1 ps[j].2)[i]? := fun i hi => by
      rw [bc hg, Nat.zero_add]
      have e := rowC_at ps j hj i hi
      rw [← ht, List.getElem?_take, if_pos (by omega)] at e
      simpa using e
    have hp := h.fs ps[j] (List.getElem_mem hj)
    have hr := hraw ps[j] (List.getElem_mem hj)
    have e : (ps.map (·.1))[j]'(by rw [hlm]; exact hj) = ps[j].1 := by simp
    rw [e]
    refine ⟨.slice none 0 0, .slice (some ⟨ps[j].2, 0, none⟩) ps[j].1.fields.length ps[j].1.fields.length, .slice none 0 0, (hcell 0 (by omega)).trans rfl, (hcell 1 (by omega)).trans rfl, (hcell 2 (by omega)).trans rfl, (hcell 3 (by omega)).trans rfl, (hcell 4 (by omega)).trans rfl, ?_, ?_, none, 0, 0, rfl⟩
    · rw [hr.1]
      exact ⟨none, 0, rfl, by simp, fun h => by simp at h⟩
    · refine ⟨_, _, rfl, by omega, fun _ => ⟨ps[j].2, 0, rfl, blk_lt hp.2, fun i hi => ?_⟩⟩
      have h3 := valCells_at ps[j].1.fields i hi
      rw [bc hp.2, bc hp.2, Nat.zero_add]
      simpa using h3
end
end Go.Proofs.YtpejmgellidhbaaDoor
