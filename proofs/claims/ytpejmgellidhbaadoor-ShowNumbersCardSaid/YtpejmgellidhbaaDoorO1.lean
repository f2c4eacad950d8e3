/- The graph that ShowNumbers builds, in memory: it grows node by node; a node's numbers are the given node's own. -/
import Derived.Test.YtpejmgellidhbaaDoorN9
import Derived.Test.YtpejmgellidhbaaDoorL3
namespace Go.Proofs.YtpejmgellidhbaaDoor
open Go.RowKit

/-- A node with the values of its numbers and of its fields. -/
abbrev NRec := Nd × Value × Value
def recC (p : NRec) : List Value := [.int .i64 p.1.id, .int .i64 p.1.kind, p.2.1, p.2.2, .slice none 0 0]
def recsC (ps : List NRec) : List Value := ps.flatMap recC
theorem recsC_snoc (ps : List NRec) (p : NRec) : recsC (ps ++ [p]) = recsC ps ++ recC p := by simp [recsC]
theorem recsC_at (ps : List NRec) : ∀ j, (h : j < ps.length) → ∀ i, i < 5 → (recsC ps)[j * 5 + i]? = (recC ps[j])[i]? := by
  induction ps with
  | nil => intro j h; simp at h
  | cons p r ih =>
    intro j h i hi
    have hl : (recC p).length = 5 := rfl
    have e : recsC (p :: r) = recC p ++ recsC r := by simp [recsC]
    rw [e]
    cases j with
    | zero =>
      rw [List.getElem?_append_left (by rw [hl]; omega)]
      simp
    | succ j =>
      rw [List.getElem?_append_right (by rw [hl]; omega), hl, show (j + 1) * 5 + i - 5 = j * 5 + i by omega]
      exact ih j (by simpa using h) i hi
theorem own_same {w w' : World} {B e size n : Nat} {v : Value} {xs : List Value} (h : w.ownsRow B e size v n xs) (hk : ∀ b, v.ownBlock = some b → w'.heap[b]? = w.heap[b]?) : w'.ownsRow B e size v n xs := by
  refine ⟨h.1, ?_⟩
  rcases h.2 with hn | ⟨b, cap, cur, rfl, hb, hg, rest⟩
  · exact .inl hn
  · exact .inr ⟨b, cap, cur, rfl, hb, (hk b rfl).trans hg, rest⟩
theorem own_base {w : World} {B B' e size n : Nat} {v : Value} {xs : List Value} (h : w.ownsRow B e size v n xs) (hb : B' ≤ B) : w.ownsRow B' e size v n xs := by
  refine ⟨h.1, ?_⟩
  rcases h.2 with hn | ⟨b, cap, cur, rfl, hb2, rest⟩
  · exact .inl hn
  · exact .inr ⟨b, cap, cur, rfl, by omega, rest⟩
theorem own_blk {w : World} {B e size n : Nat} {v : Value} {xs : List Value} (h : w.ownsRow B e size v n xs) : ∀ k, v.ownBlock = some k → B ≤ k ∧ ∃ cs, w.heap[k]? = some (.cells cs e (0, 0)) := by
  intro k hk
  rcases h.2 with ⟨rfl, -⟩ | ⟨g, cap, cur, rfl, hb, hg, -⟩
  · cases hk
  · cases hk
    exact ⟨hb, _, hg⟩
/-- A row of values reads as values. -/
theorem own_vals {w : World} {B : Nat} {v : Value} {xs : List (Int × Int)} (h : w.ownsRow B 27 2 v xs.length (valCells xs)) (hl : xs.length ≤ 1000000) : RdVals w v xs := by
  rcases h.2 with ⟨rfl, h0⟩ | ⟨b, cap, cur, rfl, hb, hg, hn, hc, hcs, ht⟩
  · rw [List.length_eq_zero_iff] at h0
    subst h0
    exact ⟨none, 0, rfl, by simp, fun h => by simp at h⟩
  · refine ⟨some ⟨b, 0, none⟩, cap, rfl, by omega, fun _ => ⟨b, 0, rfl, blk_lt hg, fun j hj => ?_⟩⟩
    have h3 := valCells_at xs j hj
    rw [← ht, List.getElem?_take, List.getElem?_take, if_pos (by omega), if_pos (by omega)] at h3
    rw [bc hg, bc hg, Nat.zero_add]
    simpa using h3
structure GrIn (w0 w : World) (g : Nat) (sv : Value) (ps : List NRec) : Prop where
  own : w.heap[g]? = some (.cells #[sv, .slice none 0 0] 25 (0, 0))
  ge : w0.heap.size ≤ g
  row : w.ownsRow w0.heap.size 34 5 sv ps.length (recsC ps)
  nds : ∀ p ∈ ps, RdInts w0 p.2.1 p.1.raw ∧ w.ownsRow w0.heap.size 27 2 p.2.2 p.1.fields.length (valCells p.1.fields) ∧ p.1.fields.length ≤ 20000
section
variable {w0 w w' : World} {g : Nat} {sv : Value} {ps : List NRec}
theorem GrIn.lt (h : GrIn w0 w g sv ps) {k : Nat} (hk : k = g ∨ sv.ownBlock = some k ∨ (∃ p ∈ ps, p.2.2.ownBlock = some k)) : k < w.heap.size := by
  rcases hk with rfl | hk | ⟨p, hp, hk⟩
  · exact blk_lt h.own
  · obtain ⟨_, cs, hcs⟩ := own_blk h.row k hk
    exact blk_lt hcs
  · obtain ⟨_, cs, hcs⟩ := own_blk (h.nds p hp).2.1 k hk
    exact blk_lt hcs
theorem GrIn.kept (h : GrIn w0 w g sv ps) (hk : ∀ k, k = g ∨ sv.ownBlock = some k ∨ (∃ p ∈ ps, p.2.2.ownBlock = some k) → w'.heap[k]? = w.heap[k]?) : GrIn w0 w' g sv ps :=
  ⟨(hk g (.inl rfl)).trans h.own, h.ge, own_same h.row fun b hb => hk b (.inr (.inl hb)), fun p hp => ⟨(h.nds p hp).1, own_same (h.nds p hp).2.1 fun b hb => hk b (.inr (.inr ⟨p, hp, hb⟩)), (h.nds p hp).2.2⟩⟩
theorem GrIn.below (h : GrIn w0 w g sv ps) (hb : Below w.heap.size w w') : GrIn w0 w' g sv ps := h.kept fun k hk => hb.block k (h.lt hk)
/-- A node more: w is the world ahead of the append, w' that just ahead of it (the node's cells are laid), w3 that behind it. -/
theorem GrIn.add {w3 : World} (h : GrIn w0 w g sv ps) (hs : w0.heap.size ≤ w.heap.size) (hb : Below w.heap.size w w') {p : NRec} (hp : RdInts w0 p.2.1 p.1.raw ∧ w.ownsRow w0.heap.size 27 2 p.2.2 p.1.fields.length (valCells p.1.fields) ∧ p.1.fields.length ≤ 20000) {v1 : Value} {n : Nat} (hn : n = ps.length + 1)
    (hown : w3.ownsRow w0.heap.size 34 5 v1 n (recsC ps ++ recC p)) (hg : w'.grownBy w3 sv.ownBlock) :
    GrIn w0 (w3.setCell ⟨g, 0, none⟩ v1) g v1 (ps ++ [p]) ∧ Below w0.heap.size w (w3.setCell ⟨g, 0, none⟩ v1) := by
  subst hn
  have h2 := h.below hb
  have hgg : ∀ {k : Nat} {cs : Array Value} {T : TypeId}, w'.heap[k]? = some (.cells cs T (0, 0)) → T ≠ 34 → w3.heap[k]? = some (.cells cs T (0, 0)) := fun {k cs T} hk hT => by
    refine (hg.block k (blk_lt hk) fun e => ?_).trans hk
    obtain ⟨_, cs', hcs⟩ := own_blk h2.row k e.symm
    rw [hcs] at hk
    simp only [Option.some.injEq, Obj.cells.injEq] at hk
    exact hT hk.2.1.symm
  have hne : ∀ {k : Nat} {cs : Array Value} {T : TypeId}, w3.heap[k]? = some (.cells cs T (0, 0)) → T ≠ 25 → k ≠ g := fun {k cs T} hk hT e => by
    subst e
    rw [hgg h2.own (by decide)] at hk
    simp only [Option.some.injEq, Obj.cells.injEq] at hk
    exact hT hk.2.1.symm
  have hfar : ∀ {q : NRec}, w'.ownsRow w0.heap.size 27 2 q.2.2 q.1.fields.length (valCells q.1.fields) → (w3.setCell ⟨g, 0, none⟩ v1).ownsRow w0.heap.size 27 2 q.2.2 q.1.fields.length (valCells q.1.fields) := fun {q} hq => by
    refine own_same hq fun b hbq => ?_
    obtain ⟨_, cs, hcs⟩ := own_blk hq b hbq
    rw [hcs]
    exact hs_ne (a := ⟨g, 0, none⟩) (hne (hgg hcs (by decide)) (by decide)) (hgg hcs (by decide))
  refine ⟨⟨hs_same (hgg h2.own (by decide)), h.ge, ?_, fun q hq => ?_⟩, ?_⟩
  · rw [recsC_snoc, List.length_append]
    refine own_same hown fun b hbq => ?_
    obtain ⟨_, cs, hcs⟩ := own_blk hown b hbq
    rw [hcs]
    exact hs_ne (a := ⟨g, 0, none⟩) (hne hcs (by decide)) hcs
  · rcases List.mem_append.1 hq with hq | hq
    · have h1 := h2.nds q hq
      exact ⟨h1.1, hfar h1.2.1, h1.2.2⟩
    · rw [List.mem_singleton] at hq
      subst hq
      refine ⟨hp.1, hfar (own_same hp.2.1 fun b hbq => ?_), hp.2.2⟩
      obtain ⟨_, cs, hcs⟩ := own_blk hp.2.1 b hbq
      exact hb.block b (blk_lt hcs)
  · exact ((hb.mono hs).grown hg (Nat.le_trans hs hb.size) fun k hk => (own_blk h2.row k hk).1).setCell h.ge _
theorem GrIn.rd (h : GrIn w0 w g sv ps) (hb : Below w0.heap.size w0 w) (hl : ps.length ≤ 1000000) : RdNodes w sv (ps.map (·.1)) := by
  rcases h.row.2 with ⟨rfl, h0⟩ | ⟨b, cap, cur, rfl, hb2, hg, hn, hc, hcs, ht⟩
  · rw [List.length_eq_zero_iff] at h0
    subst h0
    exact nodes_nil w
  · have hlm : (ps.map (·.1)).length = ps.length := by simp
    refine ⟨some ⟨b, 0, none⟩, cap, by rw [hlm], by rw [hlm]; omega, fun _ => ⟨b, 0, rfl, blk_lt hg, fun j hj => ?_⟩⟩
    rw [hlm] at hj
    have hcell : ∀ i, i < 5 → w.cell? ⟨b, 0 + j * 5 + i, none⟩ = (recC ps[j])[i]? := fun i hi => by
      rw [bc hg, Nat.zero_add]
      have e := recsC_at ps j hj i hi
      rw [← ht, List.getElem?_take, if_pos (by omega)] at e
      simpa using e
    have hp := h.nds ps[j] (List.getElem_mem hj)
    have e : (ps.map (·.1))[j]'(by rw [hlm]; exact hj) = ps[j].1 := by simp
    rw [e]
    exact ⟨ps[j].2.1, ps[j].2.2, .slice none 0 0, (hcell 0 (by omega)).trans rfl, (hcell 1 (by omega)).trans rfl, (hcell 2 (by omega)).trans rfl, (hcell 3 (by omega)).trans rfl, (hcell 4 (by omega)).trans rfl, hp.1.below hb (Nat.le_refl _), own_vals hp.2.1 (by omega), none, 0, 0, rfl⟩
end
end Go.Proofs.YtpejmgellidhbaaDoor
