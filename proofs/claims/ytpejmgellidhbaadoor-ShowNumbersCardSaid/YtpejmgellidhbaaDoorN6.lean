/- Check of the reference of graphs: what is 0 tells. -/
import Derived.Test.YtpejmgellidhbaaDoorN5
import Derived.StillTailTactics
import Derived.Deep.RegionHeld3
import Derived.Test.YtpejmgellidhbaaDoorQ0
namespace Go.Proofs.YtpejmgellidhbaaDoor
open Go.RowKit

abbrev Ent := (Int × Int) × (Int × Int)
/-- A slice of entries reads as this list. -/
def RdEnts (w : World) (v : Value) (es : List Ent) : Prop :=
  ∃ A c, v = .slice A es.length c ∧ es.length ≤ 140737488351232 ∧ (0 < es.length → ∃ b o, A = some ⟨b, o, none⟩ ∧ b < w.heap.size ∧
    ∀ j, (h : j < es.length) → w.cell? ⟨b, o + j * 4, none⟩ = some (.int .i64 es[j].1.1) ∧ w.cell? ⟨b, o + j * 4 + 1, none⟩ = some (.int .i64 es[j].1.2) ∧
      w.cell? ⟨b, o + j * 4 + 2, none⟩ = some (.int .i64 es[j].2.1) ∧ w.cell? ⟨b, o + j * 4 + 3, none⟩ = some (.int .i64 es[j].2.2))
theorem RdEnts.below {w w' : World} {v : Value} {es : List Ent} (h : RdEnts w v es) {B : Nat} (hb : Below B w w') (hB : w.heap.size ≤ B) : RdEnts w' v es := by
  obtain ⟨A, c, e, hl, hc⟩ := h
  refine ⟨A, c, e, hl, fun h0 => ?_⟩
  obtain ⟨b, o, e2, hlt, hr⟩ := hc h0
  have hq : ∀ k, w'.cell? ⟨b, k, none⟩ = w.cell? ⟨b, k, none⟩ := fun k => hb.cell (p := ⟨b, k, none⟩) (by simp; omega)
  refine ⟨b, o, e2, Nat.lt_of_lt_of_le hlt hb.size, fun j hj => ?_⟩
  obtain ⟨a1, a2, a3, a4⟩ := hr j hj
  exact ⟨(hq _).trans a1, (hq _).trans a2, (hq _).trans a3, (hq _).trans a4⟩
/-- A node with its entries lies at an address. -/
def RdNodeE (w : World) (b o : Nat) (x : Nd × List Ent) : Prop :=
  ∃ rv fv ev, w.cell? ⟨b, o, none⟩ = some (.int .i64 x.1.id) ∧ w.cell? ⟨b, o + 1, none⟩ = some (.int .i64 x.1.kind) ∧ w.cell? ⟨b, o + 2, none⟩ = some rv ∧
    w.cell? ⟨b, o + 3, none⟩ = some fv ∧ w.cell? ⟨b, o + 4, none⟩ = some ev ∧ NV w x.1 rv fv ev ∧ RdEnts w ev x.2
def RdNodesE (w : World) (v : Value) (xs : List (Nd × List Ent)) : Prop :=
  ∃ A c, v = .slice A xs.length c ∧ xs.length ≤ 140737488351232 ∧ (0 < xs.length → ∃ b o, A = some ⟨b, o, none⟩ ∧ b < w.heap.size ∧ ∀ j, (h : j < xs.length) → RdNodeE w b (o + j * 5) xs[j])
theorem RdNodeE.below {w w' : World} {b o : Nat} {x : Nd × List Ent} (h : RdNodeE w b o x) {B : Nat} (hb : Below B w w') (hB : w.heap.size ≤ B) (hlt : b < w.heap.size) : RdNodeE w' b o x := by
  obtain ⟨rv, fv, ev, h0, h1, h2, h3, h4, hn, he⟩ := h
  have hc : ∀ k, w'.cell? ⟨b, k, none⟩ = w.cell? ⟨b, k, none⟩ := fun k => hb.cell (p := ⟨b, k, none⟩) (by simp; omega)
  exact ⟨rv, fv, ev, by rw [hc]; exact h0, by rw [hc]; exact h1, by rw [hc]; exact h2, by rw [hc]; exact h3, by rw [hc]; exact h4, hn.below hb hB, he.below hb hB⟩
theorem RdNodesE.below {w w' : World} {v : Value} {xs : List (Nd × List Ent)} (h : RdNodesE w v xs) {B : Nat} (hb : Below B w w') (hB : w.heap.size ≤ B) : RdNodesE w' v xs := by
  obtain ⟨A, c, e, hl, hc⟩ := h
  refine ⟨A, c, e, hl, fun h0 => ?_⟩
  obtain ⟨b, o, e2, hlt, hr⟩ := hc h0
  exact ⟨b, o, e2, Nat.lt_of_lt_of_le hlt hb.size, fun j hj => (hr j hj).below hb hB hlt⟩
theorem RdNodesE.rd {w : World} {v : Value} {xs : List (Nd × List Ent)} (h : RdNodesE w v xs) : RdNodes w v (xs.map (·.1)) := by
  obtain ⟨A, c, e, hl, hc⟩ := h
  refine ⟨A, c, by rw [List.length_map]; exact e, by rw [List.length_map]; exact hl, fun h0 => ?_⟩
  rw [List.length_map] at h0
  obtain ⟨b, o, e2, hlt, hr⟩ := hc h0
  refine ⟨b, o, e2, hlt, fun j hj => ?_⟩
  rw [List.length_map] at hj
  obtain ⟨rv, fv, ev, r0, r1, r2, r3, r4, hn, _⟩ := hr j hj
  rw [List.getElem_map]
  exact ⟨rv, fv, ev, r0, r1, r2, r3, r4, hn⟩
/-- What Check has seen of the first nodes: their numbers rise, their lists are as long as their kinds have them. -/
def Seen1 (ns : List Nd) (i : Nat) : Prop := ∀ j, (h : j < ns.length) → j < i → 1 ≤ ns[j].id ∧ (0 < j → idAt ns (j - 1) < ns[j].id) ∧ (ns[j].kind = 6 → ns[j].raw.length = 1) ∧ (ns[j].kind = 11 → ns[j].raw.length = 3)
/-- .. that their values refer to nodes. -/
def Seen2 (ns : List Nd) (i : Nat) : Prop := ∀ j, (h : j < ns.length) → j < i → ∀ x ∈ ns[j].fields, x.1 = 2 → HasId ns x.2
def Chk (ns : List Nd) : Prop := Seen1 ns ns.length ∧ Seen2 ns ns.length
def CheckPost (ns : List Nd) (w : World) (e : Ending) (w' : World) : Prop := ∃ r : Int, e = .returned (.int .i64 r) ∧ (r = 0 → Chk ns) ∧ Below w.heap.size w w'
end Go.Proofs.YtpejmgellidhbaaDoor
