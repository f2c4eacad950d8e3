/- A graph that comes in reads as a list of nodes. -/
import Derived.Test.YtpejmgellidhbaaDoorO4
import Derived.Test.YtpejmgellidhbaaDoorR1
import Derived.Deep.Slices
namespace Go.Proofs.YtpejmgellidhbaaDoor
open Go.ChangeShapes Go.WideShapes Go.ChangeAt Go.RowKit Go.Deep

set_option maxRecDepth 100000
section
variable {H : Type} {enc : TypeId × Value → H} {W : World}
/-- What was read lies in memory, and no list is too long. -/
def FitsT (W : World) (t : TypeId) (x : DataW H × List MemPlace) : Prop := (∀ pl ∈ x.2, pl.block < W.heap.size) ∧ ∀ n ∈ x.1.weights Tryd.prog t, n ≤ 140737488351232
theorem weightsAll_mem {e : TypeId} {d : DataW H} {n : Nat} (hn : n ∈ d.weights Tryd.prog e) : ∀ {l : List (DataW H)}, d ∈ l → n ∈ DataW.weightsAll Tryd.prog e l
  | [], h => by simp at h
  | a :: r, h => by
    rw [DataW.weightsAll, List.mem_append]
    rcases List.mem_cons.1 h with rfl | h
    · exact .inl hn
    · exact .inr (weightsAll_mem hn h)
theorem rd_slice {t e : TypeId} {sz : Nat} {α : Type} [Inhabited α] (ht : Tryd.prog.underlying t = some (.slice e)) (hc : Tryd.prog.cellsOf e = sz) (hsz : 0 < sz) (hby : 1 ≤ Tryd.prog.bytesOf e) (R : α → Nat → Nat → Prop)
    (hel : ∀ (n : Nat) (cs : List Value) (y : DataW H × List MemPlace) (b o : Nat), DataW.trod enc Tryd.prog W 0 (fun _ => true) true n e cs = some y → FitsT W e y → (∀ i, i < sz → W.cell? ⟨b, o + i, none⟩ = cs[i]?) → cs.length = sz → ∃ z : α, R z b o)
    {fuel : Nat} {cs : List Value} {x : DataW H × List MemPlace} (h : DataW.trod enc Tryd.prog W 0 (fun _ => true) true fuel t cs = some x) (hf : FitsT W t x) :
    ∃ (A : Option Addr) (c : Nat) (zs : List α), cs = [.slice A zs.length c] ∧ zs.length ≤ 140737488351232 ∧ (0 < zs.length → ∃ b o, A = some ⟨b, o, none⟩ ∧ b < W.heap.size ∧ ∀ j, (hj : j < zs.length) → R zs[j] b (o + j * sz)) := by
  rcases open_slice ht h with ⟨rfl, rfl⟩ | ⟨a, len, cap, m, n, D, Pl, rfl, hb, hl, hm, hmm, rfl, hx⟩
  · exact ⟨none, 0, [], rfl, by simp, fun h => by simp at h⟩
  · simp only [if_true] at hmm
    subst hmm
    rw [hc] at hx hf
    have hw : (len + (m - len)) * Tryd.prog.bytesOf e ≤ 140737488351232 := by
      refine hf.2 _ ?_
      rw [DataW.weights, ht]
      simp
    have hlen : len ≤ 140737488351232 := by
      have : len * 1 ≤ (len + (m - len)) * Tryd.prog.bytesOf e := Nat.mul_le_mul (by omega) hby
      omega
    by_cases h0 : len = 0
    · subst h0
      exact ⟨some a, m, [], rfl, by simp, fun h => by simp at h⟩
    · obtain ⟨b, o, spot⟩ := a
      have hspot : spot = none := by
        obtain ⟨cs', h1, _⟩ := hx 0 (by omega)
        obtain ⟨_, h2, h3⟩ := World.cells?_some h1
        have h4 := h3 0 hsz
        rw [List.getElem?_eq_getElem (by omega)] at h4
        simpa [Addr.add] using World.cell?_spot h4
      subst hspot
      have hblt : b < W.heap.size := hf.1 (.cell b o) (List.mem_append_left _ (MemPlace.mem_row.2 ⟨0, Nat.mul_pos (by omega) hsz, by simp⟩))
      obtain ⟨f, hfz⟩ := choose_lt (α := α) (n := len) (p := fun i z => R z b (o + i * sz)) (fun i hi => by
        obtain ⟨cs', h1, h2⟩ := hx i (by omega)
        obtain ⟨_, h3, h4⟩ := World.cells?_some h1
        refine hel n cs' (D i, Pl i) b (o + i * sz) h2 ⟨fun pl hpl => hf.1 pl (List.mem_append_right _ (List.mem_flatMap.2 ⟨i, List.mem_range.2 (by omega), hpl⟩)), fun k hk => hf.2 k ?_⟩ (fun q hq => ?_) h3
        · rw [DataW.weights, ht]
          refine List.mem_cons_of_mem _ (List.mem_append_left _ (weightsAll_mem hk (List.mem_map.2 ⟨i, List.mem_range.2 hi, rfl⟩)))
        · have := h4 q hq
          rw [Go.WideShapes.add_plain, Go.WideShapes.add_plain] at this
          exact this)
      refine ⟨some ⟨b, o, none⟩, m, (List.range len).map f, by simp, by simpa using hlen, fun _ => ⟨b, o, rfl, hblt, fun j hj => ?_⟩⟩
      rw [List.getElem_map, List.getElem_range]
      exact hfz j (by simpa using hj)
theorem co3 : Tryd.prog.cellsOf 3 = 1 := by kernel_rfl
theorem co27 : Tryd.prog.cellsOf 27 = 2 := by kernel_rfl
theorem co31 : Tryd.prog.cellsOf 31 = 1 := by kernel_rfl
theorem co23 : Tryd.prog.cellsOf 23 = 1 := by kernel_rfl
theorem co32 : Tryd.prog.cellsOf 32 = 1 := by kernel_rfl
theorem co22 : Tryd.prog.cellsOf 22 = 1 := by kernel_rfl
theorem co34 : Tryd.prog.cellsOf 34 = 5 := by kernel_rfl
theorem co51 : Tryd.prog.cellsOf 51 = 4 := by kernel_rfl
theorem intok_wf {n : Int} (h : (Lit.int .i64 n).wf = true) : IntOk n := by
  simpa [IntOk, Lit.wf, IntKind.signed, IntKind.bits, IntKind.min, IntKind.max] using h
theorem rd_num {fuel : Nat} {cs : List Value} {x : DataW H × List MemPlace} (h : DataW.trod enc Tryd.prog W 0 (fun _ => true) true fuel 3 cs = some x) : ∃ n, cs = [.int .i64 n] ∧ IntOk n := by
  obtain ⟨n, rfl, _, hw⟩ := DataW.trod_int Tryd.underlying3 h
  exact ⟨n, rfl, intok_wf hw⟩
theorem rd_value {fuel : Nat} {cs : List Value} {x : DataW H × List MemPlace} (h : DataW.trod enc Tryd.prog W 0 (fun _ => true) true fuel 27 cs = some x) : ∃ k n, cs = [.int .i64 k, .int .i64 n] := by
  obtain ⟨y0, y1, n, _, hl, h0, h1⟩ := trod_struct2 Tryd.underlying27 h
  rw [co27] at hl
  match cs, hl with
  | [v0, v1], _ =>
    simp [co3] at h0 h1
    obtain ⟨k, e0, _⟩ := rd_num h0
    obtain ⟨m, e1, _⟩ := rd_num h1
    simp only [List.cons.injEq, and_true] at e0 e1
    exact ⟨k, m, by rw [e0, e1]⟩
theorem rd_vals {fuel : Nat} {cs : List Value} {x : DataW H × List MemPlace} (h : DataW.trod enc Tryd.prog W 0 (fun _ => true) true fuel 23 cs = some x) (hf : FitsT W 23 x) : ∃ v xs, cs = [v] ∧ RdVals W v xs := by
  obtain ⟨A, c, zs, e, hl, hz⟩ := rd_slice (α := Int × Int) Tryd.underlying23 co27 (by omega) (of_decide_eq_true (by kernel_rfl)) (fun z b o => W.cell? ⟨b, o, none⟩ = some (.int .i64 z.1) ∧ W.cell? ⟨b, o + 1, none⟩ = some (.int .i64 z.2))
    (fun n cs y b o h1 _ hc hl => by
      obtain ⟨k, m, rfl⟩ := rd_value h1
      exact ⟨(k, m), (hc 0 (by omega)).trans rfl, (hc 1 (by omega)).trans rfl⟩) h hf
  exact ⟨_, zs, e, A, c, rfl, hl, hz⟩
theorem rd_ints {fuel : Nat} {cs : List Value} {x : DataW H × List MemPlace} (h : DataW.trod enc Tryd.prog W 0 (fun _ => true) true fuel 31 cs = some x) (hf : FitsT W 31 x) : ∃ v xs, cs = [v] ∧ RdInts W v xs ∧ ∀ z ∈ xs, IntOk z := by
  obtain ⟨A, c, zs, e, hl, hz⟩ := rd_slice (α := Int) Tryd.underlying31 co3 (by omega) (of_decide_eq_true (by kernel_rfl)) (fun z b o => W.cell? ⟨b, o, none⟩ = some (.int .i64 z) ∧ IntOk z)
    (fun n cs y b o h1 _ hc hl => by
      obtain ⟨k, rfl, hk⟩ := rd_num h1
      exact ⟨k, (hc 0 (by omega)).trans rfl, hk⟩) h hf
  refine ⟨_, zs, e, ⟨A, c, rfl, hl, fun h0 => ?_⟩, fun z hzz => ?_⟩
  · obtain ⟨b, o, e1, hb, hr⟩ := hz h0
    exact ⟨b, o, e1, hb, fun j hj => by have := (hr j hj).1; rwa [Nat.mul_one] at this⟩
  · obtain ⟨j, hj, rfl⟩ := List.getElem_of_mem hzz
    obtain ⟨b, o, e1, hb, hr⟩ := hz (by omega)
    exact (hr j hj).2
theorem rd_ent {fuel : Nat} {cs : List Value} {x : DataW H × List MemPlace} (h : DataW.trod enc Tryd.prog W 0 (fun _ => true) true fuel 51 cs = some x) : ∃ k n k' n', cs = [.int .i64 k, .int .i64 n, .int .i64 k', .int .i64 n'] := by
  obtain ⟨y0, y1, n, _, hl, h0, h1⟩ := trod_struct2 Tryd.underlying51 h
  rw [co51] at hl
  match cs, hl with
  | [v0, v1, v2, v3], _ =>
    simp [co27] at h0 h1
    obtain ⟨k, m, e0⟩ := rd_value h0
    obtain ⟨k', m', e1⟩ := rd_value h1
    simp only [List.cons.injEq, and_true] at e0 e1
    exact ⟨k, m, k', m', by rw [e0.1, e0.2, e1.1, e1.2]⟩
theorem rd_ents {fuel : Nat} {cs : List Value} {x : DataW H × List MemPlace} (h : DataW.trod enc Tryd.prog W 0 (fun _ => true) true fuel 32 cs = some x) (hf : FitsT W 32 x) : ∃ v xs, cs = [v] ∧ RdEnts W v xs := by
  obtain ⟨A, c, zs, e, hl, hz⟩ := rd_slice (α := Ent) Tryd.underlying32 co51 (by omega) (of_decide_eq_true (by kernel_rfl))
    (fun z b o => W.cell? ⟨b, o, none⟩ = some (.int .i64 z.1.1) ∧ W.cell? ⟨b, o + 1, none⟩ = some (.int .i64 z.1.2) ∧ W.cell? ⟨b, o + 2, none⟩ = some (.int .i64 z.2.1) ∧ W.cell? ⟨b, o + 3, none⟩ = some (.int .i64 z.2.2))
    (fun n cs y b o h1 _ hc hl => by
      obtain ⟨k, m, k', m', rfl⟩ := rd_ent h1
      exact ⟨((k, m), (k', m')), (hc 0 (by omega)).trans rfl, (hc 1 (by omega)).trans rfl, (hc 2 (by omega)).trans rfl, (hc 3 (by omega)).trans rfl⟩) h hf
  exact ⟨_, zs, e, A, c, rfl, hl, hz⟩
instance : Inhabited (Nd × List Ent) := ⟨(⟨0, 0, [], []⟩, [])⟩
theorem rd_node {fuel : Nat} {cs : List Value} {x : DataW H × List MemPlace} (h : DataW.trod enc Tryd.prog W 0 (fun _ => true) true fuel 34 cs = some x) (hf : FitsT W 34 x) :
    ∃ (z : Nd × List Ent) (rv fv ev : Value), cs = [.int .i64 z.1.id, .int .i64 z.1.kind, rv, fv, ev] ∧ NV W z.1 rv fv ev ∧ RdEnts W ev z.2 ∧ IntOk (rawM z.1.raw) := by
  obtain ⟨ys, n, _, rfl, hl, hlen, hfs⟩ := DataW.trod_struct Tryd.underlying34 h
  rw [co34] at hl
  match ys, hlen, cs, hl with
  | [y0, y1, y2, y3, y4], _, [v0, v1, v2, v3, v4], _ =>
    have g0 := hfs 0 _ rfl
    have g1 := hfs 1 _ rfl
    have g2 := hfs 2 _ rfl
    have g3 := hfs 3 _ rfl
    have g4 := hfs 4 _ rfl
    simp [co3, co31, co23, co32] at g0 g1 g2 g3 g4
    have hwt : ∀ m, m ∈ y2.1.weights Tryd.prog 31 ∨ m ∈ y3.1.weights Tryd.prog 23 ∨ m ∈ y4.1.weights Tryd.prog 32 → m ≤ 140737488351232 := fun m hm => hf.2 m (by
      rw [DataW.weights, Tryd.underlying34]
      simp only [List.map_cons, List.map_nil, DataW.weightsEach, List.mem_append]
      rcases hm with hm | hm | hm
      · exact .inr (.inr (.inl hm))
      · exact .inr (.inr (.inr (.inl hm)))
      · exact .inr (.inr (.inr (.inr (.inl hm)))))
    have hpl : ∀ pl, pl ∈ y2.2 ∨ pl ∈ y3.2 ∨ pl ∈ y4.2 → pl.block < W.heap.size := fun pl hp => hf.1 pl (by
      simp only [List.flatMap_cons, List.flatMap_nil, List.mem_append]
      rcases hp with hp | hp | hp
      · exact .inr (.inr (.inl hp))
      · exact .inr (.inr (.inr (.inl hp)))
      · exact .inr (.inr (.inr (.inr (.inl hp)))))
    obtain ⟨i, e0, _⟩ := rd_num g0
    obtain ⟨k, e1, _⟩ := rd_num g1
    obtain ⟨rv, raw, e2, h2, h2'⟩ := rd_ints g2 ⟨fun pl hp => hpl pl (.inl hp), fun m hm => hwt m (.inl hm)⟩
    obtain ⟨fv, fs, e3, h3⟩ := rd_vals g3 ⟨fun pl hp => hpl pl (.inr (.inl hp)), fun m hm => hwt m (.inr (.inl hm))⟩
    obtain ⟨ev, es, e4, h4⟩ := rd_ents g4 ⟨fun pl hp => hpl pl (.inr (.inr hp)), fun m hm => hwt m (.inr (.inr hm))⟩
    simp only [List.cons.injEq, and_true] at e0 e1 e2 e3 e4
    refine ⟨(⟨i, k, raw, fs⟩, es), rv, fv, ev, by rw [e0, e1, e2, e3, e4], ⟨h2, h3, ?_⟩, h4, ?_⟩
    · obtain ⟨A, c, e, _⟩ := h4
      exact ⟨A, _, c, e⟩
    · show IntOk (rawM raw)
      unfold rawM
      cases raw with
      | nil => exact ⟨by decide, by decide⟩
      | cons a r => exact h2' a (by simp)
theorem rd_nodes {fuel : Nat} {cs : List Value} {x : DataW H × List MemPlace} (h : DataW.trod enc Tryd.prog W 0 (fun _ => true) true fuel 22 cs = some x) (hf : FitsT W 22 x) :
    ∃ v xs, cs = [v] ∧ RdNodesE W v xs ∧ ∀ z ∈ xs, IntOk (rawM z.1.raw) := by
  obtain ⟨A, c, zs, e, hl, hz⟩ := rd_slice (α := Nd × List Ent) Tryd.underlying22 co34 (by omega) (of_decide_eq_true (by kernel_rfl)) (fun z b o => RdNodeE W b o z ∧ IntOk (rawM z.1.raw))
    (fun n cs y b o h1 h2 hc hl => by
      obtain ⟨z, rv, fv, ev, rfl, hn, he, hi⟩ := rd_node h1 h2
      exact ⟨z, ⟨rv, fv, ev, (hc 0 (by omega)).trans rfl, (hc 1 (by omega)).trans rfl, (hc 2 (by omega)).trans rfl, (hc 3 (by omega)).trans rfl, (hc 4 (by omega)).trans rfl, hn, he⟩, hi⟩) h hf
  refine ⟨_, zs, e, ⟨A, c, rfl, hl, fun h0 => ?_⟩, fun z hzz => ?_⟩
  · obtain ⟨b, o, e1, hb, hr⟩ := hz h0
    exact ⟨b, o, e1, hb, fun j hj => (hr j hj).1⟩
  · obtain ⟨j, hj, rfl⟩ := List.getElem_of_mem hzz
    obtain ⟨b, o, e1, hb, hr⟩ := hz (by omega)
    exact (hr j hj).2
theorem rd_graph {fuel : Nat} {cs : List Value} {x : DataW H × List MemPlace} (h : DataW.trod enc Tryd.prog W 0 (fun _ => true) true fuel 25 cs = some x) (hf : FitsT W 25 x) :
    ∃ nv rv xs rs, cs = [nv, rv] ∧ RdNodesE W nv xs ∧ RdVals W rv rs ∧ ∀ z ∈ xs, IntOk (rawM z.1.raw) := by
  obtain ⟨y0, y1, n, rfl, hl, h0, h1⟩ := trod_struct2 Tryd.underlying25 h
  rw [show Tryd.prog.cellsOf 25 = 2 by kernel_rfl] at hl
  match cs, hl with
  | [v0, v1], _ =>
    simp [co22, co23] at h0 h1
    have hwt : ∀ m, m ∈ y0.1.weights Tryd.prog 22 ∨ m ∈ y1.1.weights Tryd.prog 23 → m ≤ 140737488351232 := fun m hm => hf.2 m (by
      rw [DataW.weights, Tryd.underlying25]
      simp only [List.map_cons, List.map_nil, DataW.weightsEach, List.mem_append]
      rcases hm with hm | hm
      · exact .inl hm
      · exact .inr (.inl hm))
    obtain ⟨nv, xs, e0, hx, hi⟩ := rd_nodes h0 ⟨fun pl hp => hf.1 pl (List.mem_append_left _ hp), fun m hm => hwt m (.inl hm)⟩
    obtain ⟨rv, rs, e1, hr⟩ := rd_vals h1 ⟨fun pl hp => hf.1 pl (List.mem_append_right _ hp), fun m hm => hwt m (.inr hm)⟩
    simp only [List.cons.injEq, and_true] at e0 e1
    exact ⟨nv, rv, xs, rs, by rw [e0, e1], hx, hr, hi⟩
end
end Go.Proofs.YtpejmgellidhbaaDoor
