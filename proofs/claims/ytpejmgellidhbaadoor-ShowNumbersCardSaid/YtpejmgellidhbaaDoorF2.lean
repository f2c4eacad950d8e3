/- The method form of show.walk: a value that is no container, or was told. -/
import Derived.Test.YtpejmgellidhbaaDoorF1
import Derived.Deep.LoopGhost
namespace Go.Proofs.YtpejmgellidhbaaDoor
open Go.RowKit

/-- What a call of form leaves alone: all but met objects. -/
structure Fr (B : Nat) (w w' : World) : Prop where
  kept : Lib.OthersKept 84 none w w'
  size : w.heap.size ≤ w'.heap.size
  below : Below B w w'
theorem Fr.refl (B : Nat) (w : World) : Fr B w w := ⟨Lib.OthersKept.refl _ _ _, Nat.le_refl _, Below.refl _ _⟩
theorem Fr.step {B : Nat} {w w1 w2 : World} (h : Fr B w w1) (hB : B ≤ w.heap.size) (hb : Below w1.heap.size w1 w2) : Fr B w w2 := by
  refine ⟨fun k o hk hne ho => ?_, Nat.le_trans h.size hb.size, h.below.trans (hb.mono (Nat.le_trans hB h.size))⟩
  have h1 := h.kept k o hk hne ho
  exact blk_below hb h1 (blk_lt h1)
theorem Fr.set {B : Nat} {w w1 : World} (h : Fr B w w1) {b : Nat} {cs : Array Value} {fr : Nat × Nat} (hb : w1.heap[b]? = some (.cells cs 84 fr)) (hB : B ≤ b) (i : Nat) (v : Value) : Fr B w (w1.setCell ⟨b, i, none⟩ v) := by
  refine ⟨fun k o hk hne ho => ?_, by simpa using h.size, h.below.setCell hB _⟩
  have h1 := h.kept k o hk hne ho
  by_cases e : k = b
  · subst e
    rw [hb, Option.some.injEq] at h1
    exact absurd h1.symm (ho cs fr)
  · exact (Below.heap_setCell _ _ _ _ e).trans h1
theorem Fr.grown {B : Nat} {w w1 w2 : World} (h : Fr B w w1) (hB : B ≤ w.heap.size) {row : Option Nat} (hg : w1.grownBy w2 row) (hr : ∀ k, row = some k → w.heap.size ≤ k) : Fr B w w2 := by
  refine ⟨fun k o hk hne ho => ?_, Nat.le_trans h.size hg.size, h.below.grown hg (Nat.le_trans hB h.size) fun k hk => Nat.le_trans hB (hr k hk)⟩
  have h1 := h.kept k o hk hne ho
  rw [hg.block k (blk_lt h1) fun e => ?_]
  · exact h1
  · have := hr k e.symm
    have := blk_lt hk
    omega
/-- What is asked of the met objects, so that they can be told. -/
def EachOk (ms : List (Int × Met)) : Prop := ∀ y ∈ ms, y.2.nd.raw.length ≤ 1000000 ∧ IntOk (rawM y.2.nd.raw) ∧ y.2.label ≤ 1000 ∧ y.2.nd.fields.length ≤ 1000000
/-- What form hands back. -/
def FormPost (w0 w : World) (B p m : Nat) (hv ov : Value) (c : Int) (bs : List Nat) (l : List Pc) (ms' : List (Int × Met)) (e : Ending) (w' : World) : Prop :=
  GivesPcs w.heap.size l e w' ∧ WalkAt w0 w' B p m hv ov c ms' bs ∧ Fr B w w'

set_option maxRecDepth 100000 in
set_option maxHeartbeats 2000000 in
theorem form_atom (w0 w : World) (B p m : Nat) (hv ov : Value) (c : Int) (ms : List (Int × Met)) (bs : List Nat) (x : Int × Int) (hT : Tabs w) (hW : WalkAt w0 w B p m hv ov c ms bs) (hval : validB x.1 x.2 = true) (h2 : x.1 ≠ 2) :
    Calls Tryd.prog 39 #[.pointer (some ⟨p, 0, none⟩), .agg #[.int .i64 x.1, .int .i64 x.2]] w (FormPost w0 w B p m hv ov c bs [.text (bsOf (atomL x))] ms) := by
  have h2b : (x.1 != 2) = true := by simpa using h2
  have hb0 : Below w.heap.size w (w.alloc (.cells #[.int .i64 x.1, .int .i64 x.2] 27)) := (Below.refl _ _).alloc (Nat.le_refl _) _
  have hC := atom_any x _ (hT.below hb0 (Nat.le_refl _)) hval h2
  have hBs : B ≤ w.heap.size := Nat.le_of_lt (Nat.lt_of_le_of_lt (hW.lt (.inl rfl)).1 (hW.lt (.inl rfl)).2)
  have HC := hid (And.intro hC (And.intro hW hb0))
  clear hC hW h2 hval hT hb0
  go_enter Tryd.func39, Tryd.ntmps39
  go_wp2_with (go_at_call 45; refine HC.out.1.mono ?_; rintro e w1 ⟨rfl, hb1⟩)
  go_ret
  have hb : Below w.heap.size w w1 := HC.out.2.2.trans (hb1.mono (by simp))
  refine ⟨⟨_, rfl, pcs_row hb.size (ha_new w1 _) rfl rfl rfl (by simp)⟩, ?_, ?_⟩
  · exact HC.out.2.1.below (hb.alloc hb.size _)
  · exact (Fr.refl B w).step hBs (hb.alloc hb.size _)

set_option maxRecDepth 100000 in
set_option maxHeartbeats 2000000 in
theorem form_leaf (w0 w : World) (B p m : Nat) (hv ov : Value) (c : Int) (ms : List (Int × Met)) (bs : List Nat) (n : Int) (mm : Met) (hT : Tabs w) (hW : WalkAt w0 w B p m hv ov c ms bs) (hm : metAt ms n = some mm) (hE : EachOk ms) (hk : kBox mm.nd.kind = false) :
    Calls Tryd.prog 39 #[.pointer (some ⟨p, 0, none⟩), .agg #[.int .i64 2, .int .i64 n]] w (FormPost w0 w B p m hv ov c bs [.text (bsOf (leafL mm.nd))] ms) := by
  have hBs : B ≤ w.heap.size := Nat.le_of_lt (Nat.lt_of_le_of_lt (hW.lt (.inl rfl)).1 (hW.lt (.inl rfl)).2)
  have hE1 := hE _ (metAt_mem hm)
  simp only at hE1
  have hb0 : Below w.heap.size w (w.alloc (.cells #[.int .i64 2, .int .i64 n] 27)) := (Below.refl _ _).alloc (Nat.le_refl _) _
  have hW1 := hW.below hb0
  obtain ⟨i, b, hbi, hmi, hlk⟩ := lookup_ptr hW1 hm
  obtain ⟨mrv, mfv, mev, hmb, hnv⟩ := hW1.mets i b _ hbi hmi
  simp only at hmb hnv
  have hlk1 := fun nq => hlk ((w.alloc (.cells #[.int .i64 2, .int .i64 n] 27)).drewN nq) rfl
  have cp1 : (w.alloc (.cells #[.int .i64 2, .int .i64 n] 27)).cell? ⟨p, 1, none⟩ = some (.map (some m)) := bc hW1.own 1
  obtain ⟨rA, rn, rc, hre⟩ := hnv.rawForm
  obtain ⟨fA, fn, fc, hfe⟩ := hnv.fieldsForm
  obtain ⟨eA, en, ec, hee⟩ := hnv.ev
  subst hre hfe hee
  have cb0 : (w.alloc (.cells #[.int .i64 2, .int .i64 n] 27)).cell? ⟨b, 0, none⟩ = some (.int .i64 mm.nd.id) := bc hmb 0
  have cb1 : (w.alloc (.cells #[.int .i64 2, .int .i64 n] 27)).cell? ⟨b, 1, none⟩ = some (.int .i64 mm.nd.kind) := bc hmb 1
  have cb2 : (w.alloc (.cells #[.int .i64 2, .int .i64 n] 27)).cell? ⟨b, 2, none⟩ = some (.slice rA rn rc) := bc hmb 2
  have cb3 : (w.alloc (.cells #[.int .i64 2, .int .i64 n] 27)).cell? ⟨b, 3, none⟩ = some (.slice fA fn fc) := bc hmb 3
  have cb4 : (w.alloc (.cells #[.int .i64 2, .int .i64 n] 27)).cell? ⟨b, 4, none⟩ = some (.slice eA en ec) := bc hmb 4
  have hrw := hnv.raw.below hW1.elder.1 hW1.elder.2
  have hC : ∀ W, Below w.heap.size w W → Below (w.heap.size + 1) (w.alloc (.cells #[.int .i64 2, .int .i64 n] 27)) W → Calls Tryd.prog 46 #[.agg #[.int .i64 mm.nd.id, .int .i64 mm.nd.kind, .slice rA rn rc, .slice fA fn fc, .slice eA en ec]] W fun e w' => e = .returned (.string ⟨(leafL mm.nd).toArray⟩) ∧ Below W.heap.size W w' := fun W hb hb2 =>
    leaf_any mm.nd _ _ _ W (hT.below hb (Nat.le_refl _)) (hrw.below hb2 (by simp)) hE1.1 hE1.2.1 ⟨_, _, _, rfl⟩ ⟨_, _, _, rfl⟩ ⟨_, _, _, rfl⟩
  have HC := hid (And.intro hC (And.intro hW (And.intro hb0 hk)))
  clear hC hW hT hb0 hW1 hbi hmi hlk hmb hnv hrw hE1 hE hm hk
  go_enter Tryd.func39, Tryd.ntmps39
  go_wp2_with fail
  go_quiet (fail)
  go_wp2_with (first | (go_at_call 36; refine (container_any _ _).mono ?_; rintro e w1 ⟨rfl, rfl⟩; rw [HC.out.2.2.2]) | (go_at_call 46; refine (HC.out.1 _ (below_drewN HC.out.2.2.1 nq) (below_drewN (Below.refl _ _) nq)).mono ?_; rintro e w2 ⟨rfl, hb2⟩))
  go_ret
  have hb : Below w.heap.size w w2 := (below_drewN HC.out.2.2.1 nq).trans (hb2.mono (by simp))
  refine ⟨⟨_, rfl, pcs_row hb.size (ha_new w2 _) rfl rfl rfl (by simp)⟩, ?_, ?_⟩
  · exact HC.out.2.1.below (hb.alloc hb.size _)
  · exact (Fr.refl B w).step hBs (hb.alloc hb.size _)
end Go.Proofs.YtpejmgellidhbaaDoor
