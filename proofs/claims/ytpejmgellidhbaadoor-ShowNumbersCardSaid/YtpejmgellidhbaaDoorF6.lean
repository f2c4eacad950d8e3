/- show.Value and show.Graph: a graph's value as a text. -/
import Derived.Test.YtpejmgellidhbaaDoorC1
import Derived.Test.YtpejmgellidhbaaDoorC2
import Derived.Test.YtpejmgellidhbaaDoorF5
namespace Go.Proofs.YtpejmgellidhbaaDoor
open Go.RowKit

def largeL : List UInt8 := [35, 60, 108, 97, 114, 103, 101, 62]
/-- show.Graph: a text, and an error's number. -/
def showM (nodes : List Nd) (v : Int × Int) : List UInt8 × Int :=
  match lookM nodes 501 [v] [] 0 with
  | .large => (largeL, 0)
  | .err k => ([], k)
  | .ok ms => ((tellM goTells (rounds (labelM 0 ms)) [.val v] (labelM 0 ms) []).getD [], 0)
theorem lookM_err {nodes : List Nd} : ∀ (f : Nat) (stk : List (Int × Int)) (ms : List (Int × Met)) (c k : Int), lookM nodes f stk ms c = .err k → k = 33 ∨ k = 30
  | 0, _, _, _, _, h => by simp [lookM] at h
  | f + 1, [], ms, c, k, h => by simp [lookM] at h
  | f + 1, x :: rest, ms, c, k, h => by
    unfold lookM at h
    repeat' split at h
    all_goals first
      | (simp only [LRes.err.injEq] at h; omega)
      | (simp only [reduceCtorEq] at h)
      | exact lookM_err f _ _ _ _ h
/-- What Value hands back. -/
def ShowPost (w : World) (r : List UInt8 × Int) (e : Ending) (w' : World) : Prop := e = .returned (.tuple #[.string ⟨r.1.toArray⟩, .agg #[.int .i64 r.2, .int .i64 0]]) ∧ Below w.heap.size w w'
def SmallNodes (nodes : List Nd) : Prop := ∀ nd ∈ nodes, nd.fields.length ≤ 20000 ∧ nd.raw.length ≤ 20000 ∧ IntOk (rawM nd.raw)
set_option maxRecDepth 100000 in
set_option maxHeartbeats 2000000 in
theorem value_any (w : World) (nv rv : Value) (nodes : List Nd) (v : Int × Int) (hT : Tabs w) (hn : RdNodes w nv nodes) (hr : ∃ A n c, rv = .slice A n c) (hsm : SmallNodes nodes) :
    Calls Tryd.prog 24 #[.iface 59 (.agg #[nv, rv]), .agg #[.int .i64 v.1, .int .i64 v.2]] w (ShowPost w (showM nodes v)) := by
  have hbw : Below w.heap.size w ((w.alloc (.cells #[.int .i64 v.1, .int .i64 v.2] 27)).alloc (.cells #[.int .i64 0, .int .i64 0] 38)) := ((Below.refl _ _).alloc (Nat.le_refl _) _).alloc (by simp) _
  have hT2 := hT.below hbw (Nat.le_refl _)
  have hn2 := hn.below hbw (Nat.le_refl _)
  have hsz : ((w.alloc (.cells #[.int .i64 v.1, .int .i64 v.2] 27)).alloc (.cells #[.int .i64 0, .int .i64 0] 38)).heap.size = w.heap.size + 1 + 1 := by simp
  have hx0 := ha_old (x := .cells #[.int .i64 0, .int .i64 0] 38) (ha_new w (.cells #[.int .i64 v.1, .int .i64 v.2] 27))
  have hx1 := ha_new (w.alloc (.cells #[.int .i64 v.1, .int .i64 v.2] 27)) (.cells #[.int .i64 0, .int .i64 0] 38)
  simp only [World.size_alloc] at hx1
  have HT := hid (And.intro hT2 (And.intro hn2 (And.intro hr (And.intro hsm (And.intro hbw (And.intro hx0 hx1))))))
  clear hT hn hT2 hn2 hr hsm hbw hx0 hx1
  have hmm := @run_makeMap Tryd.prog
  go_enter Tryd.func24, Tryd.ntmps24
  go_wp2_with fail
  generalize World.alloc (World.alloc w _) _ = W2 at *
  rw [← hsz]
  have hlk : Calls Tryd.prog 29 #[.pointer (some ⟨W2.heap.size + 1, 0, none⟩), .agg #[.int .i64 v.1, .int .i64 v.2]] ((W2.alloc (.map #[] 0)).alloc (.cells #[.iface 59 (.agg #[nv, rv]), .map (some W2.heap.size), .slice none 0 0, .int .i64 0] 69))
      (LookPost W2 W2.heap.size (W2.heap.size + 1) W2.heap.size (.iface 59 (.agg #[nv, rv])) (lookM nodes 501 [v] [] 0)) := by
    refine look_any W2 _ _ _ _ nv rv nodes v HT.out.2.1 HT.out.2.2.1 (fun nd hnd => ⟨(HT.out.2.2.2.1 nd hnd).1, (HT.out.2.2.2.1 nd hnd).2.1⟩) ?_
    refine ⟨by have := ha_new (W2.alloc (.map #[] 0)) (.cells #[.iface 59 (.agg #[nv, rv]), .map (some W2.heap.size), .slice none 0 0, .int .i64 0] 69); simpa using this, ⟨#[], ha_old (ha_new W2 _), rfl⟩, rfl, fun i b x hi _ => by simp at hi, by simp, by simp, ⟨rfl, .inl ⟨rfl, rfl⟩⟩, ⟨by omega, Nat.le_refl _, by simp⟩, ?_, Nat.le_refl _⟩
    exact ((Below.refl _ _).alloc (Nat.le_refl _) _).alloc (by simp) _
  refine hlk.mono ?_
  clear hlk
  rintro e w1 ⟨hb1, h1⟩
  have hx0 := blk_below hb1 HT.out.2.2.2.2.2.1 (blk_lt HT.out.2.2.2.2.2.1)
  have hx1 := blk_below hb1 HT.out.2.2.2.2.2.2 (blk_lt HT.out.2.2.2.2.2.2)
  cases hL : lookM nodes 501 [v] [] 0 with
  | large =>
    rw [hL] at h1
    simp only at h1
    subst h1
    have hsh : showM nodes v = (largeL, 0) := by unfold showM; rw [hL]
    have HS := hid (And.intro hsh (And.intro hb1 hx1))
    clear hsh hb1 hx0 hx1 hL
    have hxa := ha_old (x := .cells #[.int .i64 0, .int .i64 0] 38) HS.out.2.2
    have HX := hid hxa
    clear hxa
    go_wp2_with (refine st38 rfl (.tmp 5) (.tmp 26) rfl (w.heap.size + 1) rfl rfl HX.out rfl ?_)
    rw [HS.out.1]
    refine bodyPost_ret (resT38 rfl rfl (setRow_heap _ _ _ _ _ _ HX.out) rfl) rfl ⟨rfl, ?_⟩
    exact below_setRow ((HT.out.2.2.2.2.1.trans (HS.out.2.1.mono (by omega))).alloc (by have := HS.out.2.1.size; omega) _) (by omega) _
  | err k =>
    rw [hL] at h1
    simp only at h1
    subst h1
    have hsh : showM nodes v = ([], k) := by unfold showM; rw [hL]
    have hk := lookM_err _ _ _ _ _ hL
    have hxa := ha_old (x := .cells #[.int .i64 k, .int .i64 0] 38) hx1
    have HS := hid (And.intro hsh (And.intro hb1 hxa))
    have cr0 : (w1.alloc (.cells #[.int .i64 k, .int .i64 0] 38)).cell? ⟨w.heap.size + 1, 0, none⟩ = some (.int .i64 0) := bc hxa 0
    have cr1 : (w1.alloc (.cells #[.int .i64 k, .int .i64 0] 38)).cell? ⟨w.heap.size + 1, 1, none⟩ = some (.int .i64 0) := bc hxa 1
    have fr0 := bf hxa
    have hk0 : (k == 0) = false := by simp; omega
    have hk0' : ¬ k = 0 := by omega
    have hne : ∀ W, (binOp .neq 38 (.agg #[.int .i64 k, .int .i64 0]) (.agg #[.int .i64 0, .int .i64 0])).run Tryd.prog W = .ok (.bool true) W := fun W => by
      rw [neq38]
      simp [hk0']
    clear hsh hb1 hx0 hx1 hL hxa hk
    go_wp2_with fail
    go_region
    all_goals
      go_wp2_with fail
      rw [HS.out.1]
      refine bodyPost_ret (resT38 rfl rfl (hs_same (hs_same HS.out.2.2)) rfl) rfl ⟨rfl, ?_⟩
      exact ((((HT.out.2.2.2.2.1.trans (HS.out.2.1.mono (by omega))).alloc (by have := HS.out.2.1.size; omega) _).drew).setCell (by simp) _).setCell (by simp) _
  | ok ms =>
    rw [hL] at h1
    simp only at h1
    obtain ⟨rfl, ov, c, bs, hW1⟩ := h1
    rw [show W2.heap.size + 1 = w.heap.size + 1 + 1 + 1 by omega] at hW1
    obtain ⟨hml, hE, hSm, hro⟩ := shown_small hL HT.out.2.2.2.1
    obtain ⟨R, hR⟩ := tell_ok goTells hL
    have hRl := tellM_le (by omega) _ _ _ _ _ hSm (fun p hp => by simp at hp; subst hp; trivial) hR
    simp only [List.length_nil, Nat.zero_add] at hRl
    have hRl2 : R.length ≤ 140737488355328 := Nat.le_trans hRl (Nat.le_trans (Nat.mul_le_mul_right _ hro) (by omega))
    have hsh : showM nodes v = (R, 0) := by unfold showM; rw [hL]; simp [hR]
    have hbf : Below w1.heap.size w1 (w1.alloc (.cells #[.int .i64 0, .int .i64 0] 38)) := (Below.refl _ _).alloc (Nat.le_refl _) _
    have hC2 := label_any W2 (w1.alloc (.cells #[.int .i64 0, .int .i64 0] 38)) W2.heap.size (w.heap.size + 1 + 1 + 1) W2.heap.size _ ov c ms bs (hW1.below hbf) (by omega)
    have HS := hid (And.intro hsh (And.intro hC2 (And.intro hE (And.intro hR (And.intro hro hRl2)))))
    clear hsh hb1 hx0 hx1 hL hml hE hSm hro hR hRl hRl2 hbf hC2 hW1
    go_wp2_with fail
    refine HS.out.2.1.mono ?_
    rintro e w2 ⟨rfl, hW2⟩
    have hx0 := blk_below hW2.elder.1 HT.out.2.2.2.2.2.1 (blk_lt HT.out.2.2.2.2.2.1)
    have cv0 : (w2.alloc (.cells #[.pointer none, .slice none 0 0] 74)).cell? ⟨w.heap.size, 0, none⟩ = some (.int .i64 v.1) := bc (ha_old hx0) 0
    have cv1 : (w2.alloc (.cells #[.pointer none, .slice none 0 0] 74)).cell? ⟨w.heap.size, 1, none⟩ = some (.int .i64 v.2) := bc (ha_old hx0) 1
    have hB2 : W2.heap.size ≤ w2.heap.size := hW2.elder.1.size
    have hC3 := tell_any W2 (w2.alloc (.cells #[.pointer none, .slice none 0 0] 74)) W2.heap.size (w.heap.size + 1 + 1 + 1) W2.heap.size w2.heap.size _ ov c _ bs v _ R HT.out.1 (hW2.alloc _) (isBuilder_new hB2) HS.out.2.2.1 HS.out.2.2.2.1 (by have := HS.out.2.2.2.2.1; omega) HS.out.2.2.2.2.2
    have HC3 := hid (And.intro hC3 hW2)
    clear hC3 hW2 hx0
    go_wp2_with fail
    refine HC3.out.1.mono ?_
    rintro e w3 ⟨rfl, hI3, hb3⟩
    have hC4 := Tryd.str_k W2.heap.size w2.heap.size R w3 hI3 hb3.size
    have HC4 := hid (And.intro hC4 hb3)
    clear hC4 hI3 hb3 HC3
    go_wp2_with (first | (go_at_call 32; refine HC4.out.1.mono ?_; rintro e w4 ⟨rfl, _, hb4, _⟩; have hb24 := HC4.out.2.trans hb4; have hx4 := blk_below hb24 HT.out.2.2.2.2.2.2 (blk_lt HT.out.2.2.2.2.2.2); have HX := hid (And.intro hx4 hb24); clear hb4 hb24 hx4) | (refine st38 rfl (.tmp 5) (.tmp 33) rfl (w.heap.size + 1) rfl rfl HX.out.1 rfl ?_))
    rw [HS.out.1]
    refine bodyPost_ret (resT38 rfl rfl (setRow_heap _ _ _ _ _ _ HX.out.1) rfl) rfl ⟨rfl, ?_⟩
    exact below_setRow (HT.out.2.2.2.2.1.trans (HX.out.2.mono (by omega))) (by omega) _
set_option maxRecDepth 100000 in
set_option maxHeartbeats 1000000 in
theorem graph_any (w : World) (nv rv : Value) (nodes : List Nd) (v : Int × Int) (hT : Tabs w) (hn : RdNodes w nv nodes) (hr : ∃ A n c, rv = .slice A n c) (hsm : SmallNodes nodes) :
    Calls Tryd.prog 12 #[.agg #[nv, rv], .agg #[.int .i64 v.1, .int .i64 v.2]] w (ShowPost w (showM nodes v)) := by
  have hbw : Below w.heap.size w (((w.alloc (.cells #[nv, rv] 25)).alloc (.cells #[.int .i64 v.1, .int .i64 v.2] 27)).alloc (.cells #[.int .i64 0, .int .i64 0] 38)) := (((Below.refl _ _).alloc (Nat.le_refl _) _).alloc (by simp) _).alloc (by simp; omega) _
  have hC := value_any _ nv rv nodes v (hT.below hbw (Nat.le_refl _)) (hn.below hbw (Nat.le_refl _)) hr hsm
  obtain ⟨nA, nc, rfl, _⟩ := hn
  obtain ⟨rA, rn, rc, rfl⟩ := hr
  have hx := ha_new ((w.alloc (.cells #[.slice nA nodes.length nc, .slice rA rn rc] 25)).alloc (.cells #[.int .i64 v.1, .int .i64 v.2] 27)) (.cells #[.int .i64 0, .int .i64 0] 38)
  simp only [World.size_alloc] at hx
  have HC := hid (And.intro hC (And.intro hbw hx))
  clear hC hbw hT hsm hx
  go_enter Tryd.func12, Tryd.ntmps12
  go_wp2_with (first | (go_at_call 24; refine HC.out.1.mono ?_; rintro e w4 ⟨rfl, hb4⟩; have hx4 := blk_below hb4 HC.out.2.2 (blk_lt HC.out.2.2); have HX := hid (And.intro hx4 hb4); clear hb4 hx4) | (refine st38 rfl (.tmp 5) (.tmp 12) rfl (w.heap.size + 1 + 1) rfl rfl HX.out.1 rfl ?_))
  refine bodyPost_ret (resT38 rfl rfl (setRow_heap _ _ _ _ _ _ HX.out.1) rfl) rfl ⟨rfl, ?_⟩
  exact below_setRow (HC.out.2.1.trans (HX.out.2.mono (by simp; omega))) (by omega) _
end Go.Proofs.YtpejmgellidhbaaDoor
