/- What keeps a walk, a builder and rows of pieces; the method form, whole. -/
import Derived.Test.YtpejmgellidhbaaDoorF3
namespace Go.Proofs.YtpejmgellidhbaaDoor
open Go.RowKit

section
variable {w0 w w' : World} {B p m : Nat} {hv ov v : Value} {c : Int} {ms : List (Int × Met)} {bs : List Nat}
theorem ownsRow_same {base : Nat} {e : TypeId} {size n : Nat} {xs : List Value} (h : w.ownsRow base e size v n xs) (hk : ∀ (g : Nat) (cs : Array Value), v.ownBlock = some g → w.heap[g]? = some (.cells cs e (0, 0)) → w'.heap[g]? = some (.cells cs e (0, 0))) : w'.ownsRow base e size v n xs := by
  refine ⟨h.1, ?_⟩
  rcases h.2 with hn | ⟨g, cap, cur, rfl, hb, hg, rest⟩
  · exact .inl hn
  · exact .inr ⟨g, cap, cur, rfl, hb, hk g cur rfl hg, rest⟩
theorem isBuilder_same {b : Nat} {xs : List Value} (h : Lib.IsBuilderF 74 5 B b xs w) (hk : ∀ (g : Nat) (cs : Array Value) (T : TypeId) (fr : Nat × Nat), T = 74 ∨ T = 5 → w.heap[g]? = some (.cells cs T fr) → w'.heap[g]? = some (.cells cs T fr)) : Lib.IsBuilderF 74 5 B b xs w' := by
  have key : ∀ q, Lib.BuilderAtF 74 5 B b q xs w → Lib.BuilderAtF 74 5 B b q xs w' := fun q h => by
    obtain ⟨hB, v, hb, hown, hne⟩ := h
    refine ⟨hB, v, hk b _ _ _ (.inl rfl) hb, ⟨hown.1, ?_⟩, hne⟩
    rcases hown.2 with hn | ⟨g, cap, cur, fz, rfl, hb, hg, rest⟩
    · exact .inl hn
    · exact .inr ⟨g, cap, cur, fz, rfl, hb, hk g _ _ _ (.inr rfl) hg, rest⟩
  exact h.elim (fun h => .inl (key _ h)) fun h => .inr (key _ h)
theorem WalkAt.same (h : WalkAt w0 w B p m hv ov c ms bs) (hb : Below B w0 w') (hk : ∀ (g : Nat) (o : Obj), w.heap[g]? = some o → (∀ (cs : Array Value) (T : TypeId) (fr : Nat × Nat), o = .cells cs T fr → T = 69 ∨ T = 84 ∨ T = 3) → w'.heap[g]? = some o) : WalkAt w0 w' B p m hv ov c ms bs := by
  obtain ⟨es, hm, he⟩ := h.map
  refine ⟨hk p _ h.own (by rintro cs T fr ⟨⟩; exact .inl rfl), ⟨es, hk m _ hm (by rintro cs T fr ⟨⟩), he⟩, h.len, fun i b x hi hx => ?_, h.keys, h.blocks, ?_, h.base, hb, h.elder.2⟩
  · obtain ⟨rv, fv, ev, h1, h2⟩ := h.mets i b x hi hx
    exact ⟨rv, fv, ev, hk b _ h1 (by rintro cs T fr ⟨⟩; exact .inr (.inl rfl)), h2⟩
  · exact ownsRow_same h.order fun g cs _ hg => hk g _ hg (by rintro cs T fr ⟨⟩; exact .inr (.inr rfl))
/-- A call of form keeps the builder, and rows of pieces. -/
theorem Fr.builder {b : Nat} {xs : List Value} (h : Fr B w w') (hI : Lib.IsBuilderF 74 5 B b xs w) : Lib.IsBuilderF 74 5 B b xs w' :=
  isBuilder_same hI fun g cs T fr hT hg => h.kept g _ hg (by simp) (by rintro cs' fz' ⟨⟩; rcases hT with h | h <;> cases h)
theorem Fr.row {base n : Nat} {xs : List Value} (h : Fr B w w') (hr : w.ownsRow base 87 4 v n xs) : w'.ownsRow base 87 4 v n xs :=
  ownsRow_same hr fun g cs _ hg => h.kept g _ hg (by simp) (by rintro cs' fz' ⟨⟩)
/-- What is written into the builder keeps the walk, and rows of pieces. -/
theorem said_walk {b : Nat} {xs : List Value} (hI : Lib.IsBuilderF 74 5 B b xs w) (hk : Lib.OthersKept 5 (some b) w w') (hb : Below B w w') (h : WalkAt w0 w B p m hv ov c ms bs) : WalkAt w0 w' B p m hv ov c ms bs := by
  refine h.same (h.elder.1.trans hb) fun g o hg ho => hk g o hg ?_ ?_
  · intro e
    simp only [Option.some.injEq] at e
    subst e
    obtain ⟨_, cs, hcs⟩ := isBuilder_blk hI
    rw [hg, Option.some.injEq] at hcs
    rcases ho _ _ _ hcs with h | h | h <;> cases h
  · intro cs fz e
    rcases ho _ _ _ e with h | h | h <;> cases h
theorem said_row {b base n : Nat} {xs ys : List Value} (hI : Lib.IsBuilderF 74 5 B b xs w) (hk : Lib.OthersKept 5 (some b) w w') (h : w.ownsRow base 87 4 v n ys) : w'.ownsRow base 87 4 v n ys := by
  refine ownsRow_same h fun g cs _ hg => hk g _ hg ?_ (by rintro cs' fz' ⟨⟩)
  intro e
  simp only [Option.some.injEq] at e
  subst e
  obtain ⟨_, cs', hcs⟩ := isBuilder_blk hI
  rw [hg] at hcs
  simp at hcs
/-- An append onto a row of pieces keeps the builder. -/
theorem grown_builder {b base n : Nat} {xs ys : List Value} (hI : Lib.IsBuilderF 74 5 B b xs w) (hr : w.ownsRow base 87 4 v n ys) (hg : w.grownBy w' v.ownBlock) : Lib.IsBuilderF 74 5 B b xs w' :=
  isBuilder_same hI fun g cs T fr hT hgc => (hg.block g (blk_lt hgc) fun e => row87_ne hr hgc (by rcases hT with h | h <;> rw [h] <;> decide) e.symm).trans hgc
end
theorem EachOk.told {ms : List (Int × Met)} (h : EachOk ms) (n : Int) : EachOk (metMod setTold n ms) := by
  intro y hy
  rcases mod_mem _ _ hy with hy | ⟨z, hz, rfl⟩
  · exact h y hy
  · exact h z hz
theorem form_any (w0 w : World) (B p m : Nat) (hv ov : Value) (c : Int) (ms : List (Int × Met)) (bs : List Nat) (x : Int × Int) (l : List Pc) (ms' : List (Int × Met)) (hT : Tabs w) (hW : WalkAt w0 w B p m hv ov c ms bs) (hE : EachOk ms) (hl : formM goTells ms x = some (l, ms')) :
    Calls Tryd.prog 39 #[.pointer (some ⟨p, 0, none⟩), .agg #[.int .i64 x.1, .int .i64 x.2]] w (FormPost w0 w B p m hv ov c bs l ms') := by
  obtain ⟨k, n⟩ := x
  unfold formM at hl
  simp only at hl ⊢
  by_cases hv' : validB k n = false
  · simp [hv'] at hl
  rw [if_neg hv'] at hl
  by_cases h2 : k ≠ 2
  · rw [if_pos h2, Option.some.injEq, Prod.mk.injEq] at hl
    obtain ⟨rfl, rfl⟩ := hl
    exact form_atom w0 w B p m hv ov c ms bs (k, n) hT hW (by simpa using hv') h2
  rw [if_neg h2] at hl
  have h2' : k = 2 := by simpa using h2
  subst h2'
  cases hm : metAt ms n with
  | none => simp [hm] at hl
  | some mm =>
    simp only [hm] at hl
    by_cases hk : kBox mm.nd.kind = false
    · rw [if_pos hk, Option.some.injEq, Prod.mk.injEq] at hl
      obtain ⟨rfl, rfl⟩ := hl
      exact form_leaf w0 w B p m hv ov c ms bs n mm hT hW hm hE hk
    rw [if_neg hk] at hl
    have hk' : kBox mm.nd.kind = true := by simpa using hk
    by_cases hlb : 0 ≤ mm.label
    · rw [if_pos hlb] at hl
      by_cases ht : mm.told = true
      · rw [if_pos ht, Option.some.injEq, Prod.mk.injEq] at hl
        obtain ⟨rfl, rfl⟩ := hl
        exact form_back w0 w B p m hv ov c ms bs n mm hT hW hm hE hk' hlb ht
      · rw [if_neg ht, Option.some.injEq, Prod.mk.injEq] at hl
        obtain ⟨rfl, rfl⟩ := hl
        have h := form_body w0 w B p m hv ov c ms bs n mm hT hW hm hE hk' (fun _ => by simpa using ht)
        rw [show labL mm = _ from if_pos hlb, show labMs mm n ms = _ from if_pos hlb] at h
        exact h
    · rw [if_neg hlb, Option.some.injEq, Prod.mk.injEq] at hl
      obtain ⟨rfl, rfl⟩ := hl
      have h := form_body w0 w B p m hv ov c ms bs n mm hT hW hm hE hk' (fun h => absurd h hlb)
      rw [show labL mm = _ from if_neg hlb, show labMs mm n ms = _ from if_neg hlb] at h
      exact h
theorem form_keeps {ms ms' : List (Int × Met)} {x : Int × Int} {l : List Pc} (h : EachOk ms) (hl : formM goTells ms x = some (l, ms')) : EachOk ms' := by
  unfold formM at hl
  repeat' split at hl
  all_goals
    simp only [Option.some.injEq, Prod.mk.injEq, reduceCtorEq] at hl
  all_goals
    obtain ⟨_, rfl⟩ := hl
    first
    | exact h
    | exact h.told _
end Go.Proofs.YtpejmgellidhbaaDoor
