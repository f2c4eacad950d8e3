/- Labels of a walk, as plain Lean. -/
import Derived.Test.YtpejmgellidhbaaDoorB6
namespace Go.Proofs.YtpejmgellidhbaaDoor
open Go.RowKit

def setLabel (n : Int) (m : Met) : Met := { m with label := n }
def setTold (m : Met) : Met := { m with told := true }
/-- Whether an object gets a label. -/
def many (m : Met) : Bool := kBox m.nd.kind && decide (1 < m.times)
def labelM : Int → List (Int × Met) → List (Int × Met)
  | _, [] => []
  | n, x :: r => if many x.2 then (x.1, setLabel n x.2) :: labelM (n + 1) r else x :: labelM n r

theorem metMod_mid (f : Met → Met) (x : Int × Met) (r : List (Int × Met)) : ∀ pre : List (Int × Met), ((pre ++ x :: r).map (·.1)).Nodup → metMod f x.1 (pre ++ x :: r) = pre ++ (x.1, f x.2) :: r
  | [], _ => by simp [metMod]
  | y :: pre, h => by
    simp only [List.cons_append, List.map_cons, List.nodup_cons] at h
    have hne : ¬ y.1 = x.1 := fun e => h.1 (by rw [e]; simp)
    simp only [List.cons_append, metMod, if_neg hne, metMod_mid f x r pre h.2]
theorem mapAt_idx : ∀ (ms : List (Int × Met)) (bs : List Nat) (i : Nat) (n : Int) (mm : Met), bs.length = ms.length → (ms.map (·.1)).Nodup → ms[i]? = some (n, mm) → ∃ b, bs[i]? = some b ∧ mapAt ((ms.map (·.1)).zip bs) n = some b
  | [], bs, i, n, mm, _, _, h => by simp at h
  | x :: r, [], i, n, mm, hl, _, h => by simp at hl
  | x :: r, b :: bs, i, n, mm, hl, hk, h => by
    simp only [List.map_cons, List.nodup_cons] at hk
    cases i with
    | zero =>
      simp only [List.getElem?_cons_zero, Option.some.injEq] at h
      subst h
      exact ⟨b, rfl, by simp [mapAt]⟩
    | succ i =>
      simp only [List.getElem?_cons_succ] at h
      have hne : ¬ x.1 = n := fun e => hk.1 (by rw [e]; exact List.mem_map.2 ⟨_, List.mem_of_getElem? h, rfl⟩)
      obtain ⟨b', h1, h2⟩ := mapAt_idx r bs i n mm (by simpa using hl) hk.2 h
      exact ⟨b', h1, by simpa [mapAt, hne] using h2⟩
/-- What the loop of label has come to. -/
structure LabelAt (w0 w : World) (B p m : Nat) (hv ov : Value) (c : Int) (ms : List (Int × Met)) (bs : List Nat) (i : Nat) (nv iv : Value) : Prop where
  st : ∃ (pre rem : List (Int × Met)) (n : Int), pre.length = i ∧ i + rem.length = ms.length ∧ 0 ≤ n ∧ n ≤ i ∧ nv = .int .i64 n ∧ WalkAt w0 w B p m hv ov c (pre ++ rem) bs ∧ pre ++ labelM n rem = labelM 0 ms ∧ (pre ++ rem).map (·.1) = ms.map (·.1)
  i : iv = .int .i64 i
theorem order_at {w : World} {B n : Nat} {oA : Option Addr} {oc k : Nat} {xs : List Value} {i : Nat} {u : Value} (h : w.ownsRow B 3 1 (.slice oA n oc) k xs) (hi : xs[i]? = some u) : ∃ g, oA = some ⟨g, 0, none⟩ ∧ w.cell? ⟨g, i, none⟩ = some u := by
  have hlt := (List.getElem?_eq_some_iff.1 hi).1
  have hl := h.1
  obtain ⟨g, cap, hv, _, _⟩ := h.form (by omega)
  rw [Value.slice.injEq] at hv
  obtain ⟨rfl, rfl, rfl⟩ := hv
  refine ⟨g, rfl, ?_⟩
  have := h.cells (g := g) rfl i u hi
  rwa [show (⟨g, 0, none⟩ : Addr).add i = ⟨g, i, none⟩ from by unfold Addr.add; split <;> simp_all] at this
section
variable {w0 w : World} {B p m : Nat} {hv ov : Value} {c : Int} {ms : List (Int × Met)} {bs : List Nat} {pre r : List (Int × Met)} {x : Int × Met} {i : Nat} {n : Int}
theorem label_no (hm : many x.2 = false) (hpl : pre.length = i) (hrl : i + (x :: r).length = ms.length) (hn0 : 0 ≤ n) (hni : n ≤ i) (hW : WalkAt w0 w B p m hv ov c (pre ++ x :: r) bs)
    (hlm : pre ++ labelM n (x :: r) = labelM 0 ms) (hkeys : (pre ++ x :: r).map (·.1) = ms.map (·.1)) :
    ∃ (pre rem : List (Int × Met)) (n' : Int), pre.length = i + 1 ∧ i + 1 + rem.length = ms.length ∧ 0 ≤ n' ∧ n' ≤ (i + 1 : Nat) ∧ Value.int .i64 n = .int .i64 n' ∧ WalkAt w0 w B p m hv ov c (pre ++ rem) bs ∧ pre ++ labelM n' rem = labelM 0 ms ∧ (pre ++ rem).map (·.1) = ms.map (·.1) := by
  refine ⟨pre ++ [x], r, n, by simp [hpl], by simp only [List.length_cons] at hrl; omega, hn0, by omega, rfl, by simpa using hW, ?_, by simpa using hkeys⟩
  rw [← hlm]
  simp [labelM, hm]
theorem label_yes (hm : many x.2 = true) (hpl : pre.length = i) (hrl : i + (x :: r).length = ms.length) (hn0 : 0 ≤ n) (hni : n ≤ i) (hW : WalkAt w0 w B p m hv ov c (pre ++ (x.1, setLabel n x.2) :: r) bs)
    (hlm : pre ++ labelM n (x :: r) = labelM 0 ms) (hkeys : (pre ++ x :: r).map (·.1) = ms.map (·.1)) :
    ∃ (pre rem : List (Int × Met)) (n' : Int), pre.length = i + 1 ∧ i + 1 + rem.length = ms.length ∧ 0 ≤ n' ∧ n' ≤ (i + 1 : Nat) ∧ Value.int .i64 (n + 1) = .int .i64 n' ∧ WalkAt w0 w B p m hv ov c (pre ++ rem) bs ∧ pre ++ labelM n' rem = labelM 0 ms ∧ (pre ++ rem).map (·.1) = ms.map (·.1) := by
  refine ⟨pre ++ [(x.1, setLabel n x.2)], r, n + 1, by simp [hpl], by simp only [List.length_cons] at hrl; omega, by omega, by omega, rfl, by simpa using hW, ?_, by simpa using hkeys⟩
  rw [← hlm]
  simp [labelM, hm]
end
end Go.Proofs.YtpejmgellidhbaaDoor
