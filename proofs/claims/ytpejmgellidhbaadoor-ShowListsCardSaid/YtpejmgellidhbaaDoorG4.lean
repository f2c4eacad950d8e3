/- The statement ShowTexts: what a text reads as, and its laws. -/
import Derived.Test.YtpejmgellidhbaaDoorG1
namespace Go.Proofs.YtpejmgellidhbaaDoor
open Go.RowKit

def textNd (raw : List Int) : Nd := ⟨1, 4, raw, []⟩
theorem show_text (raw : List Int) (h : raw.length ≤ 499) : showM [textNd raw] (2, 1) = (quotedL raw, 0) := by
  have hf : findN [textNd raw] 1 = some (textNd raw) := by simp [findN, textNd]
  have hv : validB 2 1 = true := by decide
  have hv' : ¬ validB 2 1 = false := by decide
  have hk : kBox (textNd raw).kind = false := by show kBox 4 = false; decide
  have hl : lookM [textNd raw] 501 [(2, 1)] [] 0 = .ok [(1, ⟨textNd raw, 1, -1, false⟩)] := by
    unfold lookM
    rw [if_neg (by omega), if_neg hv', if_neg (by simp), metAt_nil]
    simp only [hf]
    have hg : grows (textNd raw) = raw.length := by simp [grows, textNd]
    rw [if_neg (fun h2 => by have := h2.2; simp only [textNd] at this; omega), if_neg (by rw [hk]; decide), hg]
    show lookM [textNd raw] 500 [] _ _ = _
    unfold lookM
    rfl
  have hlab : labelM 0 [(1, (⟨textNd raw, 1, -1, false⟩ : Met))] = [(1, ⟨textNd raw, 1, -1, false⟩)] := by
    simp [labelM, many, hk]
  have hq : leafL (textNd raw) = quotedL raw := by simp [leafL, textNd]
  have ht : tellM goTells (rounds (labelM 0 [(1, ⟨textNd raw, 1, -1, false⟩)])) [.val (2, 1)] (labelM 0 [(1, ⟨textNd raw, 1, -1, false⟩)]) [] = some (quotedL raw) := by
    rw [hlab]
    have hr : rounds [(1, (⟨textNd raw, 1, -1, false⟩ : Met))] = 5 + 1 := by simp [rounds, wtE, wtN, hk]
    rw [hr]
    have hform : formM goTells [(1, ⟨textNd raw, 1, -1, false⟩)] (2, 1) = some ([.text (bsOf (leafL (textNd raw)))], [(1, ⟨textNd raw, 1, -1, false⟩)]) := by
      unfold formM
      rw [if_neg hv', if_neg (by simp), metAt_cons, if_pos rfl]
      simp only
      rw [if_pos hk]
      rfl
    unfold tellM
    rw [hform]
    show tellM goTells 5 [.text (bsOf (leafL (textNd raw)))] _ [] = _
    unfold tellM
    show tellM goTells 4 [] _ ([] ++ (bsOf (leafL (textNd raw))).data.toList) = _
    rw [hq]
    simp [tellM, bsOf]
  unfold showM
  rw [hl]
  simp only [ht]
  rfl
theorem show_large (raw : List Int) (h : 499 < raw.length) : showM [textNd raw] (2, 1) = (largeL, 0) := by
  have hf : findN [textNd raw] 1 = some (textNd raw) := by simp [findN, textNd]
  have hv' : ¬ validB 2 1 = false := by decide
  have hl : lookM [textNd raw] 501 [(2, 1)] [] 0 = .large := by
    unfold lookM
    rw [if_neg (by omega), if_neg hv', if_neg (by simp), metAt_nil]
    simp only [hf]
    rw [if_pos ⟨rfl, by show (500 : Int) < 0 + 1 + (raw.length : Int); omega⟩]
  unfold showM
  rw [hl]
theorem small_text (raw : List Int) (h : raw.length ≤ 4096) (hb : ∀ x ∈ raw, 0 ≤ x ∧ x < 256) : SmallNodes [textNd raw] := fun nd hnd => by
  simp only [List.mem_singleton] at hnd
  subst hnd
  refine ⟨by simp [textNd], by show raw.length ≤ 20000; omega, ?_⟩
  show IntOk (rawM raw)
  cases raw with
  | nil => simp [rawM, IntOk]
  | cons x r =>
    have := hb x (by simp)
    simp only [rawM, IntOk, List.getD_cons_zero]
    omega
/-- A byte of a text, as the statement tells it. -/
def hexD (n : Nat) : UInt8 := if n < 10 then UInt8.ofNat (48 + n) else UInt8.ofNat (55 + n)
theorem hexL_two : ∀ y, y < 256 → hexL y 2 = [hexD (y / 16), hexD (y % 16)] := by
  intro y hy
  have hd : ∀ n, n < 16 → Lib.toUpperA [dig n] = [hexD n] := by decide
  have h1 : y % 16 < 16 := Nat.mod_lt _ (by omega)
  by_cases h : y < 16
  · have e1 : y / 16 = 0 := Nat.div_eq_of_lt h
    have e2 : y % 16 = y := Nat.mod_eq_of_lt h
    unfold hexL
    rw [hexA_small h, hd y h, e1, e2]
    rfl
  · have h2 : y / 16 < 16 := by omega
    unfold hexL
    rw [hexA_big h, hexA_small h2]
    show List.replicate (2 - 2) 48 ++ Lib.toUpperA [dig (y / 16), dig (y % 16)] = _
    have e : Lib.toUpperA [dig (y / 16), dig (y % 16)] = Lib.toUpperA [dig (y / 16)] ++ Lib.toUpperA [dig (y % 16)] := rfl
    rw [e, hd _ h2, hd _ h1]
    rfl
/-- A slice of bytes reads as this list. -/
def RdBytes (w : World) (v : Value) (xs : List Int) : Prop :=
  ∃ A c, v = .slice A xs.length c ∧ (0 < xs.length → ∃ b o, A = some ⟨b, o, none⟩ ∧ b < w.heap.size ∧ ∀ j, (h : j < xs.length) → w.cell? ⟨b, o + j, none⟩ = some (.int .u8 xs[j]))
theorem byteOf_nat (y : Nat) (h : y < 256) : byteOf (y : Int) = y := by unfold byteOf; omega
/-- The piece of one byte within the whole text. -/
theorem quoted_piece (raw : List Int) (k : Nat) (h : k < raw.length) : ∃ r, quotedL raw = (34 :: quoteM (raw.take k)) ++ (quoteB (byteOf raw[k]) ++ r) ∧ 0 < r.length := by
  have e : quoteM raw = quoteM (raw.take k) ++ (quoteB (byteOf raw[k]) ++ quoteM (raw.drop (k + 1))) := by
    have e1 : raw = raw.take k ++ (raw[k] :: raw.drop (k + 1)) := by
      rw [← List.drop_eq_getElem_cons h, List.take_append_drop]
    have e2 : ∀ a b : List Int, quoteM (a ++ b) = quoteM a ++ quoteM b := fun a b => by simp [quoteM]
    have e3 : ∀ (x : Int) (b : List Int), quoteM (x :: b) = quoteB (byteOf x) ++ quoteM b := fun x b => by simp [quoteM]
    have e4 := congrArg quoteM e1
    rw [e2, e3] at e4
    exact e4
  refine ⟨quoteM (raw.drop (k + 1)) ++ [34], ?_, by simp⟩
  unfold quotedL
  rw [e]
  simp
end Go.Proofs.YtpejmgellidhbaaDoor
