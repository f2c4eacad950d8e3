/- Lists, rings and chains of boxes: what is told of them, as plain Lean. -/
import Derived.Test.YtpejmgellidhbaaDoorL1
namespace Go.Proofs.YtpejmgellidhbaaDoor
open Go.RowKit

theorem tell_more (T : Tells) : ∀ (f : Nat) (todo : List Pc) (ms : List (Int × Met)) (out R : List UInt8), tellM T f todo ms out = some R → tellM T (f + 1) todo ms out = some R
  | 0, _, _, _, _, h => by simp [tellM] at h
  | f + 1, [], ms, out, R, h => by simpa [tellM] using h
  | f + 1, .text s :: r, ms, out, R, h => by
    simp only [tellM] at h ⊢
    exact tell_more T f _ _ _ _ h
  | f + 1, .val x :: r, ms, out, R, h => by
    unfold tellM at h ⊢
    cases hf : formM T ms x with
    | none => rw [hf] at h; simp at h
    | some l =>
      rw [hf] at h
      exact tell_more T f _ _ _ _ h
  | f + 1, .tail x :: r, ms, out, R, h => by
    unfold tellM at h ⊢
    cases hf : tailM ms x with
    | none => rw [hf] at h; simp at h
    | some l =>
      rw [hf] at h
      exact tell_more T f _ _ _ _ h
theorem tell_much (T : Tells) {f : Nat} {todo : List Pc} {ms : List (Int × Met)} {out R : List UInt8} (h : tellM T f todo ms out = some R) : ∀ k, tellM T (f + k) todo ms out = some R
  | 0 => h
  | k + 1 => tell_more T (f + k) _ _ _ _ (tell_much T h k)
theorem tell_one (T : Tells) {f g : Nat} {todo : List Pc} {ms : List (Int × Met)} {out R R' : List UInt8} (h : tellM T f todo ms out = some R) (h' : tellM T g todo ms out = some R') : R = R' := by
  have h1 := tell_much T h g
  have h2 := tell_much T h' f
  rw [Nat.add_comm g f, h1] at h2
  exact Option.some.inj h2
/-- What is told, whatever the fuel. -/
def Says (todo : List Pc) (ms : List (Int × Met)) (out R : List UInt8) : Prop := ∃ f, tellM goTells f todo ms out = some R
theorem says_nil (ms : List (Int × Met)) (out : List UInt8) : Says [] ms out out := ⟨1, rfl⟩
theorem says_text {s : ByteArray} {r : List Pc} {ms : List (Int × Met)} {out R : List UInt8} (h : Says r ms (out ++ s.data.toList) R) : Says (.text s :: r) ms out R := by
  obtain ⟨f, h⟩ := h
  exact ⟨f + 1, h⟩
theorem says_val {x : Int × Int} {l r : List Pc} {ms ms' : List (Int × Met)} {out R : List UInt8} (hf : formM goTells ms x = some (l, ms')) (h : Says (l ++ r) ms' out R) : Says (.val x :: r) ms out R := by
  obtain ⟨f, h⟩ := h
  refine ⟨f + 1, ?_⟩
  unfold tellM
  rw [hf]
  exact h
theorem says_tail {x : Int × Int} {l r : List Pc} {ms : List (Int × Met)} {out R : List UInt8} (hf : tailM ms x = some l) (h : Says (l ++ r) ms out R) : Says (.tail x :: r) ms out R := by
  obtain ⟨f, h⟩ := h
  refine ⟨f + 1, ?_⟩
  unfold tellM
  rw [hf]
  exact h
theorem shows_of_says {nodes : List Nd} {v : Int × Int} {ms : List (Int × Met)} {R : List UInt8} (hl : lookM nodes 501 [v] [] 0 = .ok ms) (h : Says [.val v] (labelM 0 ms) [] R) : showM nodes v = (R, 0) := by
  obtain ⟨f, h⟩ := h
  obtain ⟨R', hR⟩ := tell_ok goTells hl
  have e := tell_one goTells hR h
  unfold showM
  rw [hl]
  simp only [hR, e]
  rfl
theorem form_atom' (ms : List (Int × Met)) (x : Int × Int) (hv : validB x.1 x.2 = true) (h2 : x.1 ≠ 2) : formM goTells ms x = some ([.text (bsOf (atomL x))], ms) := by
  have hv' : ¬ validB x.1 x.2 = false := by rw [hv]; decide
  unfold formM
  rw [if_neg hv', if_pos h2]
  rfl
/-- An object without a label. -/
theorem form_plain (ms : List (Int × Met)) (k : Int) (m : Met) (hv : validB 2 k = true) (hm : metAt ms k = some m) (hk : kBox m.nd.kind = true) (hl : m.label < 0) : formM goTells ms (2, k) = some (bodyM m.nd.kind m.nd.fields, ms) := by
  have hv' : ¬ validB 2 k = false := by rw [hv]; decide
  have hk' : ¬ kBox m.nd.kind = false := by rw [hk]; decide
  unfold formM
  rw [if_neg hv', if_neg (by simp)]
  simp only [hm]
  rw [if_neg hk', if_neg (by omega)]
def dgB (i : Nat) : UInt8 := UInt8.ofNat (48 + i % 10)
theorem atom_dg (i : Nat) : atomL (1, ((i % 10 : Nat) : Int)) = [dgB i] := by
  have h : i % 10 < 10 := Nat.mod_lt _ (by omega)
  show Lib.itoa ((i % 10 : Nat) : Int) = _
  unfold Lib.itoa
  rw [if_neg (by omega)]
  show Lib.decDigits (i % 10) = _
  rw [Lib.decDigits, dif_pos h]
  rfl
/-- The digits up to k, blanks between. -/
def digsTo (k : Nat) : List UInt8 := (List.range k).flatMap fun j => (if j = 0 then [] else [32]) ++ [dgB (j + 1)]
theorem digsTo_succ (k : Nat) (h : 1 ≤ k) : digsTo (k + 1) = digsTo k ++ ([32] ++ [dgB (k + 1)]) := by
  unfold digsTo
  rw [List.range_succ, List.flatMap_append]
  simp [show k ≠ 0 by omega]
def boxTo (k : Nat) : List UInt8 := (List.range k).flatMap fun _ => [35, 38]
theorem boxTo_succ (k : Nat) : boxTo (k + 1) = boxTo k ++ [35, 38] := by
  unfold boxTo
  rw [List.range_succ, List.flatMap_append]
  simp
theorem says_links (last : Int × Int) (n : Nat) (hn : n ≤ 600) (L : List (Int × Met)) (pre R : List UInt8) : ∀ d k, k + d = n → 1 ≤ k → (∀ i : Nat, k < i → i ≤ n → metAt L (i : Int) = some (linkMet 1 last n i)) →
    Says [.tail last] L (pre ++ digsTo n) R → Says [.tail (linkV last n k)] L (pre ++ digsTo k) R := by
  intro d
  induction d with
  | zero =>
    intro k hk h1 hL h
    obtain rfl : k = n := by omega
    rw [show linkV last k k = last by simp [linkV]]
    exact h
  | succ d ih =>
    intro k hk h1 hL h
    rw [show linkV last n k = (2, ((k + 1 : Nat) : Int)) by unfold linkV; rw [if_neg (by omega)]]
    have hm := hL (k + 1) (by omega) (by omega)
    have hf : tailM L (2, ((k + 1 : Nat) : Int)) = some [.text sp1, .val (1, (((k + 1) % 10 : Nat) : Int)), .tail (linkV last n (k + 1))] := by
      unfold tailM
      rw [if_neg (by simp), if_neg (by simp)]
      simp only [hm]
      rw [if_pos ⟨rfl, by show (-1 : Int) < 0; omega⟩]
      simp [linkMet, linkNd, fieldM]
    refine says_tail hf (says_text (says_val (form_atom' _ _ (valid_fix _ (by omega)) (by simp)) (says_text ?_)))
    rw [atom_dg]
    have e : pre ++ digsTo k ++ sp1.data.toList ++ (bsOf [dgB (k + 1)]).data.toList = pre ++ digsTo (k + 1) := by
      rw [digsTo_succ k h1]
      simp [sp1, bsOf]
    rw [e]
    exact ih (k + 1) (by omega) (by omega) (fun i h2 h3 => hL i (by omega) h3) h
theorem label_none : ∀ (k : Int) (ms : List (Int × Met)), (∀ x ∈ ms, x.2.times = 1) → labelM k ms = ms
  | _, [], _ => rfl
  | k, x :: r, h => by
    have h1 := h x (by simp)
    unfold labelM
    rw [if_neg (by simp [many, h1]), label_none k r (fun y hy => h y (List.mem_cons_of_mem _ hy))]
theorem linkM_times (kd : Int) (last : Int × Int) (n k : Nat) : ∀ x ∈ linkM kd last n k, x.2.times = 1 := by
  intro x hx
  obtain ⟨j, _, rfl⟩ := List.mem_map.1 hx
  rfl
theorem show_list (n : Nat) (hn : n ≤ 600) (h1 : 1 ≤ n) : showM (linkG 1 (3, 0) n n) (2, 1) = (if 500 < 2 * n + 1 then largeL else [40] ++ digsTo n ++ [41], 0) := by
  have hl := look_ends 1 2 (.inl ⟨rfl, rfl⟩) n hn h1
  split at hl
  · rw [if_pos (by omega)]
    unfold showM
    rw [hl]
  · rw [if_neg (by omega)]
    refine shows_of_says hl ?_
    rw [label_none _ _ (linkM_times _ _ _ _)]
    have hm : metAt (linkM 1 (3, 0) n n) 1 = some (linkMet 1 (3, 0) n 1) := (link_at 1 (3, 0) n 1 n).trans (if_pos ⟨by omega, h1⟩)
    refine says_val (form_plain _ _ _ (by decide) hm rfl (by show (-1 : Int) < 0; omega)) ?_
    rw [show bodyM (linkMet 1 (3, 0) n 1).nd.kind (linkMet 1 (3, 0) n 1).nd.fields = [.text par0, .val (1, ((1 % 10 : Nat) : Int)), .tail (linkV (3, 0) n 1)] by simp [linkMet, linkNd, bodyM, fieldM]]
    refine says_text (says_val (form_atom' _ _ (valid_fix _ (by omega)) (by simp)) (says_text ?_))
    rw [atom_dg]
    have e : [] ++ par0.data.toList ++ (bsOf [dgB 1]).data.toList = [40] ++ digsTo 1 := by simp [par0, bsOf, digsTo]
    rw [e]
    refine says_links (3, 0) n hn _ [40] _ (n - 1) 1 (by omega) (Nat.le_refl _) (fun i h2 h3 => (link_at 1 (3, 0) n i n).trans (if_pos ⟨by omega, h3⟩)) ?_
    refine says_tail (by unfold tailM; rw [if_pos rfl]) (says_text ?_)
    rw [show [40] ++ digsTo n ++ par1.data.toList = [40] ++ digsTo n ++ [41] by simp [par1]]
    exact says_nil _ _
theorem show_ring (n : Nat) (hn : n ≤ 600) (h1 : 1 ≤ n) : showM (linkG 1 (2, 1) n n) (2, 1) = (if 500 < 2 * n + 1 then largeL else [35, 48, 61, 40] ++ digsTo n ++ [32, 46, 32, 35, 48, 35, 41], 0) := by
  have hl := look_ring n hn h1
  split at hl
  · rw [if_pos (by omega)]
    unfold showM
    rw [hl]
  · rw [if_neg (by omega)]
    refine shows_of_says hl ?_
    have hit : Lib.itoa 0 = [48] := by
      unfold Lib.itoa
      rw [if_neg (by omega), show (0 : Int).toNat = 0 from rfl, Lib.decDigits]
      rfl
    obtain ⟨m, rfl⟩ : ∃ m, n = m + 1 := ⟨n - 1, by omega⟩
    have hcons : linkM 1 (2, 1) (m + 1) (m + 1) = (1, linkMet 1 (2, 1) (m + 1) 1) :: ((List.range m).map fun j => (((j + 1 + 1 : Nat) : Int), linkMet 1 (2, 1) (m + 1) (j + 1 + 1))) := by
      unfold linkM
      rw [List.range_succ_eq_map]
      simp
    obtain ⟨r, hr⟩ : ∃ r, r = ((List.range m).map fun j => (((j + 1 + 1 : Nat) : Int), linkMet 1 (2, 1) (m + 1) (j + 1 + 1))) := ⟨_, rfl⟩
    rw [← hr] at hcons
    have hrt : ∀ x ∈ r, x.2.times = 1 := fun x hx => linkM_times 1 (2, 1) (m + 1) (m + 1) x (by rw [hcons]; exact List.mem_cons_of_mem _ hx)
    obtain ⟨m1, hm1⟩ : ∃ m1 : Met, m1 = setLabel 0 (once (linkMet 1 (2, 1) (m + 1) 1)) := ⟨_, rfl⟩
    have hlab : labelM 0 (metMod once 1 (linkM 1 (2, 1) (m + 1) (m + 1))) = (1, m1) :: r := by
      rw [hcons]
      unfold metMod
      rw [if_pos rfl]
      unfold labelM
      rw [if_pos (by rfl), label_none _ _ hrt, hm1]
    rw [hlab]
    have hL : ∀ i : Nat, 1 < i → i ≤ m + 1 → metAt r (i : Int) = some (linkMet 1 (2, 1) (m + 1) i) := fun i h2 h3 => by
      have h4 := (link_at 1 (2, 1) (m + 1) i (m + 1)).trans (if_pos ⟨by omega, h3⟩)
      rw [hcons, metAt_cons, if_neg (by simp only; omega)] at h4
      exact h4
    have hk1 : m1.nd.kind = 1 := by rw [hm1]; rfl
    have hla : m1.label = 0 := by rw [hm1]; rfl
    have hto : m1.told = false := by rw [hm1]; rfl
    have hfi : m1.nd.fields = [(1, ((1 % 10 : Nat) : Int)), linkV (2, 1) (m + 1) 1] := by rw [hm1]; rfl
    have hf1 : formM goTells ((1, m1) :: r) (2, 1) = some (.text (bsOf ([35] ++ Lib.itoa 0 ++ [61])) :: bodyM m1.nd.kind m1.nd.fields, (1, setTold m1) :: r) := by
      unfold formM
      rw [if_neg (by decide), if_neg (by simp), metAt_cons, if_pos rfl]
      simp only
      rw [if_neg (by rw [hk1]; decide), if_pos (by rw [hla]; decide), if_neg (by rw [hto]; decide), hla]
      simp [metMod, goTells]
    refine says_val hf1 ?_
    rw [hk1, hfi, show bodyM 1 [(1, ((1 % 10 : Nat) : Int)), linkV (2, 1) (m + 1) 1] = [.text par0, .val (1, ((1 % 10 : Nat) : Int)), .tail (linkV (2, 1) (m + 1) 1)] by simp [bodyM, fieldM]]
    refine says_text (says_text (says_val (form_atom' _ _ (valid_fix _ (by omega)) (by simp)) (says_text ?_)))
    rw [atom_dg, hit]
    have e : [] ++ (bsOf ([35] ++ [48] ++ [61])).data.toList ++ par0.data.toList ++ (bsOf [dgB 1]).data.toList = [35, 48, 61, 40] ++ digsTo 1 := by simp [par0, bsOf, digsTo]
    rw [e]
    refine says_links (2, 1) (m + 1) hn _ [35, 48, 61, 40] _ m 1 (by omega) (Nat.le_refl _) (fun i h2 h3 => ?_) ?_
    · rw [metAt_cons, if_neg (by simp only; omega)]
      exact hL i h2 h3
    have ht : tailM ((1, setTold m1) :: r) (2, 1) = some [.text dot3, .val (2, 1), .text par1] := by
      unfold tailM
      rw [if_neg (by decide), if_neg (by decide), metAt_cons, if_pos rfl]
      simp only
      rw [if_neg (fun h => by have := h.2; simp [setTold, hla] at this)]
    have hf2 : formM goTells ((1, setTold m1) :: r) (2, 1) = some ([.text (bsOf ([35] ++ Lib.itoa 0 ++ [35]))], (1, setTold m1) :: r) := by
      unfold formM
      rw [if_neg (by decide), if_neg (by simp), metAt_cons, if_pos rfl]
      simp only
      rw [if_neg (by simp only [setTold]; rw [hk1]; decide), if_pos (by simp only [setTold]; rw [hla]; decide), if_pos (show (setTold m1).told = true from rfl)]
      simp [setTold, hla, goTells]
    refine says_tail ht (says_text (says_val hf2 (says_text (says_text ?_))))
    rw [hit]
    have e2 : [35, 48, 61, 40] ++ digsTo (m + 1) ++ dot3.data.toList ++ (bsOf ([35] ++ [48] ++ [35])).data.toList ++ par1.data.toList = [35, 48, 61, 40] ++ digsTo (m + 1) ++ [32, 46, 32, 35, 48, 35, 41] := by simp [dot3, par1, bsOf]
    rw [e2]
    exact says_nil _ _
theorem says_boxes (n : Nat) (hn : n ≤ 600) (L : List (Int × Met)) (R : List UInt8) (hL : ∀ i : Nat, 1 ≤ i → i ≤ n → metAt L (i : Int) = some (linkMet 2 (3, 0) n i)) : ∀ d k, k + d = n → 1 ≤ k →
    Says [.val (3, 0)] L (boxTo n) R → Says [.val (linkV (3, 0) n k)] L (boxTo k) R := by
  intro d
  induction d with
  | zero =>
    intro k hk h1 h
    obtain rfl : k = n := by omega
    rw [show linkV (3, 0) k k = (3, 0) by simp [linkV]]
    exact h
  | succ d ih =>
    intro k hk h1 h
    rw [show linkV (3, 0) n k = (2, ((k + 1 : Nat) : Int)) by unfold linkV; rw [if_neg (by omega)]]
    refine says_val (form_plain _ _ _ (valid_ref _ (by omega)) (hL (k + 1) (by omega) (by omega)) rfl (by show (-1 : Int) < 0; omega)) ?_
    rw [show bodyM (linkMet 2 (3, 0) n (k + 1)).nd.kind (linkMet 2 (3, 0) n (k + 1)).nd.fields = [.text box2, .val (linkV (3, 0) n (k + 1))] by simp [linkMet, linkNd, bodyM, fieldM]]
    refine says_text ?_
    rw [show boxTo k ++ box2.data.toList = boxTo (k + 1) by rw [boxTo_succ]; simp [box2]]
    exact ih (k + 1) (by omega) (by omega) h
theorem show_boxes (n : Nat) (hn : n ≤ 600) (h1 : 1 ≤ n) : showM (linkG 2 (3, 0) n n) (2, 1) = (if 500 < n + 1 then largeL else boxTo n ++ [40, 41], 0) := by
  have hl := look_ends 2 1 (.inr ⟨rfl, rfl⟩) n hn h1
  rw [Nat.one_mul] at hl
  split at hl
  · rw [if_pos (by omega)]
    unfold showM
    rw [hl]
  · rw [if_neg (by omega)]
    refine shows_of_says hl ?_
    rw [label_none _ _ (linkM_times _ _ _ _)]
    have hL : ∀ i : Nat, 1 ≤ i → i ≤ n → metAt (linkM 2 (3, 0) n n) (i : Int) = some (linkMet 2 (3, 0) n i) := fun i h2 h3 => (link_at 2 (3, 0) n i n).trans (if_pos ⟨h2, h3⟩)
    refine says_val (form_plain _ _ _ (by decide) (hL 1 (by omega) h1) rfl (by show (-1 : Int) < 0; omega)) ?_
    rw [show bodyM (linkMet 2 (3, 0) n 1).nd.kind (linkMet 2 (3, 0) n 1).nd.fields = [.text box2, .val (linkV (3, 0) n 1)] by simp [linkMet, linkNd, bodyM, fieldM]]
    refine says_text ?_
    rw [show [] ++ box2.data.toList = boxTo 1 by simp [box2, boxTo]]
    refine says_boxes n hn _ _ hL (n - 1) 1 (by omega) (Nat.le_refl _) ?_
    refine says_val (form_atom' _ _ (by decide) (by decide)) (says_text ?_)
    rw [show boxTo n ++ (bsOf (atomL (3, 0))).data.toList = boxTo n ++ [40, 41] by simp [bsOf, atomL]]
    exact says_nil _ _
end Go.Proofs.YtpejmgellidhbaaDoor
