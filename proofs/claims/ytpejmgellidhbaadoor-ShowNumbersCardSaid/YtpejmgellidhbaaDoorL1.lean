/- Lists, rings and chains of boxes: what show tells of them, as plain Lean. -/
import Derived.Test.YtpejmgellidhbaaDoorG1
namespace Go.Proofs.YtpejmgellidhbaaDoor
open Go.RowKit

/-- What the node i of n leads to. -/
def linkV (last : Int × Int) (n i : Nat) : Int × Int := if i = n then last else (2, ((i + 1 : Nat) : Int))
/-- A node of a list (kind 1), or of a chain of boxes. -/
def linkNd (kd : Int) (last : Int × Int) (n i : Nat) : Nd := ⟨i, kd, [], if kd = 1 then [(1, ((i % 10 : Nat) : Int)), linkV last n i] else [linkV last n i]⟩
def linkG (kd : Int) (last : Int × Int) (n k : Nat) : List Nd := (List.range k).map fun j => linkNd kd last n (j + 1)
def linkMet (kd : Int) (last : Int × Int) (n i : Nat) : Met := ⟨linkNd kd last n i, 1, -1, false⟩
def linkM (kd : Int) (last : Int × Int) (n k : Nat) : List (Int × Met) := (List.range k).map fun j => (((j + 1 : Nat) : Int), linkMet kd last n (j + 1))
theorem linkG_succ (kd : Int) (last : Int × Int) (n k : Nat) : linkG kd last n (k + 1) = linkG kd last n k ++ [linkNd kd last n (k + 1)] := by simp [linkG, List.range_succ]
theorem linkM_succ (kd : Int) (last : Int × Int) (n k : Nat) : linkM kd last n (k + 1) = linkM kd last n k ++ [(((k + 1 : Nat) : Int), linkMet kd last n (k + 1))] := by simp [linkM, List.range_succ]
theorem linkG_length (kd : Int) (last : Int × Int) (n k : Nat) : (linkG kd last n k).length = k := by simp [linkG]
theorem link_find (kd : Int) (last : Int × Int) (n i : Nat) (h1 : 1 ≤ i) (h2 : i ≤ n) : findN (linkG kd last n n) (i : Int) = some (linkNd kd last n i) := by
  have hl : i - 1 < (linkG kd last n n).length := by rw [linkG_length]; omega
  have hg : ∀ j (h : j < (linkG kd last n n).length), (linkG kd last n n)[j] = linkNd kd last n (j + 1) := fun j h => by simp [linkG]
  have h3 := find_first (linkG kd last n n) (i : Int) (i - 1) hl (by rw [hg]; show (((i - 1 + 1 : Nat)) : Int) = i; omega) (fun j h hj => by rw [hg]; show ((j + 1 : Nat) : Int) ≠ i; omega)
  rw [hg, show i - 1 + 1 = i by omega] at h3
  exact h3
theorem link_at (kd : Int) (last : Int × Int) (n i : Nat) : ∀ k, metAt (linkM kd last n k) (i : Int) = if 1 ≤ i ∧ i ≤ k then some (linkMet kd last n i) else none
  | 0 => by
    rw [if_neg (by omega)]
    rfl
  | k + 1 => by
    rw [linkM_succ, metAt_append, link_at kd last n i k]
    by_cases h : 1 ≤ i ∧ i ≤ k
    · rw [if_pos h, if_pos ⟨h.1, by omega⟩]
    · rw [if_neg h, metAt_cons, metAt_nil]
      by_cases h2 : i = k + 1
      · subst h2
        rw [if_pos rfl, if_pos ⟨by omega, by omega⟩]
      · rw [if_neg (by simp only; omega), if_neg (by omega)]
theorem look_large (nodes : List Nd) (f : Nat) (x : Int × Int) (rest : List (Int × Int)) (ms : List (Int × Met)) (c : Int) (h : 500 < c + 1) : lookM nodes f (x :: rest) ms c = .large := by
  cases f with
  | zero => rfl
  | succ f => unfold lookM; rw [if_pos h]
theorem look_atom (nodes : List Nd) (f : Nat) (x : Int × Int) (rest : List (Int × Int)) (ms : List (Int × Met)) (c : Int) (h : ¬ 500 < c + 1) (hv : validB x.1 x.2 = true) (h2 : x.1 ≠ 2) : lookM nodes (f + 1) (x :: rest) ms c = lookM nodes f rest ms (c + 1) := by
  have hv' : ¬ validB x.1 x.2 = false := by rw [hv]; decide
  simp only [lookM, if_neg h, if_neg hv', if_pos h2]
theorem valid_ref (k : Nat) (h : k ≤ 100000) : validB 2 (k : Int) = true := by
  simp [validB, fitsB]
  omega
theorem valid_fix (k : Nat) (h : k ≤ 100000) : validB 1 (k : Int) = true := by
  simp [validB, fitsB]
  omega
theorem look_node (nodes : List Nd) (f : Nat) (k : Int) (nd : Nd) (ms : List (Int × Met)) (c : Int) (h : ¬ 500 < c + 1) (hv : validB 2 k = true) (ha : metAt ms k = none) (hf : findN nodes k = some nd) (hkb : kBox nd.kind = true) :
    lookM nodes (f + 1) [(2, k)] ms c = lookM nodes f (partsM nd.kind nd.fields) (ms ++ [(k, ⟨nd, 1, -1, false⟩)]) (c + 1) := by
  have h4 : nd.kind ≠ 4 := by
    intro e
    rw [e] at hkb
    exact absurd hkb (by decide)
  have hg : grows nd = 0 := by simp [grows, h4]
  rw [look_new (x := (2, k)) h hv rfl ha hf, if_neg (fun e => h4 e.1), if_pos hkb, hg, List.append_nil, Int.add_zero]
theorem link_step (kd : Int) (s : Nat) (hs : kd = 1 ∧ s = 2 ∨ kd = 2 ∧ s = 1) (last : Int × Int) (n : Nat) (hn : n ≤ 600) (k : Nat) (h1 : 1 ≤ k) (hk : k ≤ n) (hc : s * (k - 1) + 1 ≤ 500) :
    lookM (linkG kd last n n) (501 - s * (k - 1)) [(2, (k : Int))] (linkM kd last n (k - 1)) ((s * (k - 1) : Nat) : Int) =
      lookM (linkG kd last n n) (501 - s * k) [linkV last n k] (linkM kd last n k) ((s * k : Nat) : Int) := by
  have hm : linkM kd last n k = linkM kd last n (k - 1) ++ [((k : Int), ⟨linkNd kd last n k, 1, -1, false⟩)] := by
    have := linkM_succ kd last n (k - 1)
    rw [show k - 1 + 1 = k by omega] at this
    exact this
  have ha : metAt (linkM kd last n (k - 1)) (k : Int) = none := by rw [link_at, if_neg (by omega)]
  rcases hs with ⟨rfl, rfl⟩ | ⟨rfl, rfl⟩
  · obtain ⟨f, hf⟩ : ∃ f, 501 - 2 * (k - 1) = f + 1 + 1 := ⟨499 - 2 * (k - 1), by omega⟩
    rw [hf, look_node _ (f + 1) _ (linkNd 1 last n k) _ _ (by omega) (valid_ref k (by omega)) ha (link_find 1 last n k h1 hk) rfl, ← hm]
    have hp : partsM (linkNd 1 last n k).kind (linkNd 1 last n k).fields = [(1, ((k % 10 : Nat) : Int)), linkV last n k] := by simp [linkNd, partsM, fieldM]
    rw [hp, look_atom _ f _ _ _ _ (by omega) (valid_fix _ (by omega)) (by simp), show f = 501 - 2 * k by omega]
    congr 1
    omega
  · obtain ⟨f, hf⟩ : ∃ f, 501 - 1 * (k - 1) = f + 1 := ⟨500 - (k - 1), by omega⟩
    rw [hf, look_node _ f _ (linkNd 2 last n k) _ _ (by omega) (valid_ref k (by omega)) ha (link_find 2 last n k h1 hk) rfl, ← hm]
    have hp : partsM (linkNd 2 last n k).kind (linkNd 2 last n k).fields = [linkV last n k] := by simp [linkNd, partsM, fieldM]
    rw [hp, show f = 501 - 1 * k by omega]
    congr 1
    omega
theorem look_link (kd : Int) (s : Nat) (hs : kd = 1 ∧ s = 2 ∨ kd = 2 ∧ s = 1) (last : Int × Int) (n : Nat) (hn : n ≤ 600) : ∀ d k, k + d = n → 1 ≤ k →
    lookM (linkG kd last n n) (501 - s * (k - 1)) [(2, (k : Int))] (linkM kd last n (k - 1)) ((s * (k - 1) : Nat) : Int) =
      if 500 < s * n + 1 then .large else lookM (linkG kd last n n) (501 - s * n) [last] (linkM kd last n n) ((s * n : Nat) : Int) := by
  intro d
  induction d with
  | zero =>
    intro k hk h1
    obtain rfl : k = n := by omega
    by_cases hc : s * (k - 1) + 1 ≤ 500
    · rw [link_step kd s hs last k hn k h1 (Nat.le_refl _) hc, show linkV last k k = last by simp [linkV]]
      split
      · rw [look_large _ _ _ _ _ _ (by omega)]
      · rfl
    · have hc2 : 500 < s * k + 1 := by rcases hs with ⟨_, rfl⟩ | ⟨_, rfl⟩ <;> omega
      rw [if_pos hc2, look_large _ _ _ _ _ _ (by omega)]
  | succ d ih =>
    intro k hk h1
    by_cases hc : s * (k - 1) + 1 ≤ 500
    · rw [link_step kd s hs last n hn k h1 (by omega) hc, show linkV last n k = (2, ((k + 1 : Nat) : Int)) by unfold linkV; rw [if_neg (by omega)]]
      have := ih (k + 1) (by omega) (by omega)
      rw [show k + 1 - 1 = k by omega] at this
      exact this
    · have hc2 : 500 < s * n + 1 := by rcases hs with ⟨_, rfl⟩ | ⟨_, rfl⟩ <;> omega
      rw [if_pos hc2, look_large _ _ _ _ _ _ (by omega)]
/-- What look says of a list, of a chain of boxes. -/
theorem look_ends (kd : Int) (s : Nat) (hs : kd = 1 ∧ s = 2 ∨ kd = 2 ∧ s = 1) (n : Nat) (hn : n ≤ 600) (h1 : 1 ≤ n) :
    lookM (linkG kd (3, 0) n n) 501 [(2, 1)] [] 0 = if 500 < s * n + 1 then .large else .ok (linkM kd (3, 0) n n) := by
  have h := look_link kd s hs (3, 0) n hn (n - 1) 1 (by omega) (Nat.le_refl _)
  simp only [Nat.sub_self, Nat.mul_zero, Nat.sub_zero] at h
  have h0 : linkM kd (3, 0) n 0 = [] := rfl
  rw [h0] at h
  refine h.trans ?_
  split
  · rfl
  · obtain ⟨f, hf⟩ : ∃ f, 501 - s * n = f + 1 + 1 := ⟨499 - s * n, by rcases hs with ⟨_, rfl⟩ | ⟨_, rfl⟩ <;> omega⟩
    rw [hf, look_atom _ _ _ _ _ _ (by omega) (by decide) (by decide)]
    rfl
/-- What look says of a ring. -/
theorem look_ring (n : Nat) (hn : n ≤ 600) (h1 : 1 ≤ n) :
    lookM (linkG 1 (2, 1) n n) 501 [(2, 1)] [] 0 = if 500 < 2 * n + 1 then .large else .ok (metMod once 1 (linkM 1 (2, 1) n n)) := by
  have h := look_link 1 2 (.inl ⟨rfl, rfl⟩) (2, 1) n hn (n - 1) 1 (by omega) (Nat.le_refl _)
  simp only [Nat.sub_self, Nat.mul_zero, Nat.sub_zero] at h
  have h0 : linkM 1 (2, 1) n 0 = [] := rfl
  rw [h0] at h
  refine h.trans ?_
  split
  · rfl
  · obtain ⟨f, hf⟩ : ∃ f, 501 - 2 * n = f + 1 + 1 := ⟨499 - 2 * n, by omega⟩
    have ha : metAt (linkM 1 (2, 1) n n) 1 = some (linkMet 1 (2, 1) n 1) := by
      have := link_at 1 (2, 1) n 1 n
      rw [if_pos ⟨by omega, h1⟩] at this
      exact this
    rw [hf, look_met (x := (2, 1)) (by omega) (by decide) rfl ha, if_neg (fun e => absurd (show (1 : Int) = 4 from e.1) (by decide))]
    rfl
end Go.Proofs.YtpejmgellidhbaaDoor
