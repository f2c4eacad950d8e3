/- ShowNumbers: what Check's 0 gives. -/
import Derived.Test.YtpejmgellidhbaaDoorO1
namespace Go.Proofs.YtpejmgellidhbaaDoor

theorem seen_asc {ns : List Nd} (h : Seen1 ns ns.length) : ∀ (d i : Nat) (hj : i + d + 1 < ns.length), idAt ns i < idAt ns (i + d + 1)
  | 0, i, hj => by
    have := (h (i + 0 + 1) hj hj).2.1 (by omega)
    rw [idAt_get hj]
    exact this
  | d + 1, i, hj => by
    have h1 := seen_asc h d i (by omega)
    have h2 := (h (i + (d + 1) + 1) hj hj).2.1 (by omega)
    rw [← idAt_get hj] at h2
    have e : i + (d + 1) + 1 - 1 = i + d + 1 := by omega
    rw [e] at h2
    omega
theorem seen_lt {ns : List Nd} (h : Seen1 ns ns.length) {i j : Nat} (hij : i < j) (hj : j < ns.length) : idAt ns i < idAt ns j := by
  have := seen_asc h (j - i - 1) i (by omega)
  have e : i + (j - i - 1) + 1 = j := by omega
  rwa [e] at this
theorem seen_uniq {ns : List Nd} (h : Seen1 ns ns.length) : ∀ a ∈ ns, ∀ b ∈ ns, a.id = b.id → a = b := by
  intro a ha b hb e
  obtain ⟨i, hi, rfl⟩ := List.getElem_of_mem ha
  obtain ⟨j, hj, rfl⟩ := List.getElem_of_mem hb
  rw [← idAt_get hi, ← idAt_get hj] at e
  by_cases hij : i = j
  · subst hij; rfl
  · rcases Nat.lt_or_ge i j with h1 | h1
    · have := seen_lt h h1 hj; omega
    · have := seen_lt h (show j < i by omega) hi; omega
/-- All numbers are small. -/
def Bd (ns : List Nd) : Prop := ∀ nd ∈ ns, NumOk nd.id
theorem seen_bd {ns : List Nd} (h : Seen1 ns ns.length) (hl : 0 < ns.length) (hb : idAt ns (ns.length - 1) ≤ 1099511627776) : Bd ns := by
  intro a ha
  obtain ⟨i, hi, rfl⟩ := List.getElem_of_mem ha
  have h1 := (h i hi hi).1
  have h2 : idAt ns i ≤ idAt ns (ns.length - 1) := by
    by_cases e : i = ns.length - 1
    · rw [e]; exact Int.le_refl _
    · exact Int.le_of_lt (seen_lt h (by omega) (by omega))
  rw [idAt_get hi] at h2
  exact ⟨by omega, by omega⟩
theorem seen_vals {ns : List Nd} (h : Seen2 ns ns.length) (hb : Bd ns) : NdsOk ns := by
  intro nd hnd x hx e
  obtain ⟨j, hj, rfl⟩ := List.getElem_of_mem hnd
  obtain ⟨nd2, h2, h3⟩ := h j hj hj x hx e
  rw [← h3]
  exact hb nd2 h2
/-- The nodes from i on, in the other order, with their other numbers. -/
def doneNs (f : Int → Int) (ns : List Nd) (i : Nat) : List Nd := ((ns.drop i).map (turnNd f)).reverse
theorem doneNs_end (f : Int → Int) (ns : List Nd) : doneNs f ns ns.length = [] := by simp [doneNs]
theorem doneNs_zero (f : Int → Int) (ns : List Nd) : doneNs f ns 0 = (ns.map (turnNd f)).reverse := by simp [doneNs]
theorem doneNs_step (f : Int → Int) (ns : List Nd) (j : Nat) (h : j < ns.length) : doneNs f ns j = doneNs f ns (j + 1) ++ [turnNd f ns[j]] := by
  unfold doneNs
  rw [List.drop_eq_getElem_cons h, List.map_cons, List.reverse_cons]
theorem doneNs_len (f : Int → Int) (ns : List Nd) (i : Nat) : (doneNs f ns i).length = ns.length - i := by simp [doneNs]
theorem small_turn {f : Int → Int} {ns : List Nd} (h : SmallNodes ns) : SmallNodes (ns.map (turnNd f)).reverse := by
  intro nd hnd
  rw [List.mem_reverse, List.mem_map] at hnd
  obtain ⟨nd2, h2, rfl⟩ := hnd
  have := h nd2 h2
  exact ⟨by simpa [turnNd] using this.1, this.2.1, this.2.2⟩
end Go.Proofs.YtpejmgellidhbaaDoor
