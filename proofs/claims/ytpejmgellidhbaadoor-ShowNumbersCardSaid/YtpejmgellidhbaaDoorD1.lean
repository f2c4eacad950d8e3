/- Laws of look's model, and of labels. -/
import Derived.Test.YtpejmgellidhbaaDoorB7
namespace Go.Proofs.YtpejmgellidhbaaDoor

/-! Lists of met objects. -/
theorem metAt_nil (n : Int) : metAt [] n = none := rfl
theorem metAt_cons (x : Int × Met) (r : List (Int × Met)) (n : Int) : metAt (x :: r) n = if x.1 = n then some x.2 else metAt r n := by
  unfold metAt
  by_cases h : x.1 = n <;> simp [h]
theorem metAt_append (a b : List (Int × Met)) (n : Int) : metAt (a ++ b) n = match metAt a n with | some m => some m | none => metAt b n := by
  induction a with
  | nil => rfl
  | cons x r ih =>
    rw [List.cons_append, metAt_cons, metAt_cons]
    by_cases h : x.1 = n
    · simp [h]
    · simp only [if_neg h, ih]
theorem metAt_mod (f : Met → Met) (n k : Int) : ∀ ms : List (Int × Met), metAt (metMod f n ms) k = if k = n then (metAt ms n).map f else metAt ms k
  | [] => by simp [metMod, metAt_nil]
  | x :: r => by
    unfold metMod
    by_cases hx : x.1 = n
    · rw [if_pos hx, metAt_cons, metAt_cons, metAt_cons, if_pos hx]
      by_cases hk : k = n
      · simp [hk, hx]
      · simp [hk, hx, Ne.symm hk]
    · rw [if_neg hx, metAt_cons, metAt_cons, metAt_cons, if_neg hx, metAt_mod f n k r]
      by_cases hk : k = n
      · simp [hk, hx]
      · simp [hk]
theorem metAt_mem : ∀ {ms : List (Int × Met)} {n : Int} {m : Met}, metAt ms n = some m → (n, m) ∈ ms
  | [], n, m, h => by simp [metAt_nil] at h
  | x :: r, n, m, h => by
    rw [metAt_cons] at h
    by_cases hx : x.1 = n
    · rw [if_pos hx, Option.some.injEq] at h
      subst h hx
      simp
    · rw [if_neg hx] at h
      exact List.mem_cons_of_mem _ (metAt_mem h)
theorem metAt_of_mem : ∀ {ms : List (Int × Met)} {n : Int} {m : Met}, (ms.map (·.1)).Nodup → (n, m) ∈ ms → metAt ms n = some m
  | [], n, m, _, h => by simp at h
  | x :: r, n, m, hk, h => by
    simp only [List.map_cons, List.nodup_cons] at hk
    rw [metAt_cons]
    rcases List.mem_cons.1 h with rfl | h
    · simp
    · have : x.1 ≠ n := fun e => hk.1 (by rw [e]; exact List.mem_map.2 ⟨_, h, rfl⟩)
      rw [if_neg this]
      exact metAt_of_mem hk.2 h

/-! How often a number is referred to. -/
def kids (nd : Nd) : List (Int × Int) := if kBox nd.kind then partsM nd.kind nd.fields else []
def cntR (n : Int) (l : List (Int × Int)) : Nat := l.countP fun x => x.1 == 2 && x.2 == n
def tms (ms : List (Int × Met)) (n : Int) : Int := match metAt ms n with | some m => m.times | none => 0
def allKids (ms : List (Int × Met)) : List (Int × Int) := ms.flatMap fun x => kids x.2.nd
theorem cntR_nil (n : Int) : cntR n [] = 0 := rfl
theorem cntR_cons (n : Int) (x : Int × Int) (l : List (Int × Int)) : cntR n (x :: l) = cntR n l + if x.1 = 2 ∧ x.2 = n then 1 else 0 := by
  unfold cntR
  rw [List.countP_cons]
  simp
theorem cntR_append (n : Int) (a b : List (Int × Int)) : cntR n (a ++ b) = cntR n a + cntR n b := by unfold cntR; rw [List.countP_append]
theorem allKids_mod (f : Met → Met) (hf : ∀ m, (f m).nd = m.nd) (n : Int) : ∀ ms : List (Int × Met), allKids (metMod f n ms) = allKids ms
  | [] => rfl
  | x :: r => by
    have ih := allKids_mod f hf n r
    unfold metMod
    unfold allKids at ih ⊢
    split
    · simp [hf]
    · simp [ih]
theorem tms_mod (n k : Int) (ms : List (Int × Met)) {m : Met} (h : metAt ms n = some m) : tms (metMod once n ms) k = tms ms k + if k = n then 1 else 0 := by
  unfold tms
  rw [metAt_mod]
  by_cases hk : k = n
  · subst hk
    simp [h, once]
  · simp [hk]
theorem tms_new (n k : Int) (ms : List (Int × Met)) (nd : Nd) (h : metAt ms n = none) : tms (ms ++ [(n, ⟨nd, 1, -1, false⟩)]) k = tms ms k + if k = n then 1 else 0 := by
  unfold tms
  rw [metAt_append]
  by_cases hk : k = n
  · subst hk
    simp [h, metAt_cons]
  · cases h2 : metAt ms k with
    | none => simp [metAt_cons, metAt_nil, hk, Ne.symm hk]
    | some m => simp [hk]
theorem mod_mem (f : Met → Met) (n : Int) : ∀ {ms : List (Int × Met)} {x : Int × Met}, x ∈ metMod f n ms → x ∈ ms ∨ ∃ y ∈ ms, x = (y.1, f y.2)
  | [], x, h => by simp [metMod] at h
  | y :: r, x, h => by
    unfold metMod at h
    split at h
    · rcases List.mem_cons.1 h with rfl | h
      · exact .inr ⟨y, by simp, rfl⟩
      · exact .inl (List.mem_cons_of_mem _ h)
    · rcases List.mem_cons.1 h with rfl | h
      · exact .inl (by simp)
      · rcases mod_mem f n h with h | ⟨z, hz, rfl⟩
        · exact .inl (List.mem_cons_of_mem _ h)
        · exact .inr ⟨z, List.mem_cons_of_mem _ hz, rfl⟩

/-- What holds of the objects that look has met, as long as these values are still to be looked at. -/
structure LookInv (nodes : List Nd) (v : Int × Int) (stk : List (Int × Int)) (ms : List (Int × Met)) (c : Int) : Prop where
  cnt : ∀ n, tms ms n + cntR n stk = cntR n (v :: allKids ms)
  keys : (ms.map (·.1)).Nodup
  each : ∀ x ∈ ms, x.2.label = -1 ∧ x.2.told = false ∧ 1 ≤ x.2.times ∧ findN nodes x.1 = some x.2.nd
  few : (ms.length : Int) ≤ c ∧ c ≤ 500
  good : ∀ x ∈ v :: allKids ms, x ∈ stk ∨ validB x.1 x.2 = true
theorem look_inv {nodes : List Nd} {v : Int × Int} : ∀ (f : Nat) (stk : List (Int × Int)) (ms : List (Int × Met)) (c : Int) (ms' : List (Int × Met)),
    lookM nodes f stk ms c = .ok ms' → LookInv nodes v stk ms c → ∃ c', LookInv nodes v [] ms' c'
  | 0, _, _, _, _, h, _ => by simp [lookM] at h
  | f + 1, [], ms, c, ms', h, hi => by
    simp only [lookM, LRes.ok.injEq] at h
    subst h
    exact ⟨c, hi⟩
  | f + 1, x :: rest, ms, c, ms', h, hi => by
    unfold lookM at h
    by_cases h1 : 500 < c + 1
    · simp [h1] at h
    rw [if_neg h1] at h
    by_cases h2 : validB x.1 x.2 = false
    · simp [h2] at h
    rw [if_neg h2] at h
    have hv : validB x.1 x.2 = true := by simpa using h2
    have hgood : ∀ y ∈ v :: allKids ms, y ∈ rest ∨ validB y.1 y.2 = true := fun y hy => by
      rcases hi.good y hy with h | h
      · rcases List.mem_cons.1 h with rfl | h
        · exact .inr hv
        · exact .inl h
      · exact .inr h
    by_cases h3 : x.1 ≠ 2
    · rw [if_pos h3] at h
      refine look_inv f rest ms (c + 1) ms' h ⟨fun n => ?_, hi.keys, hi.each, by have := hi.few; omega, hgood⟩
      have := hi.cnt n
      rw [cntR_cons, if_neg (fun e => h3 e.1)] at this
      exact this
    rw [if_neg h3] at h
    have h3' : x.1 = 2 := by simpa using h3
    have hg : ∀ nd : Nd, 0 ≤ grows nd := fun nd => by unfold grows; split <;> omega
    cases h4 : metAt ms x.2 with
    | some m =>
      rw [h4] at h
      simp only at h
      by_cases h5 : m.nd.kind = 4 ∧ 500 < c + 1 + m.nd.raw.length
      · simp [h5] at h
      rw [if_neg h5] at h
      have hgm : c + 1 + grows m.nd ≤ 500 := by
        unfold grows
        split
        · rename_i hk
          have : ¬ 500 < c + 1 + (m.nd.raw.length : Int) := fun e => h5 ⟨hk, e⟩
          omega
        · omega
      refine look_inv f rest _ _ ms' h ⟨fun n => ?_, by rw [metMod_keys]; exact hi.keys, fun y hy => ?_, by rw [metMod_length]; have := hi.few; have := hg m.nd; omega, ?_⟩
      · have := hi.cnt n
        rw [cntR_cons] at this
        rw [tms_mod _ _ _ h4, allKids_mod once (fun _ => rfl)]
        simp only [h3', true_and, Int.natCast_add] at this
        by_cases hn : x.2 = n
        · simp only [hn, if_true] at this ⊢
          omega
        · simp only [if_neg hn, if_neg (Ne.symm hn)] at this ⊢
          omega
      · rcases mod_mem _ _ hy with hy | ⟨z, hz, rfl⟩
        · exact hi.each y hy
        · have := hi.each z hz
          exact ⟨this.1, this.2.1, by simp only [once]; omega, this.2.2.2⟩
      · rw [allKids_mod once (fun _ => rfl)]
        exact hgood
    | none =>
      rw [h4] at h
      simp only at h
      cases h5 : findN nodes x.2 with
      | none => simp [h5] at h
      | some nd =>
        rw [h5] at h
        simp only at h
        by_cases h6 : nd.kind = 4 ∧ 500 < c + 1 + nd.raw.length
        · simp [h6] at h
        rw [if_neg h6] at h
        have hgm : c + 1 + grows nd ≤ 500 := by
          unfold grows
          split
          · rename_i hk
            have : ¬ 500 < c + 1 + (nd.raw.length : Int) := fun e => h6 ⟨hk, e⟩
            omega
          · omega
        have hst : (if kBox nd.kind then partsM nd.kind nd.fields ++ rest else rest) = kids nd ++ rest := by
          unfold kids
          split <;> simp
        rw [hst] at h
        have hak : allKids (ms ++ [(x.2, ⟨nd, 1, -1, false⟩)]) = allKids ms ++ kids nd := by simp [allKids]
        refine look_inv f _ _ _ ms' h ⟨fun n => ?_, ?_, fun y hy => ?_, by simp only [List.length_append, List.length_cons, List.length_nil]; have := hi.few; have := hg nd; omega, fun y hy => ?_⟩
        · have := hi.cnt n
          rw [cntR_cons, cntR_cons] at this
          rw [tms_new _ _ _ _ h4, hak, cntR_append, cntR_cons, cntR_append]
          simp only [h3', true_and, Int.natCast_add] at this ⊢
          by_cases hn : x.2 = n
          · simp only [hn, if_true] at this ⊢
            omega
          · simp only [if_neg hn, if_neg (Ne.symm hn)] at this ⊢
            omega
        · rw [List.map_append, List.nodup_append]
          refine ⟨hi.keys, by simp, fun a ha b hb e => ?_⟩
          simp at hb
          subst hb e
          exact metAt_keys ms _ h4 ha
        · rcases List.mem_append.1 hy with hy | hy
          · exact hi.each y hy
          · simp only [List.mem_singleton] at hy
            subst hy
            exact ⟨rfl, rfl, by simp, h5⟩
        · rw [hak, ← List.cons_append] at hy
          rcases List.mem_append.1 hy with hy | hy
          · rcases hgood y hy with h | h
            · exact .inl (List.mem_append_right _ h)
            · exact .inr h
          · exact .inl (List.mem_append_left _ hy)
theorem look_done {nodes : List Nd} {v : Int × Int} {f : Nat} {ms : List (Int × Met)} (h : lookM nodes f [v] [] 0 = .ok ms) : ∃ c, LookInv nodes v [] ms c :=
  look_inv f [v] [] 0 ms h ⟨fun n => by simp [tms, metAt_nil, allKids], by simp, by simp, by simp, fun x hx => .inl (by simpa [allKids] using hx)⟩

/-! Labels. -/
theorem labelM_length : ∀ (n : Int) (ms : List (Int × Met)), (labelM n ms).length = ms.length
  | _, [] => rfl
  | n, x :: r => by
    unfold labelM
    split
    · simp [labelM_length (n + 1) r]
    · simp [labelM_length n r]
theorem labelM_keys : ∀ (n : Int) (ms : List (Int × Met)), (labelM n ms).map (·.1) = ms.map (·.1)
  | _, [] => rfl
  | n, x :: r => by
    unfold labelM
    split
    · simp [labelM_keys (n + 1) r]
    · simp [labelM_keys n r]
theorem labelM_kids : ∀ (n : Int) (ms : List (Int × Met)), allKids (labelM n ms) = allKids ms
  | _, [] => rfl
  | n, x :: r => by
    unfold labelM
    have h1 := labelM_kids (n + 1) r
    have h2 := labelM_kids n r
    unfold allKids at h1 h2 ⊢
    split
    · simp [setLabel, h1]
    · simp [h2]
theorem labelM_tms (k : Int) : ∀ (n : Int) (ms : List (Int × Met)), tms (labelM n ms) k = tms ms k
  | _, [] => rfl
  | n, x :: r => by
    have h1 := labelM_tms k (n + 1) r
    have h2 := labelM_tms k n r
    unfold tms at h1 h2
    by_cases hm : many x.2 = true
    · have e : labelM n (x :: r) = (x.1, setLabel n x.2) :: labelM (n + 1) r := by simp [labelM, hm]
      unfold tms
      rw [e, metAt_cons, metAt_cons]
      by_cases hx : x.1 = k
      · simp [hx, setLabel]
      · simp only [if_neg hx]
        exact h1
    · have e : labelM n (x :: r) = x :: labelM n r := by simp [labelM, hm]
      unfold tms
      rw [e, metAt_cons, metAt_cons]
      by_cases hx : x.1 = k
      · simp [hx]
      · simp only [if_neg hx]
        exact h2
theorem labelM_each : ∀ (n : Int) (ms : List (Int × Met)), 0 ≤ n → (∀ x ∈ ms, x.2.label = -1 ∧ x.2.told = false ∧ 1 ≤ x.2.times) →
    ∀ y ∈ labelM n ms, y.2.told = false ∧ 1 ≤ y.2.times ∧ (0 ≤ y.2.label ↔ many y.2 = true) ∧ y.2.label ≤ n + ms.length ∧ ∃ x ∈ ms, x.1 = y.1 ∧ x.2.nd = y.2.nd
  | _, [], _, _, y, hy => by simp [labelM] at hy
  | n, x :: r, hn, h, y, hy => by
    unfold labelM at hy
    have hx := h x (by simp)
    split at hy
    · rename_i hm
      rcases List.mem_cons.1 hy with rfl | hy
      · refine ⟨hx.2.1, hx.2.2, ?_, ?_, x, by simp, rfl, rfl⟩
        · have : many (setLabel n x.2) = many x.2 := rfl
          rw [this, hm]
          simp [setLabel, hn]
        · simp only [setLabel]
          omega
      · obtain ⟨a, b, c, d, z, hz, e1, e2⟩ := labelM_each (n + 1) r (by omega) (fun z hz => h z (List.mem_cons_of_mem _ hz)) y hy
        exact ⟨a, b, c, by simp only [List.length_cons, Int.natCast_add]; omega, z, List.mem_cons_of_mem _ hz, e1, e2⟩
    · rename_i hm
      rcases List.mem_cons.1 hy with rfl | hy
      · refine ⟨hx.2.1, hx.2.2, ?_, ?_, _, by simp, rfl, rfl⟩
        · simp [hm, hx.1]
        · rw [hx.1]; simp only [List.length_cons, Int.natCast_add]; omega
      · obtain ⟨a, b, c, d, z, hz, e1, e2⟩ := labelM_each n r hn (fun z hz => h z (List.mem_cons_of_mem _ hz)) y hy
        exact ⟨a, b, c, by simp only [List.length_cons, Int.natCast_add]; omega, z, List.mem_cons_of_mem _ hz, e1, e2⟩
end Go.Proofs.YtpejmgellidhbaaDoor
