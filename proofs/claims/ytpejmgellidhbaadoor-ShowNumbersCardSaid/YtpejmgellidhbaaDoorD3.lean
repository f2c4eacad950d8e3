/- How long tell's texts are, as plain Lean. -/
import Derived.Test.YtpejmgellidhbaaDoorF4
namespace Go.Proofs.YtpejmgellidhbaaDoor

theorem tellM_facts {T : Tells} : ∀ (f : Nat) (todo : List Pc) (ms : List (Int × Met)) (out R : List UInt8), tellM T f todo ms out = some R → todo.length < f ∧ out.length ≤ R.length
  | 0, _, _, _, _, h => by simp [tellM] at h
  | f + 1, [], ms, out, R, h => by
    simp only [tellM, Option.some.injEq] at h
    subst h
    simp
  | f + 1, .text s :: r, ms, out, R, h => by
    simp only [tellM] at h
    have := tellM_facts f r ms _ R h
    simp only [List.length_append, List.length_cons] at this ⊢
    omega
  | f + 1, .val x :: r, ms, out, R, h => by
    simp only [tellM] at h
    cases hf : formM T ms x with
    | none => simp [hf] at h
    | some y =>
      obtain ⟨l, ms'⟩ := y
      simp only [hf] at h
      have := tellM_facts f _ _ _ R h
      simp only [List.length_append, List.length_cons] at this ⊢
      omega
  | f + 1, .tail x :: r, ms, out, R, h => by
    simp only [tellM] at h
    cases hf : tailM ms x with
    | none => simp [hf] at h
    | some l =>
      simp only [hf] at h
      have := tellM_facts f _ _ _ R h
      simp only [List.length_append, List.length_cons] at this ⊢
      omega
/-- A piece's text is no longer. -/
def TextLe (M : Nat) : Pc → Prop
  | .text s => s.data.toList.length ≤ M
  | _ => True
def Small (M : Nat) (ms : List (Int × Met)) : Prop := ∀ y ∈ ms, (leafL y.2.nd).length ≤ M ∧ IntOk y.2.label
theorem bsOf_len (l : List UInt8) : (bsOf l).data.toList.length = l.length := by simp [bsOf]
theorem upper_len (l : List UInt8) : (Lib.toUpperA l).length = l.length := by simp [Lib.toUpperA]
theorem atomL_len {x : Int × Int} (hv : validB x.1 x.2 = true) (h2 : x.1 ≠ 2) : (atomL x).length ≤ 30 := by
  obtain ⟨k, n⟩ := x
  simp only at hv h2
  unfold atomL
  simp only
  split
  · rename_i h1
    subst h1
    have hn : -1152921504606846976 ≤ n ∧ n ≤ 1152921504606846975 := by simpa [validB, fitsB] using hv
    have := itoa_len n ⟨by omega, by omega⟩
    omega
  · split
    · rename_i h1 h4
      subst h4
      split
      · simp
      · have hn : 0 ≤ n ∧ n ≤ 1114111 := by
          simp [validB, scalarB] at hv
          omega
        have := hex16_len (u := n.toNat) (by omega)
        rw [List.length_append, upper_len]
        simp only [List.length_cons, List.length_nil]
        omega
    · repeat' split
      all_goals simp
theorem vecM_le (M : Nat) (hM : 3 ≤ M) : ∀ (b : Bool) (l : List (Int × Int)), ∀ p ∈ vecM b l, TextLe M p
  | _, [], p, hp => by simp [vecM] at hp
  | b, x :: r, p, hp => by
    unfold vecM at hp
    rcases List.mem_append.1 hp with hp | hp
    · cases b
      · simp at hp
      · simp at hp
        subst hp
        simp [TextLe, sp1]
        omega
    · rcases List.mem_cons.1 hp with rfl | hp
      · trivial
      · exact vecM_le M hM true r p hp
theorem bodyM_le (M : Nat) (hM : 3 ≤ M) (k : Int) (fs : List (Int × Int)) : ∀ p ∈ bodyM k fs, TextLe M p := by
  intro p hp
  unfold bodyM at hp
  split at hp
  · simp only [List.mem_cons, List.not_mem_nil, or_false] at hp
    rcases hp with rfl | rfl | rfl
    · simp [TextLe, par0]; omega
    · trivial
    · trivial
  · split at hp
    · simp only [List.mem_cons, List.not_mem_nil, or_false] at hp
      rcases hp with rfl | rfl
      · simp [TextLe, box2]; omega
      · trivial
    · rcases List.mem_cons.1 hp with rfl | hp
      · simp [TextLe, vec2]; omega
      · rcases List.mem_append.1 hp with hp | hp
        · exact vecM_le M hM _ _ p hp
        · simp at hp
          subst hp
          simp [TextLe, par1]
          omega
theorem formM_le {M : Nat} (hM : 50 ≤ M) {ms ms' : List (Int × Met)} {x : Int × Int} {l : List Pc} (hs : Small M ms) (h : formM goTells ms x = some (l, ms')) : (∀ p ∈ l, TextLe M p) ∧ Small M ms' := by
  unfold formM at h
  by_cases hv : validB x.1 x.2 = false
  · simp [hv] at h
  rw [if_neg hv] at h
  have hv' : validB x.1 x.2 = true := by simpa using hv
  by_cases h2 : x.1 ≠ 2
  · rw [if_pos h2, Option.some.injEq, Prod.mk.injEq] at h
    obtain ⟨rfl, rfl⟩ := h
    refine ⟨fun p hp => ?_, hs⟩
    simp at hp
    subst hp
    have := atomL_len hv' h2
    have e := bsOf_len (atomL x)
    show (bsOf (atomL x)).data.toList.length ≤ M
    omega
  rw [if_neg h2] at h
  cases hm : metAt ms x.2 with
  | none => simp [hm] at h
  | some mm =>
    simp only [hm] at h
    obtain ⟨h1, h3⟩ := hs _ (metAt_mem hm)
    simp only at h1 h3
    have hit := itoa_len _ h3
    by_cases hk : kBox mm.nd.kind = false
    · rw [if_pos hk, Option.some.injEq, Prod.mk.injEq] at h
      obtain ⟨rfl, rfl⟩ := h
      refine ⟨fun p hp => ?_, hs⟩
      simp at hp
      subst hp
      have e := bsOf_len (leafL mm.nd)
      show (bsOf (leafL mm.nd)).data.toList.length ≤ M
      omega
    rw [if_neg hk] at h
    by_cases hl : 0 ≤ mm.label
    · rw [if_pos hl] at h
      by_cases ht : mm.told = true
      · rw [if_pos ht, Option.some.injEq, Prod.mk.injEq] at h
        obtain ⟨rfl, rfl⟩ := h
        refine ⟨fun p hp => ?_, hs⟩
        simp at hp
        subst hp
        have e := bsOf_len ([35] ++ Lib.itoa mm.label ++ [35])
        show (bsOf ([35] ++ Lib.itoa mm.label ++ [35])).data.toList.length ≤ M
        simp only [List.length_append, List.length_cons, List.length_nil] at e
        omega
      · rw [if_neg ht, Option.some.injEq, Prod.mk.injEq] at h
        obtain ⟨rfl, rfl⟩ := h
        refine ⟨fun p hp => ?_, fun y hy => ?_⟩
        · rcases List.mem_cons.1 hp with rfl | hp
          · have e := bsOf_len ([35] ++ Lib.itoa mm.label ++ [61])
            show (bsOf ([35] ++ Lib.itoa mm.label ++ [61])).data.toList.length ≤ M
            simp only [List.length_append, List.length_cons, List.length_nil] at e
            omega
          · exact bodyM_le M (by omega) _ _ p hp
        · rcases mod_mem _ _ hy with hy | ⟨z, hz, rfl⟩
          · exact hs y hy
          · exact hs z hz
    · rw [if_neg hl, Option.some.injEq, Prod.mk.injEq] at h
      obtain ⟨rfl, rfl⟩ := h
      exact ⟨bodyM_le M (by omega) _ _, hs⟩
theorem tailM_le {M : Nat} (hM : 50 ≤ M) {ms : List (Int × Met)} {x : Int × Int} {l : List Pc} (h : tailM ms x = some l) : ∀ p ∈ l, TextLe M p := by
  have hd : ∀ p ∈ [Pc.text dot3, .val x, .text par1], TextLe M p := by
    intro p hp
    simp only [List.mem_cons, List.not_mem_nil, or_false] at hp
    rcases hp with rfl | rfl | rfl
    · simp [TextLe, dot3]; omega
    · trivial
    · simp [TextLe, par1]; omega
  unfold tailM at h
  split at h
  · simp only [Option.some.injEq] at h
    subst h
    intro p hp
    simp at hp
    subst hp
    simp [TextLe, par1]
    omega
  · split at h
    · simp only [Option.some.injEq] at h
      subst h
      exact hd
    · split at h
      · simp at h
      · split at h
        · simp only [Option.some.injEq] at h
          subst h
          intro p hp
          simp only [List.mem_cons, List.not_mem_nil, or_false] at hp
          rcases hp with rfl | rfl | rfl
          · simp [TextLe, sp1]; omega
          · trivial
          · trivial
        · simp only [Option.some.injEq] at h
          subst h
          exact hd
theorem tellM_le {M : Nat} (hM : 50 ≤ M) : ∀ (f : Nat) (todo : List Pc) (ms : List (Int × Met)) (out R : List UInt8), Small M ms → (∀ p ∈ todo, TextLe M p) → tellM goTells f todo ms out = some R → R.length ≤ out.length + f * M
  | 0, _, _, _, _, _, _, h => by simp [tellM] at h
  | f + 1, [], ms, out, R, _, _, h => by
    simp only [tellM, Option.some.injEq] at h
    subst h
    omega
  | f + 1, .text s :: r, ms, out, R, hs, ht, h => by
    simp only [tellM] at h
    have h1 := tellM_le hM f r ms _ R hs (fun p hp => ht p (List.mem_cons_of_mem _ hp)) h
    have h2 : s.data.toList.length ≤ M := ht (.text s) (by simp)
    simp only [List.length_append, Nat.add_mul] at h1 ⊢
    omega
  | f + 1, .val x :: r, ms, out, R, hs, ht, h => by
    simp only [tellM] at h
    cases hf : formM goTells ms x with
    | none => simp [hf] at h
    | some y =>
      obtain ⟨l, ms'⟩ := y
      simp only [hf] at h
      obtain ⟨h1, h2⟩ := formM_le hM hs hf
      have h3 := tellM_le hM f _ _ _ R h2 (fun p hp => (List.mem_append.1 hp).elim (h1 p) fun hp => ht p (List.mem_cons_of_mem _ hp)) h
      simp only [Nat.add_mul] at h3 ⊢
      omega
  | f + 1, .tail x :: r, ms, out, R, hs, ht, h => by
    simp only [tellM] at h
    cases hf : tailM ms x with
    | none => simp [hf] at h
    | some l =>
      simp only [hf] at h
      have h1 := tailM_le hM hf
      have h3 := tellM_le hM f _ _ _ R hs (fun p hp => (List.mem_append.1 hp).elim (h1 p) fun hp => ht p (List.mem_cons_of_mem _ hp)) h
      simp only [Nat.add_mul] at h3 ⊢
      omega
theorem sum_le (g : Int × Met → Nat) (K : Nat) : ∀ L : List (Int × Met), (∀ x ∈ L, g x ≤ K) → (L.map g).sum ≤ L.length * K
  | [], _ => by simp
  | x :: r, h => by
    have h1 := h x (by simp)
    have h2 := sum_le g K r fun y hy => h y (List.mem_cons_of_mem _ hy)
    simp only [List.map_cons, List.sum_cons, List.length_cons, Nat.add_mul]
    omega
theorem labelM_low : ∀ (n : Int) (ms : List (Int × Met)), 0 ≤ n → (∀ x ∈ ms, -1 ≤ x.2.label) → ∀ y ∈ labelM n ms, -1 ≤ y.2.label
  | _, [], _, _, y, hy => by simp [labelM] at hy
  | n, x :: r, hn, h, y, hy => by
    unfold labelM at hy
    split at hy
    · rcases List.mem_cons.1 hy with rfl | hy
      · simp only [setLabel]
        omega
      · exact labelM_low (n + 1) r (by omega) (fun z hz => h z (List.mem_cons_of_mem _ hz)) y hy
    · rcases List.mem_cons.1 hy with rfl | hy
      · exact h _ (by simp)
      · exact labelM_low n r hn (fun z hz => h z (List.mem_cons_of_mem _ hz)) y hy
/-- What holds of the objects that label leaves, if the nodes are small. -/
theorem shown_small {nodes : List Nd} {v : Int × Int} {f : Nat} {ms : List (Int × Met)} (h : lookM nodes f [v] [] 0 = .ok ms) (hsm : ∀ nd ∈ nodes, nd.fields.length ≤ 20000 ∧ nd.raw.length ≤ 20000 ∧ IntOk (rawM nd.raw)) :
    ms.length ≤ 500 ∧ EachOk (labelM 0 ms) ∧ Small 1000000 (labelM 0 ms) ∧ rounds (labelM 0 ms) ≤ 100016000 := by
  obtain ⟨c, hi⟩ := look_done h
  have hlen : ms.length ≤ 500 := by have := hi.few; omega
  have key : ∀ y ∈ labelM 0 ms, y.2.nd ∈ nodes ∧ y.2.label ≤ 500 ∧ -1 ≤ y.2.label := fun y hy => by
    obtain ⟨h1, h2, h3, h4, x, hx, he, hn⟩ := labelM_each 0 ms (by omega) (fun y hy => ⟨(hi.each y hy).1, (hi.each y hy).2.1, (hi.each y hy).2.2.1⟩) y hy
    refine ⟨hn ▸ List.mem_of_find?_eq_some (hi.each x hx).2.2.2, by omega, labelM_low 0 ms (by omega) (fun z hz => by have := (hi.each z hz).1; omega) y hy⟩
  refine ⟨hlen, fun y hy => ?_, fun y hy => ?_, ?_⟩
  · obtain ⟨h1, h2, h3⟩ := key y hy
    obtain ⟨a, b, d⟩ := hsm _ h1
    exact ⟨by omega, d, by omega, by omega⟩
  · obtain ⟨h1, h2, h3⟩ := key y hy
    obtain ⟨a, b, d⟩ := hsm _ h1
    refine ⟨?_, by unfold IntOk; omega⟩
    unfold leafL
    split
    · have := quoteM_len y.2.nd.raw
      simp only [quotedL, List.length_cons, List.length_append, List.length_nil]
      omega
    · split
      · have := hex16_len (u := uOf (rawM y.2.nd.raw)) (by unfold uOf; omega)
        simp only [hexL, List.length_append, List.length_replicate, upper_len, List.length_cons, List.length_nil]
        omega
      · split
        · have := itoa_len _ d
          simp only [List.length_append, List.length_cons, List.length_nil]
          omega
        · repeat' split
          all_goals simp
  · unfold rounds wtE
    have h2 := sum_le (fun x => if x.1 ∈ ([] : List Int) then 0 else wtN x.2.nd) 200030 (labelM 0 ms) fun y hy => by
      obtain ⟨h1, _, _⟩ := key y hy
      obtain ⟨a, b, d⟩ := hsm _ h1
      simp only [List.not_mem_nil, if_false]
      unfold wtN
      split
      · have : (kids y.2.nd).length ≤ 20002 := by
          unfold kids partsM
          repeat' split
          all_goals (first | (simp; done) | omega | (simp; omega))
        omega
      · omega
    have h3 := labelM_length 0 ms
    rw [h3] at h2
    have h4 : ms.length * 200030 ≤ 500 * 200030 := Nat.mul_le_mul_right _ hlen
    omega
end Go.Proofs.YtpejmgellidhbaaDoor
