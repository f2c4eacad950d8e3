/- A graph whose nodes have other numbers, in another order, tells the same. -/
import Derived.Test.YtpejmgellidhbaaDoorN8
namespace Go.Proofs.YtpejmgellidhbaaDoor

def turnNd (f : Int → Int) (nd : Nd) : Nd := { nd with id := f nd.id, fields := nd.fields.map (turnM f) }
def turnMet (f : Int → Int) (m : Met) : Met := { m with nd := turnNd f m.nd }
def turnMs (f : Int → Int) (ms : List (Int × Met)) : List (Int × Met) := ms.map fun p => (f p.1, turnMet f p.2)
def LRes.turn (f : Int → Int) : LRes → LRes
  | .large => .large
  | .err e => .err e
  | .ok ms => .ok (turnMs f ms)
def Pc.turn (f : Int → Int) : Pc → Pc
  | .text s => .text s
  | .val x => .val (turnM f x)
  | .tail x => .tail (turnM f x)
/-- Numbers that may stand in a value. -/
def NumOk (n : Int) : Prop := 0 ≤ n ∧ n ≤ 1099511627776
def ValOk (x : Int × Int) : Prop := x.1 = 2 → NumOk x.2
def MsOk (ms : List (Int × Met)) : Prop := ∀ p ∈ ms, NumOk p.1 ∧ ∀ x ∈ p.2.nd.fields, ValOk x
/-- A way to give other numbers. -/
structure Turner (f : Int → Int) : Prop where
  inj : ∀ a b, NumOk a → NumOk b → f a = f b → a = b
  small : ∀ a, NumOk a → 0 ≤ f a ∧ f a ≤ 1152921504606846975
section
variable {f : Int → Int} (hf : Turner f)
include hf
theorem valid_turn {x : Int × Int} (hx : ValOk x) : validB (turnM f x).1 (turnM f x).2 = validB x.1 x.2 := by
  unfold turnM
  by_cases h : x.1 = 2
  · have h1 := hx h
    have h2 := hf.small _ h1
    rw [if_pos h]
    unfold NumOk at h1
    simp only [validB, h, fitsB, if_true]
    have e1 : decide (0 ≤ f x.2) = true := by simp; omega
    have e2 : decide (-1152921504606846976 ≤ f x.2) = true := by simp; omega
    have e3 : decide (f x.2 ≤ 1152921504606846975) = true := by simp; omega
    have e4 : decide (0 ≤ x.2) = true := by simp; omega
    have e5 : decide (-1152921504606846976 ≤ x.2) = true := by simp; omega
    have e6 : decide (x.2 ≤ 1152921504606846975) = true := by simp; omega
    rw [e1, e2, e3, e4, e5, e6]
  · rw [if_neg h]
omit hf in
theorem turn_fst (x : Int × Int) : (turnM f x).1 = x.1 := by
  unfold turnM
  split
  · rename_i h; rw [h]
  · rfl
omit hf in
theorem turn_snd {x : Int × Int} (h : x.1 = 2) : (turnM f x).2 = f x.2 := by
  unfold turnM
  rw [if_pos h]
omit hf in
theorem turn_no {x : Int × Int} (h : x.1 ≠ 2) : turnM f x = x := by
  unfold turnM
  rw [if_neg h]
theorem metAt_turn : ∀ (ms : List (Int × Met)) (n : Int), (∀ p ∈ ms, NumOk p.1) → NumOk n → metAt (turnMs f ms) (f n) = (metAt ms n).map (turnMet f)
  | [], n, _, _ => rfl
  | p :: r, n, h, hn => by
    have ih := metAt_turn r n (fun q hq => h q (List.mem_cons_of_mem _ hq)) hn
    show metAt ((f p.1, turnMet f p.2) :: turnMs f r) (f n) = _
    rw [metAt_cons, metAt_cons]
    by_cases e : p.1 = n
    · simp [e]
    · rw [if_neg (fun e2 => e (hf.inj _ _ (h p (by simp)) hn e2)), if_neg e]
      exact ih
theorem metMod_turn (g : Met → Met) (hg : ∀ m, g (turnMet f m) = turnMet f (g m)) : ∀ (ms : List (Int × Met)) (n : Int), (∀ p ∈ ms, NumOk p.1) → NumOk n → metMod g (f n) (turnMs f ms) = turnMs f (metMod g n ms)
  | [], n, _, _ => rfl
  | p :: r, n, h, hn => by
    have ih := metMod_turn g hg r n (fun q hq => h q (List.mem_cons_of_mem _ hq)) hn
    show metMod g (f n) ((f p.1, turnMet f p.2) :: turnMs f r) = _
    unfold metMod
    by_cases e : p.1 = n
    · rw [if_pos (by rw [e]), if_pos e]
      simp [turnMs, hg]
    · rw [if_neg (fun e2 => e (hf.inj _ _ (h p (by simp)) hn e2)), if_neg e, ih]
      rfl
omit hf in
theorem fieldM_turn (xs : List (Int × Int)) (i : Nat) : fieldM (xs.map (turnM f)) i = turnM f (fieldM xs i) := by
  unfold fieldM
  rw [List.getD_eq_getElem?_getD, List.getD_eq_getElem?_getD, List.getElem?_map]
  cases xs[i]? with
  | none => rfl
  | some x => rfl
omit hf in
theorem partsM_turn (kd : Int) (xs : List (Int × Int)) : partsM kd (xs.map (turnM f)) = (partsM kd xs).map (turnM f) := by
  unfold partsM
  split
  · simp [fieldM_turn]
  · split
    · simp [fieldM_turn]
    · rfl
omit hf in
theorem field_ok {xs : List (Int × Int)} (h : ∀ x ∈ xs, ValOk x) (i : Nat) : ValOk (fieldM xs i) := by
  unfold fieldM
  rw [List.getD_eq_getElem?_getD]
  cases hx : xs[i]? with
  | none => exact fun e => by simp at e
  | some x => exact h x (List.mem_of_getElem? hx)
omit hf in
theorem parts_ok {kd : Int} {xs : List (Int × Int)} (h : ∀ x ∈ xs, ValOk x) : ∀ x ∈ partsM kd xs, ValOk x := by
  unfold partsM
  intro x hx
  split at hx
  · simp only [List.mem_cons, List.not_mem_nil, or_false] at hx
    rcases hx with rfl | rfl
    · exact field_ok h 0
    · exact field_ok h 1
  · split at hx
    · simp only [List.mem_cons, List.not_mem_nil, or_false] at hx
      subst hx
      exact field_ok h 0
    · exact h x hx
omit hf in
theorem mod_ok {g : Met → Met} (hg : ∀ m, (g m).nd = m.nd) {n : Int} {ms : List (Int × Met)} (h : MsOk ms) : MsOk (metMod g n ms) := by
  intro p hp
  rcases mod_mem g n hp with hp | ⟨y, hy, rfl⟩
  · exact h p hp
  · have := h y hy
    exact ⟨this.1, by simpa [hg] using this.2⟩
/-- Nodes that are found again. -/
def Found (f : Int → Int) (nodes nodes2 : List Nd) : Prop := ∀ n, NumOk n → findN nodes2 (f n) = (findN nodes n).map (turnNd f)
def NdsOk (nodes : List Nd) : Prop := ∀ nd ∈ nodes, ∀ x ∈ nd.fields, ValOk x
omit hf in
theorem findN_mem {nodes : List Nd} {n : Int} {nd : Nd} (h : findN nodes n = some nd) : nd ∈ nodes := List.mem_of_find?_eq_some h
theorem look_turn {nodes nodes2 : List Nd} (hfd : Found f nodes nodes2) (hok : NdsOk nodes) : ∀ (k : Nat) (stk : List (Int × Int)) (ms : List (Int × Met)) (c : Int), (∀ x ∈ stk, ValOk x) → MsOk ms →
    lookM nodes2 k (stk.map (turnM f)) (turnMs f ms) c = (lookM nodes k stk ms c).turn f
  | 0, _, _, _, _, _ => rfl
  | k + 1, [], ms, c, _, _ => rfl
  | k + 1, x :: rest, ms, c, hs, hm => by
    have ih := look_turn hfd hok k
    have hx := hs x (by simp)
    have hr : ∀ y ∈ rest, ValOk y := fun y hy => hs y (List.mem_cons_of_mem _ hy)
    have hk : ∀ p ∈ ms, NumOk p.1 := fun p hp => (hm p hp).1
    show lookM nodes2 (k + 1) (turnM f x :: rest.map (turnM f)) (turnMs f ms) c = _
    unfold lookM
    by_cases h1 : 500 < c + 1
    · rw [if_pos h1, if_pos h1]; rfl
    rw [if_neg h1, if_neg h1, valid_turn hf hx, turn_fst]
    by_cases h2 : validB x.1 x.2 = false
    · rw [if_pos h2, if_pos h2]; rfl
    rw [if_neg h2, if_neg h2]
    by_cases h3 : x.1 ≠ 2
    · rw [if_pos h3, if_pos h3]
      exact ih rest ms (c + 1) hr hm
    rw [if_neg h3, if_neg h3]
    have h3' : x.1 = 2 := by simpa using h3
    have hn := hx h3'
    rw [turn_snd h3', metAt_turn hf ms x.2 hk hn]
    cases h4 : metAt ms x.2 with
    | some m =>
      simp only [Option.map_some]
      by_cases h5 : m.nd.kind = 4 ∧ 500 < c + 1 + m.nd.raw.length
      · rw [if_pos h5, if_pos (show (turnMet f m).nd.kind = 4 ∧ 500 < c + 1 + ((turnMet f m).nd.raw.length : Int) from h5)]; rfl
      · rw [if_neg h5, if_neg (show ¬ ((turnMet f m).nd.kind = 4 ∧ 500 < c + 1 + ((turnMet f m).nd.raw.length : Int)) from h5), metMod_turn hf once (fun _ => rfl) ms x.2 hk hn]
        exact ih rest _ _ hr (mod_ok (g := once) (fun _ => rfl) hm)
    | none =>
      simp only [Option.map_none, hfd x.2 hn]
      cases h5 : findN nodes x.2 with
      | none => rfl
      | some nd =>
        simp only [Option.map_some]
        have hnd := hok nd (findN_mem h5)
        by_cases h6 : nd.kind = 4 ∧ 500 < c + 1 + nd.raw.length
        · rw [if_pos h6, if_pos (show (turnNd f nd).kind = 4 ∧ 500 < c + 1 + ((turnNd f nd).raw.length : Int) from h6)]; rfl
        · rw [if_neg h6, if_neg (show ¬ ((turnNd f nd).kind = 4 ∧ 500 < c + 1 + ((turnNd f nd).raw.length : Int)) from h6)]
          have e1 : turnMs f ms ++ [(f x.2, ⟨turnNd f nd, 1, -1, false⟩)] = turnMs f (ms ++ [(x.2, ⟨nd, 1, -1, false⟩)]) := by simp [turnMs, turnMet]
          have e2 : (if kBox (turnNd f nd).kind then partsM (turnNd f nd).kind (turnNd f nd).fields ++ rest.map (turnM f) else rest.map (turnM f)) = (if kBox nd.kind then partsM nd.kind nd.fields ++ rest else rest).map (turnM f) := by
            show (if kBox nd.kind then partsM nd.kind (nd.fields.map (turnM f)) ++ rest.map (turnM f) else rest.map (turnM f)) = _
            rw [partsM_turn]
            split <;> simp
          rw [e1, e2]
          refine ih _ _ _ (fun y hy => ?_) (fun p hp => ?_)
          · split at hy
            · rcases List.mem_append.1 hy with hy | hy
              · exact parts_ok hnd y hy
              · exact hr y hy
            · exact hr y hy
          · rcases List.mem_append.1 hp with hp | hp
            · exact hm p hp
            · rw [List.mem_singleton] at hp
              subst hp
              exact ⟨hn, hnd⟩
omit hf in
theorem label_turn : ∀ (n : Int) (ms : List (Int × Met)), labelM n (turnMs f ms) = turnMs f (labelM n ms)
  | _, [] => rfl
  | n, p :: r => by
    have h1 := label_turn (n + 1) r
    have h2 := label_turn n r
    show labelM n ((f p.1, turnMet f p.2) :: turnMs f r) = _
    unfold labelM
    have hm : many (turnMet f p.2) = many p.2 := rfl
    rw [hm]
    split
    · rw [h1]; rfl
    · rw [h2]; rfl
omit hf in
theorem rounds_turn (ms : List (Int × Met)) : rounds (turnMs f ms) = rounds ms := by
  unfold rounds wtE turnMs
  rw [List.map_map]
  congr 2
  apply List.map_congr_left
  intro p _
  have : wtN (turnMet f p.2).nd = wtN p.2.nd := by
    show wtN (turnNd f p.2.nd) = _
    unfold wtN kids
    have e1 : (turnNd f p.2.nd).kind = p.2.nd.kind := rfl
    have e2 : (turnNd f p.2.nd).fields = p.2.nd.fields.map (turnM f) := rfl
    rw [e1, e2, partsM_turn]
    split <;> simp
  simp [this]
omit hf in
theorem vecM_turn : ∀ (b : Bool) (l : List (Int × Int)), vecM b (l.map (turnM f)) = (vecM b l).map (Pc.turn f)
  | _, [] => rfl
  | b, x :: r => by
    show vecM b (turnM f x :: r.map (turnM f)) = _
    unfold vecM
    rw [vecM_turn true r]
    cases b <;> simp [Pc.turn]
omit hf in
theorem bodyM_turn (kd : Int) (fs : List (Int × Int)) : bodyM kd (fs.map (turnM f)) = (bodyM kd fs).map (Pc.turn f) := by
  unfold bodyM
  rw [fieldM_turn, fieldM_turn, vecM_turn]
  split
  · simp [Pc.turn]
  · split <;> simp [Pc.turn]
def PcOk : Pc → Prop
  | .text _ => True
  | .val x => ValOk x
  | .tail x => ValOk x
omit hf in
theorem vec_ok : ∀ (b : Bool) (l : List (Int × Int)), (∀ x ∈ l, ValOk x) → ∀ p ∈ vecM b l, PcOk p
  | _, [], _, p, hp => by simp [vecM] at hp
  | b, x :: r, h, p, hp => by
    unfold vecM at hp
    rcases List.mem_append.1 hp with hp | hp
    · cases b
      · simp at hp
      · simp only [if_true, List.mem_singleton] at hp
        subst hp
        trivial
    · rcases List.mem_cons.1 hp with rfl | hp
      · exact h x (by simp)
      · exact vec_ok true r (fun y hy => h y (List.mem_cons_of_mem _ hy)) p hp
omit hf in
theorem body_ok {kd : Int} {fs : List (Int × Int)} (h : ∀ x ∈ fs, ValOk x) : ∀ p ∈ bodyM kd fs, PcOk p := by
  intro p hp
  unfold bodyM at hp
  split at hp
  · simp only [List.mem_cons, List.not_mem_nil, or_false] at hp
    rcases hp with rfl | rfl | rfl
    · trivial
    · exact field_ok h 0
    · exact field_ok h 1
  · split at hp
    · simp only [List.mem_cons, List.not_mem_nil, or_false] at hp
      rcases hp with rfl | rfl
      · trivial
      · exact field_ok h 0
    · rcases List.mem_cons.1 hp with rfl | hp
      · trivial
      · rcases List.mem_append.1 hp with hp | hp
        · exact vec_ok false fs h p hp
        · rw [List.mem_singleton] at hp
          subst hp
          trivial
omit hf in
theorem metAt_fields {ms : List (Int × Met)} (h : MsOk ms) {n : Int} {m : Met} (hm : metAt ms n = some m) : ∀ x ∈ m.nd.fields, ValOk x := (h _ (metAt_mem hm)).2
theorem form_turn {ms : List (Int × Met)} (hm : MsOk ms) {x : Int × Int} (hx : ValOk x) : formM goTells (turnMs f ms) (turnM f x) = (formM goTells ms x).map fun r => (r.1.map (Pc.turn f), turnMs f r.2) := by
  have hk : ∀ p ∈ ms, NumOk p.1 := fun p hp => (hm p hp).1
  unfold formM
  rw [valid_turn hf hx, turn_fst]
  by_cases h2 : validB x.1 x.2 = false
  · rw [if_pos h2, if_pos h2]; rfl
  rw [if_neg h2, if_neg h2]
  by_cases h3 : x.1 ≠ 2
  · rw [if_pos h3, if_pos h3, turn_no h3]; rfl
  rw [if_neg h3, if_neg h3]
  have h3' : x.1 = 2 := by simpa using h3
  have hn := hx h3'
  rw [turn_snd h3', metAt_turn hf ms x.2 hk hn]
  cases h4 : metAt ms x.2 with
  | none => rfl
  | some m =>
    simp only [Option.map_some]
    have e1 : (turnMet f m).nd.kind = m.nd.kind := rfl
    have e2 : (turnMet f m).nd.fields = m.nd.fields.map (turnM f) := rfl
    have e3 : (turnMet f m).label = m.label := rfl
    have e4 : (turnMet f m).told = m.told := rfl
    have e5 : goTells.leaf (turnMet f m).nd = goTells.leaf m.nd := rfl
    rw [e1, e2, e3, e4, e5, bodyM_turn, metMod_turn hf setTold (fun _ => rfl) ms x.2 hk hn]
    split
    · rfl
    · split
      · split <;> rfl
      · rfl
omit hf in
theorem form_ok {ms : List (Int × Met)} (hm : MsOk ms) {x : Int × Int} {l : List Pc} {ms' : List (Int × Met)} (h : formM goTells ms x = some (l, ms')) : (∀ p ∈ l, PcOk p) ∧ MsOk ms' := by
  unfold formM at h
  by_cases h2 : validB x.1 x.2 = false
  · simp [h2] at h
  rw [if_neg h2] at h
  by_cases h3 : x.1 ≠ 2
  · rw [if_pos h3] at h
    simp only [Option.some.injEq, Prod.mk.injEq] at h
    obtain ⟨rfl, rfl⟩ := h
    exact ⟨fun p hp => by rw [List.mem_singleton] at hp; subst hp; trivial, hm⟩
  rw [if_neg h3] at h
  cases h4 : metAt ms x.2 with
  | none => simp [h4] at h
  | some m =>
    rw [h4] at h
    simp only at h
    have hfl := metAt_fields hm h4
    split at h
    · simp only [Option.some.injEq, Prod.mk.injEq] at h
      obtain ⟨rfl, rfl⟩ := h
      exact ⟨fun p hp => by rw [List.mem_singleton] at hp; subst hp; trivial, hm⟩
    · split at h
      · split at h
        · simp only [Option.some.injEq, Prod.mk.injEq] at h
          obtain ⟨rfl, rfl⟩ := h
          exact ⟨fun p hp => by rw [List.mem_singleton] at hp; subst hp; trivial, hm⟩
        · simp only [Option.some.injEq, Prod.mk.injEq] at h
          obtain ⟨rfl, rfl⟩ := h
          refine ⟨fun p hp => ?_, mod_ok (g := setTold) (fun _ => rfl) hm⟩
          rcases List.mem_cons.1 hp with rfl | hp
          · trivial
          · exact body_ok hfl p hp
      · simp only [Option.some.injEq, Prod.mk.injEq] at h
        obtain ⟨rfl, rfl⟩ := h
        exact ⟨body_ok hfl, hm⟩
theorem tail_turn {ms : List (Int × Met)} (hm : MsOk ms) {x : Int × Int} (hx : ValOk x) : tailM (turnMs f ms) (turnM f x) = (tailM ms x).map fun l => l.map (Pc.turn f) := by
  have hk : ∀ p ∈ ms, NumOk p.1 := fun p hp => (hm p hp).1
  unfold tailM
  by_cases h3 : x.1 ≠ 2
  · rw [turn_no h3]
    split
    · rfl
    · simp [Pc.turn, turn_no h3]
  · have h3' : x.1 = 2 := by simpa using h3
    have hn := hx h3'
    have e1 : ¬ turnM f x = (3, 0) := fun e => by
      have := congrArg Prod.fst e
      rw [turn_fst, h3'] at this
      simp at this
    have e2 : ¬ x = (3, 0) := fun e => by
      rw [e] at h3'
      simp at h3'
    rw [if_neg e1, if_neg e2, turn_fst, if_neg h3, if_neg h3, turn_snd h3', metAt_turn hf ms x.2 hk hn]
    cases h4 : metAt ms x.2 with
    | none => rfl
    | some m =>
      simp only [Option.map_some]
      have e1 : (turnMet f m).nd.kind = m.nd.kind := rfl
      have e2 : (turnMet f m).nd.fields = m.nd.fields.map (turnM f) := rfl
      have e3 : (turnMet f m).label = m.label := rfl
      rw [e1, e2, e3, fieldM_turn, fieldM_turn]
      split <;> rfl
omit hf in
theorem tail_ok {ms : List (Int × Met)} (hm : MsOk ms) {x : Int × Int} (hx : ValOk x) {l : List Pc} (h : tailM ms x = some l) : ∀ p ∈ l, PcOk p := by
  have hthree : ∀ p ∈ [Pc.text dot3, .val x, .text par1], PcOk p := fun p hp => by
    simp only [List.mem_cons, List.not_mem_nil, or_false] at hp
    rcases hp with rfl | rfl | rfl
    · trivial
    · exact hx
    · trivial
  unfold tailM at h
  split at h
  · simp only [Option.some.injEq] at h
    subst h
    exact fun p hp => by rw [List.mem_singleton] at hp; subst hp; trivial
  · split at h
    · simp only [Option.some.injEq] at h
      subst h
      exact hthree
    · cases h4 : metAt ms x.2 with
      | none => simp [h4] at h
      | some m =>
        rw [h4] at h
        simp only at h
        have hfl := metAt_fields hm h4
        split at h
        · simp only [Option.some.injEq] at h
          subst h
          intro p hp
          simp only [List.mem_cons, List.not_mem_nil, or_false] at hp
          rcases hp with rfl | rfl | rfl
          · trivial
          · exact field_ok hfl 0
          · exact field_ok hfl 1
        · simp only [Option.some.injEq] at h
          subst h
          exact hthree
theorem tell_turn : ∀ (k : Nat) (l : List Pc) (ms : List (Int × Met)) (out : List UInt8), (∀ p ∈ l, PcOk p) → MsOk ms → tellM goTells k (l.map (Pc.turn f)) (turnMs f ms) out = tellM goTells k l ms out
  | 0, _, _, _, _, _ => rfl
  | k + 1, [], ms, out, _, _ => rfl
  | k + 1, .text s :: r, ms, out, hl, hm => tell_turn k r ms _ (fun p hp => hl p (List.mem_cons_of_mem _ hp)) hm
  | k + 1, .val x :: r, ms, out, hl, hm => by
    have hx : ValOk x := hl (.val x) (by simp)
    have hr : ∀ p ∈ r, PcOk p := fun p hp => hl p (List.mem_cons_of_mem _ hp)
    show tellM goTells (k + 1) (.val (turnM f x) :: r.map (Pc.turn f)) (turnMs f ms) out = _
    unfold tellM
    rw [form_turn hf hm hx]
    cases h : formM goTells ms x with
    | none => rfl
    | some q =>
      obtain ⟨l, ms'⟩ := q
      obtain ⟨h1, h2⟩ := form_ok hm h
      simp only [Option.map_some]
      rw [← List.map_append]
      refine tell_turn k (l ++ r) ms' out (fun p hp => ?_) h2
      rcases List.mem_append.1 hp with hp | hp
      · exact h1 p hp
      · exact hr p hp
  | k + 1, .tail x :: r, ms, out, hl, hm => by
    have hx : ValOk x := hl (.tail x) (by simp)
    have hr : ∀ p ∈ r, PcOk p := fun p hp => hl p (List.mem_cons_of_mem _ hp)
    show tellM goTells (k + 1) (.tail (turnM f x) :: r.map (Pc.turn f)) (turnMs f ms) out = _
    unfold tellM
    rw [tail_turn hf hm hx]
    cases h : tailM ms x with
    | none => rfl
    | some l =>
      have h1 := tail_ok hm hx h
      simp only [Option.map_some]
      rw [← List.map_append]
      refine tell_turn k (l ++ r) ms out (fun p hp => ?_) hm
      rcases List.mem_append.1 hp with hp | hp
      · exact h1 p hp
      · exact hr p hp
omit hf in
theorem look_msok {nodes : List Nd} (hok : NdsOk nodes) : ∀ (k : Nat) (stk : List (Int × Int)) (ms : List (Int × Met)) (c : Int) (ms' : List (Int × Met)), (∀ x ∈ stk, ValOk x) → MsOk ms → lookM nodes k stk ms c = .ok ms' → MsOk ms'
  | 0, _, _, _, _, _, _, h => by simp [lookM] at h
  | k + 1, [], ms, c, ms', _, hm, h => by
    simp only [lookM, LRes.ok.injEq] at h
    subst h
    exact hm
  | k + 1, x :: rest, ms, c, ms', hs, hm, h => by
    have ih := look_msok hok k
    have hx := hs x (by simp)
    have hr : ∀ y ∈ rest, ValOk y := fun y hy => hs y (List.mem_cons_of_mem _ hy)
    unfold lookM at h
    by_cases h1 : 500 < c + 1
    · simp [h1] at h
    rw [if_neg h1] at h
    by_cases h2 : validB x.1 x.2 = false
    · simp [h2] at h
    rw [if_neg h2] at h
    by_cases h3 : x.1 ≠ 2
    · rw [if_pos h3] at h
      exact ih rest ms (c + 1) ms' hr hm h
    rw [if_neg h3] at h
    have h3' : x.1 = 2 := by simpa using h3
    have hn := hx h3'
    cases h4 : metAt ms x.2 with
    | some m =>
      rw [h4] at h
      simp only at h
      split at h
      · simp at h
      · exact ih rest _ _ ms' hr (mod_ok (g := once) (fun _ => rfl) hm) h
    | none =>
      rw [h4] at h
      simp only at h
      cases h5 : findN nodes x.2 with
      | none => simp [h5] at h
      | some nd =>
        rw [h5] at h
        simp only at h
        have hnd := hok nd (findN_mem h5)
        split at h
        · simp at h
        · refine ih _ _ _ ms' (fun y hy => ?_) (fun p hp => ?_) h
          · split at hy
            · rcases List.mem_append.1 hy with hy | hy
              · exact parts_ok hnd y hy
              · exact hr y hy
            · exact hr y hy
          · rcases List.mem_append.1 hp with hp | hp
            · exact hm p hp
            · rw [List.mem_singleton] at hp
              subst hp
              exact ⟨hn, hnd⟩
omit hf in
theorem label_ok : ∀ (n : Int) (ms : List (Int × Met)), MsOk ms → MsOk (labelM n ms)
  | _, [], h => h
  | n, p :: r, h => by
    have h1 := label_ok (n + 1) r (fun q hq => h q (List.mem_cons_of_mem _ hq))
    have h2 := label_ok n r (fun q hq => h q (List.mem_cons_of_mem _ hq))
    unfold labelM
    split
    · intro q hq
      rcases List.mem_cons.1 hq with rfl | hq
      · exact h p (by simp)
      · exact h1 q hq
    · intro q hq
      rcases List.mem_cons.1 hq with rfl | hq
      · exact h _ (by simp)
      · exact h2 q hq
/-- THE PLAIN LAW: other numbers tell the same. -/
theorem show_turn {nodes nodes2 : List Nd} (hfd : Found f nodes nodes2) (hok : NdsOk nodes) {v : Int × Int} (hv : ValOk v) : showM nodes2 (turnM f v) = showM nodes v := by
  have hs : ∀ x ∈ [v], ValOk x := fun x hx => by rw [List.mem_singleton] at hx; subst hx; exact hv
  have hm : MsOk [] := fun p hp => by simp at hp
  have hl := look_turn hf hfd hok 501 [v] [] 0 hs hm
  unfold showM
  have e : lookM nodes2 501 [turnM f v] [] 0 = (lookM nodes 501 [v] [] 0).turn f := hl
  rw [e]
  cases h : lookM nodes 501 [v] [] 0 with
  | large => rfl
  | err k => rfl
  | ok ms =>
    have h1 := look_msok hok 501 [v] [] 0 ms hs hm h
    simp only [LRes.turn]
    rw [label_turn, rounds_turn]
    have := tell_turn hf (rounds (labelM 0 ms)) [.val v] (labelM 0 ms) [] (fun p hp => by rw [List.mem_singleton] at hp; subst hp; exact hv) (label_ok 0 ms h1)
    rw [show [Pc.val (turnM f v)] = [Pc.val v].map (Pc.turn f) from rfl, this]
end
/-- Nodes whose numbers are several are found in whatever order. -/
theorem found_turn {f : Int → Int} (hf : Turner f) {nodes : List Nd} (hnum : ∀ nd ∈ nodes, NumOk nd.id) (huniq : ∀ a ∈ nodes, ∀ b ∈ nodes, a.id = b.id → a = b) : Found f nodes (nodes.map (turnNd f)).reverse := by
  intro n hn
  cases h : findN nodes n with
  | none =>
    have h1 := List.find?_eq_none.1 h
    show List.find? _ _ = none
    rw [List.find?_eq_none]
    intro x hx
    rw [List.mem_reverse, List.mem_map] at hx
    obtain ⟨nd, hnd, rfl⟩ := hx
    have h2 := h1 nd hnd
    simp only [beq_iff_eq] at h2 ⊢
    exact fun e => h2 (hf.inj _ _ (hnum nd hnd) hn e)
  | some nd =>
    have h1 := findN_mem h
    have h2 : nd.id = n := by
      have := List.find?_some h
      simpa using this
    show List.find? _ _ = some (turnNd f nd)
    have h3 : ((nodes.map (turnNd f)).reverse.find? fun x => x.id == f n).isSome = true := by
      rw [List.find?_isSome]
      exact ⟨turnNd f nd, by rw [List.mem_reverse]; exact List.mem_map_of_mem h1, by simp [turnNd, h2]⟩
    obtain ⟨y, hy⟩ := Option.isSome_iff_exists.1 h3
    rw [hy]
    have h4 := List.mem_of_find?_eq_some hy
    have h5 := List.find?_some hy
    rw [List.mem_reverse, List.mem_map] at h4
    obtain ⟨nd2, h6, rfl⟩ := h4
    have h7 : f nd2.id = f n := by simpa [turnNd] using h5
    have h8 := hf.inj _ _ (hnum nd2 h6) hn h7
    rw [huniq nd2 h6 nd h1 (by rw [h8, h2])]
theorem turner_lin {q add : Int} (hq : 1 ≤ q ∧ q ≤ 1000) (ha : 0 ≤ add ∧ add ≤ 1000000) : Turner fun m => m * q + add := by
  constructor
  · intro a b _ _ h
    have h1 : a * q = b * q := by omega
    exact Int.eq_of_mul_eq_mul_right (by omega) h1
  · intro a h
    have h0 : 0 ≤ a * q := Int.mul_nonneg h.1 (by omega)
    have h1 : a * q ≤ 1099511627776 * q := Int.mul_le_mul_of_nonneg_right h.2 (by omega)
    show 0 ≤ a * q + add ∧ a * q + add ≤ 1152921504606846975
    omega
end Go.Proofs.YtpejmgellidhbaaDoor
