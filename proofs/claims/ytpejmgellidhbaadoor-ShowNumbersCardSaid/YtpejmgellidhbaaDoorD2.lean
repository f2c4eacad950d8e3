/- What tell does, as plain Lean, and that it ends. -/
import Derived.Test.YtpejmgellidhbaaDoorD1
namespace Go.Proofs.YtpejmgellidhbaaDoor

/-- A piece still to be told: a text, a value, the cdr of a list that is open. -/
inductive Pc where
  | text (s : ByteArray)
  | val (x : Int × Int)
  | tail (x : Int × Int)
/-- How the leaves' texts are told: atoms, objects that are no containers, labels. -/
structure Tells where
  atom : Int × Int → ByteArray
  leaf : Nd → ByteArray
  mark : Int → ByteArray
  back : Int → ByteArray
section
variable (T : Tells)
def sp1 : ByteArray := ⟨#[32]⟩
def dot3 : ByteArray := ⟨#[32, 46, 32]⟩
def par0 : ByteArray := ⟨#[40]⟩
def par1 : ByteArray := ⟨#[41]⟩
def box2 : ByteArray := ⟨#[35, 38]⟩
def vec2 : ByteArray := ⟨#[35, 40]⟩
/-- A vector's values, blanks between. -/
def vecM : Bool → List (Int × Int) → List Pc
  | _, [] => []
  | b, x :: r => (if b then [.text sp1] else []) ++ .val x :: vecM true r
def bodyM (kind : Int) (fs : List (Int × Int)) : List Pc :=
  if kind = 1 then [.text par0, .val (fieldM fs 0), .tail (fieldM fs 1)] else if kind = 2 then [.text box2, .val (fieldM fs 0)] else .text vec2 :: (vecM false fs ++ [.text par1])
/-- show.form -/
def formM (ms : List (Int × Met)) (x : Int × Int) : Option (List Pc × List (Int × Met)) :=
  if validB x.1 x.2 = false then none else if x.1 ≠ 2 then some ([.text (T.atom x)], ms) else match metAt ms x.2 with
    | none => none
    | some m => if kBox m.nd.kind = false then some ([.text (T.leaf m.nd)], ms)
      else if 0 ≤ m.label then
        if m.told = true then some ([.text (T.back m.label)], ms) else some (.text (T.mark m.label) :: bodyM m.nd.kind m.nd.fields, metMod setTold x.2 ms)
      else some (bodyM m.nd.kind m.nd.fields, ms)
/-- show.tail -/
def tailM (ms : List (Int × Met)) (x : Int × Int) : Option (List Pc) :=
  if x = (3, 0) then some [.text par1] else if x.1 ≠ 2 then some [.text dot3, .val x, .text par1] else match metAt ms x.2 with
    | none => none
    | some m => if m.nd.kind = 1 ∧ m.label < 0 then some [.text sp1, .val (fieldM m.nd.fields 0), .tail (fieldM m.nd.fields 1)] else some [.text dot3, .val x, .text par1]
/-- show.tell -/
def tellM : Nat → List Pc → List (Int × Met) → List UInt8 → Option (List UInt8)
  | 0, _, _, _ => none
  | _ + 1, [], _, out => some out
  | f + 1, .text s :: r, ms, out => tellM f r ms (out ++ s.data.toList)
  | f + 1, .val x :: r, ms, out => match formM T ms x with
    | none => none
    | some (l, ms') => tellM f (l ++ r) ms' out
  | f + 1, .tail x :: r, ms, out => match tailM ms x with
    | none => none
    | some l => tellM f (l ++ r) ms out

/-! tell ends. -/
def cntP (n : Int) : List Pc → Nat
  | [] => 0
  | .text _ :: r => cntP n r
  | .val x :: r => cntP n r + if x.1 = 2 ∧ x.2 = n then 1 else 0
  | .tail x :: r => cntP n r + if x.1 = 2 ∧ x.2 = n then 1 else 0
def wtP : List Pc → Nat
  | [] => 0
  | .text _ :: r => wtP r + 1
  | .val _ :: r => wtP r + 5
  | .tail _ :: r => wtP r + 10
def wtN (nd : Nd) : Nat := if kBox nd.kind then 10 * (kids nd).length + 10 else 0
def wtE (E : List Int) (L : List (Int × Met)) : Nat := (L.map fun x => if x.1 ∈ E then 0 else wtN x.2.nd).sum
theorem cntP_append (n : Int) : ∀ a b : List Pc, cntP n (a ++ b) = cntP n a + cntP n b
  | [], b => by simp [cntP]
  | .text _ :: r, b => by simp [cntP, cntP_append n r b]
  | .val _ :: r, b => by simp only [List.cons_append, cntP, cntP_append n r b]; omega
  | .tail _ :: r, b => by simp only [List.cons_append, cntP, cntP_append n r b]; omega
theorem wtP_append : ∀ a b : List Pc, wtP (a ++ b) = wtP a + wtP b
  | [], b => by simp [wtP]
  | .text _ :: r, b => by simp only [List.cons_append, wtP, wtP_append r b]; omega
  | .val _ :: r, b => by simp only [List.cons_append, wtP, wtP_append r b]; omega
  | .tail _ :: r, b => by simp only [List.cons_append, wtP, wtP_append r b]; omega
theorem vecM_cnt (n : Int) : ∀ (b : Bool) (l : List (Int × Int)), cntP n (vecM b l) = cntR n l
  | _, [] => rfl
  | b, x :: r => by
    unfold vecM
    rw [cntP_append, cntR_cons]
    have := vecM_cnt n true r
    cases b <;> simp [cntP, this]
theorem vecM_wt : ∀ (b : Bool) (l : List (Int × Int)), wtP (vecM b l) ≤ 6 * l.length
  | _, [] => by simp [vecM, wtP]
  | b, x :: r => by
    unfold vecM
    rw [wtP_append]
    have := vecM_wt true r
    cases b <;> simp [wtP] <;> omega
theorem kBox_cases {k : Int} (h : kBox k = true) : k = 1 ∨ k = 2 ∨ k = 3 := by
  unfold kBox at h
  simp at h
  omega
theorem bodyM_cnt (n : Int) {nd : Nd} (h : kBox nd.kind = true) : cntP n (bodyM nd.kind nd.fields) = cntR n (kids nd) := by
  unfold bodyM kids partsM
  rw [if_pos h]
  by_cases h1 : nd.kind = 1
  · rw [if_pos h1, if_pos h1]
    simp only [cntP, cntR_cons, cntR_nil]
  · rw [if_neg h1, if_neg h1]
    by_cases h2 : nd.kind = 2
    · rw [if_pos h2, if_pos h2]
      simp only [cntP, cntR_cons, cntR_nil]
    · rw [if_neg h2, if_neg h2]
      simp only [cntP, cntP_append, vecM_cnt, Nat.add_zero]
theorem bodyM_wt {nd : Nd} (h : kBox nd.kind = true) : wtP (bodyM nd.kind nd.fields) + 1 ≤ wtN nd := by
  unfold bodyM wtN kids partsM
  rw [if_pos h, if_pos h]
  by_cases h1 : nd.kind = 1
  · rw [if_pos h1, if_pos h1]
    simp [wtP]
  · rw [if_neg h1, if_neg h1]
    by_cases h2 : nd.kind = 2
    · rw [if_pos h2, if_pos h2]
      simp [wtP]
    · rw [if_neg h2, if_neg h2]
      simp only [wtP, wtP_append]
      have := vecM_wt false nd.fields
      omega
theorem wtE_out {E : List Int} {n : Int} {m : Met} : ∀ {L : List (Int × Met)}, (L.map (·.1)).Nodup → metAt L n = some m → n ∉ E → wtE E L = wtE (n :: E) L + wtN m.nd
  | [], _, h, _ => by simp [metAt_nil] at h
  | x :: r, hk, h, hE => by
    simp only [List.map_cons, List.nodup_cons] at hk
    rw [metAt_cons] at h
    unfold wtE
    simp only [List.map_cons, List.sum_cons]
    by_cases hx : x.1 = n
    · rw [if_pos hx, Option.some.injEq] at h
      subst h hx
      have e : (r.map fun x_1 => if x_1.1 ∈ x.1 :: E then 0 else wtN x_1.2.nd) = r.map fun x_1 => if x_1.1 ∈ E then 0 else wtN x_1.2.nd := by
        refine List.map_congr_left fun y hy => ?_
        have hne : y.1 ≠ x.1 := fun e => hk.1 (List.mem_map.2 ⟨y, hy, e⟩)
        simp [hne]
      rw [e]
      simp only [hE, if_false, List.mem_cons, true_or, if_true]
      omega
    · rw [if_neg hx] at h
      have ih := wtE_out hk.2 h hE
      unfold wtE at ih
      rw [ih]
      simp only [List.mem_cons, hx, false_or]
      omega
def pcOk : Pc → Prop
  | .text _ => True
  | .val x => validB x.1 x.2 = true
  | .tail x => validB x.1 x.2 = true
theorem vecM_ok : ∀ (b : Bool) (l : List (Int × Int)), (∀ x ∈ l, validB x.1 x.2 = true) → ∀ p ∈ vecM b l, pcOk p
  | _, [], _, p, hp => by simp [vecM] at hp
  | b, x :: r, h, p, hp => by
    unfold vecM at hp
    rcases List.mem_append.1 hp with hp | hp
    · cases b
      · simp at hp
      · simp at hp
        subst hp
        trivial
    · rcases List.mem_cons.1 hp with rfl | hp
      · exact h x (by simp)
      · exact vecM_ok true r (fun y hy => h y (List.mem_cons_of_mem _ hy)) p hp
theorem bodyM_ok {nd : Nd} (hk : kBox nd.kind = true) (h : ∀ x ∈ kids nd, validB x.1 x.2 = true) : ∀ p ∈ bodyM nd.kind nd.fields, pcOk p := by
  intro p hp
  unfold kids partsM at h
  rw [if_pos hk] at h
  unfold bodyM at hp
  by_cases h1 : nd.kind = 1
  · rw [if_pos h1] at h hp
    simp only [List.mem_cons, List.not_mem_nil, or_false] at hp
    rcases hp with rfl | rfl | rfl
    · trivial
    · exact h _ (by simp)
    · exact h _ (by simp)
  · rw [if_neg h1] at h hp
    by_cases h2 : nd.kind = 2
    · rw [if_pos h2] at h hp
      simp only [List.mem_cons, List.not_mem_nil, or_false] at hp
      rcases hp with rfl | rfl
      · trivial
      · exact h _ (by simp)
    · rw [if_neg h2] at h hp
      rcases List.mem_cons.1 hp with rfl | hp
      · trivial
      · rcases List.mem_append.1 hp with hp | hp
        · exact vecM_ok false _ h p hp
        · simp at hp
          subst hp
          trivial
/-- What tell knows: of the labelled objects L those of E were told. -/
structure TellInv (v : Int × Int) (L : List (Int × Met)) (E : List Int) (todo : List Pc) (ms : List (Int × Met)) : Prop where
  at_ : ∀ n, metAt ms n = (metAt L n).map fun m => if n ∈ E ∧ 0 ≤ m.label then setTold m else m
  cnt : ∀ n, cntP n todo + (if n ∈ E then 1 else 0) ≤ cntR n (v :: E.flatMap fun e => match metAt L e with | some m => kids m.nd | none => [])
  nodup : E.Nodup
  vals : ∀ p ∈ todo, pcOk p
/-- What label leaves. -/
structure Labelled (v : Int × Int) (L : List (Int × Met)) : Prop where
  keys : (L.map (·.1)).Nodup
  cnt : ∀ n, (cntR n (v :: allKids L) : Int) = tms L n
  each : ∀ x ∈ L, x.2.told = false ∧ 1 ≤ x.2.times ∧ (0 ≤ x.2.label ↔ many x.2 = true)
  good : ∀ x ∈ allKids L, validB x.1 x.2 = true
theorem cnt_sub (n : Int) : ∀ (L : List (Int × Met)) (E : List Int), (L.map (·.1)).Nodup → E.Nodup →
    cntR n (E.flatMap fun e => match metAt L e with | some m => kids m.nd | none => []) ≤ cntR n (allKids L)
  | [], E, _, _ => by
    induction E with
    | nil => simp [cntR]
    | cons e r ih => 
      rw [List.flatMap_cons]
      rename_i hE
      simp only [metAt_nil, List.nil_append] at ih ⊢
      simp only [List.nodup_cons] at hE
      exact ih hE.2
  | x :: r, E, hk, hE => by
    simp only [List.map_cons, List.nodup_cons] at hk
    have hnone : metAt r x.1 = none := by
      cases h : metAt r x.1 with
      | none => rfl
      | some m => exact absurd (List.mem_map.2 ⟨_, metAt_mem h, rfl⟩) hk.1
    have ih := cnt_sub n r E hk.2 hE
    have hak : allKids (x :: r) = kids x.2.nd ++ allKids r := by simp [allKids]
    rw [hak, cntR_append]
    suffices H : ∀ E : List Int, E.Nodup → cntR n (E.flatMap fun e => match metAt (x :: r) e with | some m => kids m.nd | none => []) =
        cntR n (E.flatMap fun e => match metAt r e with | some m => kids m.nd | none => []) + if x.1 ∈ E then cntR n (kids x.2.nd) else 0 by
      rw [H E hE]
      split <;> omega
    intro E hE
    induction E with
    | nil => simp [cntR]
    | cons e t ih2 =>
      simp only [List.nodup_cons] at hE
      rw [List.flatMap_cons, List.flatMap_cons, cntR_append, cntR_append, ih2 hE.2, metAt_cons]
      by_cases hx : x.1 = e
      · subst hx
        simp only [if_true, hnone, List.mem_cons, true_or, hE.1, if_false, cntR_nil]
        omega
      · rw [if_neg hx]
        simp only [List.mem_cons, hx, false_or]
        omega
section
variable {T}
variable {v : Int × Int} {L : List (Int × Met)} {E : List Int} {todo : List Pc} {ms : List (Int × Met)}
theorem TellInv.le (h : TellInv v L E todo ms) (hL : Labelled v L) (n : Int) : (cntP n todo : Int) + (if n ∈ E then 1 else 0) ≤ tms L n := by
  have h1 := h.cnt n
  have h2 := cnt_sub n L E hL.keys h.nodup
  have h3 := hL.cnt n
  rw [cntR_cons] at h1 h3
  rw [← h3]
  rw [Int.natCast_add]
  by_cases hE : n ∈ E
  · rw [if_pos hE] at h1 ⊢
    omega
  · rw [if_neg hE] at h1 ⊢
    omega
theorem tms_pos {n : Int} (h : 1 ≤ tms L n) : ∃ m, metAt L n = some m ∧ tms L n = m.times := by
  unfold tms at h ⊢
  cases hm : metAt L n with
  | none => rw [hm] at h; simp at h
  | some m => exact ⟨m, rfl, rfl⟩
/-- One object more is told. -/
theorem TellInv.expand (h : TellInv v L E (todo) ms) {n : Int} {m : Met} {rest l : List Pc} {ms' : List (Int × Met)} (hm : metAt L n = some m) (hn : n ∉ E) (hc : ∀ k, cntP k todo = cntP k rest + if k = n then 1 else 0)
    (hl : ∀ k, cntP k l = cntR k (kids m.nd)) (hv : ∀ p ∈ l, pcOk p) (hr : ∀ p ∈ rest, pcOk p) (hat : ∀ k, metAt ms' k = (metAt L k).map fun m => if k ∈ n :: E ∧ 0 ≤ m.label then setTold m else m) : TellInv v L (n :: E) (l ++ rest) ms' := by
  refine ⟨hat, fun k => ?_, List.nodup_cons.2 ⟨hn, h.nodup⟩, fun p hp => (List.mem_append.1 hp).elim (hv p) (hr p)⟩
  have h1 := h.cnt k
  rw [cntR_cons] at h1 ⊢
  rw [List.flatMap_cons, cntR_append, hm, cntP_append, hl k]
  rw [hc k] at h1
  simp only [List.mem_cons]
  by_cases hk : k = n
  · subst hk
    simp only [if_true, if_neg hn, true_or] at h1 ⊢
    omega
  · rw [if_neg hk] at h1
    simp only [hk, false_or]
    omega
theorem TellInv.swap (h : TellInv v L E todo ms) {todo' : List Pc} (hc : ∀ k, cntP k todo' ≤ cntP k todo) (hv : ∀ p ∈ todo', pcOk p) : TellInv v L E todo' ms :=
  ⟨h.at_, fun k => by have := h.cnt k; have := hc k; omega, h.nodup, hv⟩
theorem ok_text {s : ByteArray} {r : List Pc} (h : ∀ p ∈ r, pcOk p) : ∀ p ∈ [Pc.text s] ++ r, pcOk p := by
  intro p hp
  rcases List.mem_append.1 hp with hp | hp
  · simp at hp
    subst hp
    trivial
  · exact h p hp
theorem ok_dot {a b : ByteArray} {x : Int × Int} {r : List Pc} (hx : validB x.1 x.2 = true) (h : ∀ p ∈ r, pcOk p) : ∀ p ∈ [Pc.text a, .val x, .text b] ++ r, pcOk p := by
  intro p hp
  rcases List.mem_append.1 hp with hp | hp
  · simp only [List.mem_cons, List.not_mem_nil, or_false] at hp
    rcases hp with rfl | rfl | rfl
    · trivial
    · exact hx
    · trivial
  · exact h p hp
theorem kids_good {n : Int} {m : Met} (hL : Labelled v L) (hm : metAt L n = some m) : ∀ x ∈ kids m.nd, validB x.1 x.2 = true := fun x hx =>
  hL.good x (List.mem_flatMap.2 ⟨_, metAt_mem hm, hx⟩)
theorem tell_end (hL : Labelled v L) : ∀ (f : Nat) (todo : List Pc) (E : List Int) (ms : List (Int × Met)) (out : List UInt8), TellInv v L E todo ms → wtP todo + wtE E L < f → ∃ r, tellM T f todo ms out = some r
  | 0, _, _, _, _, _, h => absurd h (by omega)
  | f + 1, [], E, ms, out, _, _ => ⟨out, rfl⟩
  | f + 1, .text s :: r, E, ms, out, hi, h => by
    unfold tellM
    simp only [wtP] at h
    exact tell_end hL f r E ms _ (hi.swap (fun k => by simp [cntP]) fun p hp => hi.vals p (List.mem_cons_of_mem _ hp)) (by omega)
  | f + 1, .val x :: r, E, ms, out, hi, h => by
    unfold tellM formM
    simp only [wtP] at h
    have hvx : validB x.1 x.2 = true := hi.vals (.val x) (by simp)
    have hvr : ∀ p ∈ r, pcOk p := fun p hp => hi.vals p (List.mem_cons_of_mem _ hp)
    rw [if_neg (by rw [hvx]; decide)]
    by_cases hx : x.1 ≠ 2
    · rw [if_pos hx]
      exact tell_end hL f _ E ms _ (hi.swap (fun k => by simp [cntP]) (ok_text hvr)) (by simp only [List.cons_append, List.nil_append, wtP]; omega)
    · rw [if_neg hx]
      have hx' : x.1 = 2 := by simpa using hx
      have hc : ∀ k, cntP k (.val x :: r) = cntP k r + if k = x.2 then 1 else 0 := fun k => by simp only [cntP, hx', true_and, eq_comm]
      have hle := hi.le hL x.2
      rw [hc] at hle
      simp only [if_true, Int.natCast_add] at hle
      obtain ⟨m, hm, htm⟩ := tms_pos (L := L) (n := x.2) (by split at hle <;> omega)
      have hat := hi.at_ x.2
      rw [hm, Option.map_some] at hat
      have heach := hL.each _ (metAt_mem hm)
      simp only at heach
      rw [hat]
      simp only
      have e1 : (if x.2 ∈ E ∧ 0 ≤ m.label then setTold m else m).nd = m.nd := by split <;> rfl
      have e2 : (if x.2 ∈ E ∧ 0 ≤ m.label then setTold m else m).label = m.label := by split <;> rfl
      simp only [e1, e2]
      by_cases hk : kBox m.nd.kind = false
      · rw [if_pos hk]
        exact tell_end hL f _ E ms _ (hi.swap (fun k => by simp [cntP]) (ok_text hvr)) (by simp only [List.cons_append, List.nil_append, wtP]; omega)
      · rw [if_neg hk]
        have hk' : kBox m.nd.kind = true := by simpa using hk
        have hw := bodyM_wt hk'
        by_cases hl : 0 ≤ m.label
        · rw [if_pos hl]
          by_cases hE : x.2 ∈ E
          · have e3 : (if x.2 ∈ E ∧ 0 ≤ m.label then setTold m else m).told = true := by rw [if_pos ⟨hE, hl⟩]; rfl
            rw [if_pos e3]
            exact tell_end hL f _ E ms _ (hi.swap (fun k => by simp [cntP]) (ok_text hvr)) (by simp only [List.cons_append, List.nil_append, wtP]; omega)
          · have e3 : ¬ (if x.2 ∈ E ∧ 0 ≤ m.label then setTold m else m).told = true := by rw [if_neg (fun e => hE e.1), heach.1]; decide
            rw [if_neg e3]
            have hwe := wtE_out hL.keys hm hE
            refine tell_end hL f _ (x.2 :: E) _ _ (hi.expand hm hE hc (l := .text _ :: bodyM m.nd.kind m.nd.fields) (fun k => by simp only [cntP]; exact bodyM_cnt k hk') (fun p hp => (List.mem_cons.1 hp).elim (fun e => e ▸ trivial) (bodyM_ok hk' (kids_good hL hm) p)) hvr fun k => ?_) (by rw [wtP_append]; simp only [wtP]; omega)
            rw [metAt_mod, hi.at_ k, hi.at_ x.2]
            by_cases hkx : k = x.2
            · subst hkx
              simp [hm, hE, hl]
            · simp [hkx]
        · rw [if_neg hl]
          have hmany : many m = false := by
            cases hmm : many m with
            | false => rfl
            | true => exact absurd (heach.2.2.2 hmm) hl
          have ht : m.times ≤ 1 := by
            unfold many at hmany
            rw [hk'] at hmany
            simp at hmany
            exact hmany
          have hE : x.2 ∉ E := fun e => by
            rw [if_pos e] at hle
            omega
          have hwe := wtE_out hL.keys hm hE
          refine tell_end hL f _ (x.2 :: E) _ _ (hi.expand hm hE hc (fun k => bodyM_cnt k hk') (bodyM_ok hk' (kids_good hL hm)) hvr fun k => ?_) (by rw [wtP_append]; omega)
          rw [hi.at_ k]
          by_cases hkx : k = x.2
          · subst hkx
            simp [hm, hl]
          · simp [hkx]
  | f + 1, .tail x :: r, E, ms, out, hi, h => by
    unfold tellM tailM
    simp only [wtP] at h
    have hvx : validB x.1 x.2 = true := hi.vals (.tail x) (by simp)
    have hvr : ∀ p ∈ r, pcOk p := fun p hp => hi.vals p (List.mem_cons_of_mem _ hp)
    by_cases h0 : x = (3, 0)
    · rw [if_pos h0]
      exact tell_end hL f _ E ms _ (hi.swap (fun k => by simp [cntP]) (ok_text hvr)) (by simp only [List.cons_append, List.nil_append, wtP]; omega)
    rw [if_neg h0]
    by_cases hx : x.1 ≠ 2
    · rw [if_pos hx]
      exact tell_end hL f _ E ms _ (hi.swap (fun k => by simp [cntP]) (ok_dot hvx hvr)) (by simp only [List.cons_append, List.nil_append, wtP]; omega)
    · rw [if_neg hx]
      have hx' : x.1 = 2 := by simpa using hx
      have hc : ∀ k, cntP k (.tail x :: r) = cntP k r + if k = x.2 then 1 else 0 := fun k => by simp only [cntP, hx', true_and, eq_comm]
      have hle := hi.le hL x.2
      rw [hc] at hle
      simp only [if_true, Int.natCast_add] at hle
      obtain ⟨m, hm, htm⟩ := tms_pos (L := L) (n := x.2) (by split at hle <;> omega)
      have hat := hi.at_ x.2
      rw [hm, Option.map_some] at hat
      have heach := hL.each _ (metAt_mem hm)
      simp only at heach
      rw [hat]
      simp only
      have e1 : (if x.2 ∈ E ∧ 0 ≤ m.label then setTold m else m).nd = m.nd := by split <;> rfl
      have e2 : (if x.2 ∈ E ∧ 0 ≤ m.label then setTold m else m).label = m.label := by split <;> rfl
      simp only [e1, e2]
      by_cases hk : m.nd.kind = 1 ∧ m.label < 0
      · rw [if_pos hk]
        have hk' : kBox m.nd.kind = true := by rw [hk.1]; rfl
        have hw := bodyM_wt hk'
        have hmany : many m = false := by
          cases hmm : many m with
          | false => rfl
          | true => have := heach.2.2.2 hmm; omega
        have ht : m.times ≤ 1 := by
          unfold many at hmany
          rw [hk'] at hmany
          simp at hmany
          exact hmany
        have hE : x.2 ∉ E := fun e => by
          rw [if_pos e] at hle
          omega
        have hwe := wtE_out hL.keys hm hE
        have hb : bodyM m.nd.kind m.nd.fields = [.text par0, .val (fieldM m.nd.fields 0), .tail (fieldM m.nd.fields 1)] := by simp [bodyM, hk.1]
        refine tell_end hL f _ (x.2 :: E) _ _ (hi.expand hm hE hc (l := [.text sp1, .val (fieldM m.nd.fields 0), .tail (fieldM m.nd.fields 1)]) (fun k => ?_) (fun p hp => ?_) hvr fun k => ?_) ?_
        · have := bodyM_cnt k hk'
          rw [hb] at this
          rw [← this]
          simp only [cntP]
        · have := bodyM_ok hk' (kids_good hL hm)
          rw [hb] at this
          simp only [List.mem_cons, List.not_mem_nil, or_false] at hp
          rcases hp with rfl | rfl | rfl
          · trivial
          · exact this _ (by simp)
          · exact this _ (by simp)
        · rw [hi.at_ k]
          by_cases hkx : k = x.2
          · subst hkx
            have hl0 : ¬ 0 ≤ m.label := by omega
            simp [hm, hl0]
          · simp [hkx]
        · rw [hb] at hw
          rw [wtP_append]
          simp only [wtP] at hw ⊢
          omega
      · rw [if_neg hk]
        exact tell_end hL f _ E ms _ (hi.swap (fun k => by simp [cntP]) (ok_dot hvx hvr)) (by simp only [List.cons_append, List.nil_append, wtP]; omega)
end
end
theorem labelled {nodes : List Nd} {v : Int × Int} {f : Nat} {ms : List (Int × Met)} (h : lookM nodes f [v] [] 0 = .ok ms) : Labelled v (labelM 0 ms) := by
  obtain ⟨c, hi⟩ := look_done h
  refine ⟨by rw [labelM_keys]; exact hi.keys, fun n => ?_, fun x hx => ?_, fun x hx => ?_⟩
  · rw [labelM_kids, labelM_tms, ← hi.cnt n, cntR_nil]
    omega
  · have := labelM_each 0 ms (by omega) (fun y hy => ⟨(hi.each y hy).1, (hi.each y hy).2.1, (hi.each y hy).2.2.1⟩) x hx
    exact ⟨this.1, this.2.1, this.2.2.1⟩
  · rw [labelM_kids] at hx
    exact (hi.good x (List.mem_cons_of_mem _ hx)).resolve_left (by simp)
/-- So many rounds tell does. -/
def rounds (L : List (Int × Met)) : Nat := wtE [] L + 6
theorem tell_ok (T : Tells) {nodes : List Nd} {v : Int × Int} {f : Nat} {ms : List (Int × Met)} (h : lookM nodes f [v] [] 0 = .ok ms) : ∃ r, tellM T (rounds (labelM 0 ms)) [.val v] (labelM 0 ms) [] = some r := by
  obtain ⟨c, hi⟩ := look_done h
  refine tell_end (labelled h) _ _ [] _ _ ⟨fun n => ?_, fun n => ?_, by simp, fun p hp => ?_⟩ ?_
  · simp
  · simp only [cntP, List.not_mem_nil, if_false, List.flatMap_nil, cntR_cons, cntR_nil]
    omega
  · simp only [List.mem_singleton] at hp
    subst hp
    exact (hi.good v (by simp)).resolve_left (by simp)
  · simp only [wtP, rounds]
    omega
end Go.Proofs.YtpejmgellidhbaaDoor
