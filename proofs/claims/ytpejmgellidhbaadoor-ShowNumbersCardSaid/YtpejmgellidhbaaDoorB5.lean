/- A walk in memory whose object is turned, and one that gets an object more. -/
import Derived.Test.YtpejmgellidhbaaDoorB4
import Derived.Maps.AppendAt
import Derived.Deep.AppendLies
namespace Go.Proofs.YtpejmgellidhbaaDoor
open Go.RowKit

/-! Plain lists. -/
theorem mapAt_met : ∀ (ms : List (Int × Met)) (bs : List Nat) (n : Int), bs.length = ms.length →
    (mapAt ((ms.map (·.1)).zip bs) n = none → metAt ms n = none) ∧
    (∀ b, mapAt ((ms.map (·.1)).zip bs) n = some b → ∃ (i : Nat) (mm : Met), bs[i]? = some b ∧ ms[i]? = some (n, mm) ∧ metAt ms n = some mm)
  | [], bs, n, h => by simp [mapAt, metAt]
  | x :: r, [], n, h => by simp at h
  | x :: r, b :: bs, n, h => by
    have ih := mapAt_met r bs n (by simpa using h)
    by_cases hx : x.1 = n
    · have e1 : mapAt (((x :: r).map (·.1)).zip (b :: bs)) n = some b := by simp [mapAt, hx]
      have e2 : metAt (x :: r) n = some x.2 := by simp [metAt, hx]
      rw [e1, e2]
      refine ⟨by simp, fun b' hb' => ⟨0, x.2, ?_, ?_, rfl⟩⟩
      · simpa using hb'
      · simp [← hx]
    · have e1 : mapAt (((x :: r).map (·.1)).zip (b :: bs)) n = mapAt ((r.map (·.1)).zip bs) n := by simp [mapAt, hx]
      have e2 : metAt (x :: r) n = metAt r n := by simp [metAt, hx]
      rw [e1, e2]
      refine ⟨ih.1, fun b' hb' => ?_⟩
      obtain ⟨i, mm, h1, h2, h3⟩ := ih.2 b' hb'
      exact ⟨i + 1, mm, by simpa using h1, by simpa using h2, h3⟩
theorem metMod_length (f : Met → Met) (n : Int) : ∀ ms : List (Int × Met), (metMod f n ms).length = ms.length
  | [] => rfl
  | x :: r => by
    unfold metMod
    split
    · rfl
    · simp [metMod_length f n r]
theorem metMod_keys (f : Met → Met) (n : Int) : ∀ ms : List (Int × Met), (metMod f n ms).map (·.1) = ms.map (·.1)
  | [] => rfl
  | x :: r => by
    unfold metMod
    split
    · rfl
    · simp [metMod_keys f n r]
theorem metMod_at (f : Met → Met) (n : Int) : ∀ (ms : List (Int × Met)) (i : Nat) (mm : Met), (ms.map (·.1)).Nodup → ms[i]? = some (n, mm) → ∀ j, (metMod f n ms)[j]? = if j = i then some (n, f mm) else ms[j]?
  | [], i, mm, _, h, j => by simp at h
  | x :: r, i, mm, hk, h, j => by
    simp only [List.map_cons, List.nodup_cons] at hk
    unfold metMod
    cases i with
    | zero =>
      simp only [List.getElem?_cons_zero, Option.some.injEq] at h
      subst h
      cases j <;> simp
    | succ i =>
      simp only [List.getElem?_cons_succ] at h
      have hne : ¬ x.1 = n := fun e => hk.1 (by rw [e]; exact List.mem_map.2 ⟨_, List.mem_of_getElem? h, rfl⟩)
      rw [if_neg hne]
      cases j with
      | zero => simp
      | succ j =>
        simp only [List.getElem?_cons_succ, metMod_at f n r i mm hk.2 h j, Nat.add_right_cancel_iff]
theorem metMod_last (f : Met → Met) (n : Int) (mm : Met) : ∀ ms : List (Int × Met), metAt ms n = none → metMod f n (ms ++ [(n, mm)]) = ms ++ [(n, f mm)]
  | [], _ => by simp [metMod]
  | x :: r, h => by
    by_cases hx : x.1 = n
    · simp [metAt, hx] at h
    · have h2 : metAt r n = none := by simpa [metAt, hx] using h
      simp [metMod, hx, metMod_last f n mm r h2]
theorem metAt_keys : ∀ (ms : List (Int × Met)) (n : Int), metAt ms n = none → n ∉ ms.map (·.1)
  | [], _, _ => by simp
  | x :: r, n, h => by
    by_cases hx : x.1 = n
    · simp [metAt, hx] at h
    · have h2 : metAt r n = none := by simpa [metAt, hx] using h
      have := metAt_keys r n h2
      simp only [List.map_cons, List.mem_cons, not_or]
      exact ⟨fun e => hx e.symm, this⟩

section
variable {w0 w w' : World} {B p m : Nat} {hv ov : Value} {c : Int} {ms : List (Int × Met)} {bs : List Nat}
/-- A met object's cells. -/
def metCells (rv fv ev : Value) (mm : Met) : Array Value := #[.int .i64 mm.nd.id, .int .i64 mm.nd.kind, rv, fv, ev, .int .i64 mm.times, .int .i64 mm.label, .bool mm.told]
/-- An object of the walk is turned: its block alone has changed. -/
theorem WalkAt.turn (h : WalkAt w0 w B p m hv ov c ms bs) {i b : Nat} {n : Int} {mm : Met} (hi : bs[i]? = some b) (hm : ms[i]? = some (n, mm)) (f : Met → Met) (hf : (f mm).nd = mm.nd) (j : Nat) (v : Value)
    (hc : ∀ rv fv ev, (metCells rv fv ev mm).setIfInBounds j v = metCells rv fv ev (f mm)) : WalkAt w0 (w.setCell ⟨b, j, none⟩ v) B p m hv ov c (metMod f n ms) bs := by
  obtain ⟨es, hmp, he⟩ := h.map
  have hbm := List.mem_of_getElem? hi
  obtain ⟨rv, fv, ev, hb, hn⟩ := h.mets i b _ hi hm
  have hpb : p ≠ b := fun e => h.p_ne (.inr (.inl hbm)) e.symm
  have hmb : m ≠ b := by
    intro e
    rw [e, hb] at hmp
    simp at hmp
  refine ⟨(Below.heap_setCell _ _ _ _ hpb).trans h.own, ⟨es, (Below.heap_setCell _ _ _ _ hmb).trans (by rw [metMod_length]; exact hmp), by rw [metMod_keys]; exact he⟩, h.len.trans (metMod_length f n ms).symm,
    fun i' b' x' hi' hx' => ?_, by rw [metMod_keys]; exact h.keys, h.blocks, ?_, h.base, h.elder.1.setCell (h.base.2.2 b hbm) _, h.elder.2⟩
  · rw [metMod_at f n ms i mm h.keys hm] at hx'
    by_cases hii : i' = i
    · rw [if_pos hii, Option.some.injEq] at hx'
      subst hx' hii
      rw [hi, Option.some.injEq] at hi'
      subst hi'
      refine ⟨rv, fv, ev, ?_, hf ▸ hn⟩
      have := hs_same (i := j) (v := v) hb
      rw [this]
      exact congrArg some (congrArg (fun c => Obj.cells c 84 (0, 0)) (hc rv fv ev))
    · rw [if_neg hii] at hx'
      obtain ⟨rv', fv', ev', h1, h2⟩ := h.mets i' b' x' hi' hx'
      have hne : b' ≠ b := by
        intro e
        subst e
        have h3 : i' < bs.length := (List.getElem?_eq_some_iff.1 hi').1
        have h4 : i < bs.length := (List.getElem?_eq_some_iff.1 hi).1
        exact hii ((List.getElem?_inj h3 h.blocks).1 (hi'.trans hi.symm))
      exact ⟨rv', fv', ev', (Below.heap_setCell _ _ _ _ hne).trans h1, h2⟩
  · have hl : ((metMod f n ms).map fun x => Value.int .i64 x.1) = ms.map fun x => Value.int .i64 x.1 := by
      have := congrArg (List.map fun k : Int => Value.int .i64 k) (metMod_keys f n ms)
      simpa [List.map_map, Function.comp_def] using this
    rw [hl, metMod_length]
    refine ⟨h.order.1, ?_⟩
    rcases h.order.2 with hn' | ⟨g, cap, cur, rfl, hbg, hgg, rest⟩
    · exact .inl hn'
    · refine .inr ⟨g, cap, cur, rfl, hbg, (Below.heap_setCell _ _ _ _ ?_).trans hgg, rest⟩
      intro e
      rw [e, hb] at hgg
      simp at hgg
/-- One object more. -/
theorem WalkAt.grow (h : WalkAt w0 w B p m hv ov c ms bs) {es : Array MapEntry} {nb : Nat} {n : Int} {mm : Met} {ov' : Value} (hnew : metAt ms n = none) (hnb : w.heap.size ≤ nb) (hBn : B ≤ nb)
    (hes : es.toList = mapEs ((ms.map (·.1)).zip bs) 0)
    (hown : w'.heap[p]? = some (.cells #[hv, .map (some m), ov', .int .i64 c] 69 (0, 0)))
    (hmap : w'.heap[m]? = some (.map (es.push { key := .int .i64 n, val := .pointer (some ⟨nb, 0, none⟩), born := ms.length }) (ms.length + 1)))
    (hmet : MetAt w0 w' nb mm) (hold : ∀ b ∈ bs, w'.heap[b]? = w.heap[b]?) (hord : w'.ownsRow B 3 1 ov' (ms.length + 1) ((ms.map fun x => .int .i64 x.1) ++ [.int .i64 n])) (hb : Below B w0 w') :
    WalkAt w0 w' B p m hv ov' c (ms ++ [(n, mm)]) (bs ++ [nb]) := by
  have hzl : (ms.map (·.1)).length = bs.length := by simp [h.len]
  refine ⟨hown, ⟨_, by simpa using hmap, ?_⟩, by simp [h.len], fun i b x hi hx => ?_, ?_, ?_, by simpa using hord, ⟨h.base.1, h.base.2.1, ?_⟩, hb, h.elder.2⟩
  · rw [Array.toList_push, hes, List.map_append, List.zip_append hzl]
    have hz : ((ms.map (·.1)).zip bs).length = ms.length := by simp [List.length_zip, h.len]
    rw [show ([(n, mm)].map (·.1)).zip [nb] = [(n, nb)] from rfl, mapEs_append, hz, Nat.zero_add]
  · by_cases hlt : i < ms.length
    · rw [List.getElem?_append_left (by have := h.len; omega)] at hi
      rw [List.getElem?_append_left hlt] at hx
      obtain ⟨rv, fv, ev, h1, h2⟩ := h.mets i b x hi hx
      exact ⟨rv, fv, ev, (hold b (List.mem_of_getElem? hi)).trans h1, h2⟩
    · have hil : i < ms.length + 1 := by
        have := (List.getElem?_eq_some_iff.1 hx).1
        simpa using this
      obtain rfl : i = ms.length := by omega
      rw [List.getElem?_append_right (by omega)] at hx
      rw [List.getElem?_append_right (by have := h.len; omega)] at hi
      simp [h.len] at hx hi
      subst hx hi
      exact hmet
  · rw [List.map_append, List.nodup_append]
    refine ⟨h.keys, by simp, fun a ha b hb e => ?_⟩
    simp at hb
    subst hb e
    exact metAt_keys ms _ hnew ha
  · rw [List.nodup_append]
    refine ⟨h.blocks, by simp, fun a ha b hb e => ?_⟩
    simp at hb
    subst hb e
    have := (h.lt (.inr (.inr (.inl ha)))).2
    omega
  · intro b hb
    rcases List.mem_append.1 hb with hb | hb
    · exact h.base.2.2 b hb
    · simp at hb
      omega
end

/-- append onto a row of the call's own, at an operation of a region that draws; it is said where the new row lies. -/
theorem step_append_at {P : Program} {w : World} {ops : Array Oper} {o : Oper} {a : Act} {K : Act → World → Prop} {Q : Exit → Act → World → Prop} {E : Prop} (hgd : o.guard = none) (s x : Operand) (t : TypeId)
    (ho : o.op = .call { callee := .builtin .append, args := #[s, x], argTypes := #[t, t] })
    (base : Nat) (e : TypeId) (i : TypeInfo) (z : Value) (size bytes : Nat) (ht : P.underlying t = some (.slice e)) (hi : P.info? e = some i) (hz : i.zero = some z)
    (hsize : i.size = size) (hby : i.bytes = bytes) (hzs : z.cells.size = size) (hsz : 0 < size)
    (v : Value) (n : Nat) (xs : List Value) (hs : a.eval s = v) (hown : w.ownsRow base e size v n xs)
    (ad : Addr) (m c : Nat) (news : List Value) (hx : a.eval x = .slice (some ad) m c) (hl : news.length = m * size) (hnews : ∀ j u, news[j]? = some u → w.cell? (ad.add j) = some u) (h1 : ∀ u ∈ news, u.oneCell' = true)
    (h63 : n + m ≤ maxLen) (hbytes : (n + m) * bytes ≤ 140737488355328) (hbase : base ≤ w.heap.size)
    (h : ∀ v' w', w'.ownsRow base e size v' (n + m) (xs ++ news) → w.grownBy w' v.ownBlock → (v'.ownBlock = v.ownBlock ∨ v'.ownBlock = some w.heap.size) → K (a.put o.dst v') w') :
    if Region.wanted o (yielded ops a.tmps) = true then Oper.wp P o a w K Q else E := by
  have hw : Region.wanted o (yielded ops a.tmps) = true := by simp [Region.wanted, hgd]
  rw [if_pos hw]
  obtain ⟨v', w', hr, h2, h3, _, h5⟩ := run_append_own_at (P := P) w base t o.type e i z size bytes ht hi hz hsize hby hzs hsz v n xs hown ad m c news hl hnews h1 h63 hbytes hbase
  unfold Oper.wp execOp
  simp only [ho, resolve, invoke, builtin, Sem.run_bind, Sem.run_pure, Result.andThen_ok, List.map_toArray, List.map_cons, List.map_nil, hs, hx, hr]
  exact h v' w' h2 h3 h5
end Go.Proofs.YtpejmgellidhbaaDoor
