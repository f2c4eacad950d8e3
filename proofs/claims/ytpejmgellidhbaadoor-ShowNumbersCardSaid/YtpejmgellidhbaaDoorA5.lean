/- The method Node of show.nodes: the first node of a number. -/
import Derived.Test.YtpejmgellidhbaaDoorA4
import Derived.Deep.DeepCutAuto
import Derived.Deep.CutBlock
import Derived.Laws.CopyOwn
namespace Go.Proofs.YtpejmgellidhbaaDoor
open Go.RowKit

/-- A node, as far as show reads it. -/
structure Nd where
  id : Int
  kind : Int
  raw : List Int
  fields : List (Int × Int)

/-- A node's five values. -/
structure NV (w : World) (nd : Nd) (rv fv ev : Value) : Prop where
  raw : RdInts w rv nd.raw
  fields : RdVals w fv nd.fields
  ev : ∃ A n c, ev = .slice A n c
theorem NV.below {w w' : World} {nd : Nd} {rv fv ev : Value} (h : NV w nd rv fv ev) {B : Nat} (hb : Below B w w') (hB : w.heap.size ≤ B) : NV w' nd rv fv ev :=
  ⟨h.raw.below hb hB, h.fields.below hb hB, h.ev⟩
theorem NV.rawForm {w : World} {nd : Nd} {rv fv ev : Value} (h : NV w nd rv fv ev) : ∃ A n c, rv = .slice A n c := by
  obtain ⟨A, c, e, _⟩ := h.raw
  exact ⟨A, _, c, e⟩
theorem NV.fieldsForm {w : World} {nd : Nd} {rv fv ev : Value} (h : NV w nd rv fv ev) : ∃ A n c, fv = .slice A n c := by
  obtain ⟨A, c, e, _⟩ := h.fields
  exact ⟨A, _, c, e⟩
/-- A node lies at an address. -/
def RdNode (w : World) (b o : Nat) (nd : Nd) : Prop :=
  ∃ rv fv ev, w.cell? ⟨b, o, none⟩ = some (.int .i64 nd.id) ∧ w.cell? ⟨b, o + 1, none⟩ = some (.int .i64 nd.kind) ∧ w.cell? ⟨b, o + 2, none⟩ = some rv ∧
    w.cell? ⟨b, o + 3, none⟩ = some fv ∧ w.cell? ⟨b, o + 4, none⟩ = some ev ∧ NV w nd rv fv ev
def RdNodes (w : World) (v : Value) (xs : List Nd) : Prop :=
  ∃ A c, v = .slice A xs.length c ∧ xs.length ≤ 140737488351232 ∧ (0 < xs.length → ∃ b o, A = some ⟨b, o, none⟩ ∧ b < w.heap.size ∧ ∀ j, (h : j < xs.length) → RdNode w b (o + j * 5) xs[j])
theorem RdNode.below {w w' : World} {b o : Nat} {nd : Nd} (h : RdNode w b o nd) {B : Nat} (hb : Below B w w') (hB : w.heap.size ≤ B) (hlt : b < w.heap.size) : RdNode w' b o nd := by
  obtain ⟨rv, fv, ev, h0, h1, h2, h3, h4, hn⟩ := h
  have hc : ∀ k, w'.cell? ⟨b, k, none⟩ = w.cell? ⟨b, k, none⟩ := fun k => hb.cell (p := ⟨b, k, none⟩) (by simp; omega)
  exact ⟨rv, fv, ev, by rw [hc]; exact h0, by rw [hc]; exact h1, by rw [hc]; exact h2, by rw [hc]; exact h3, by rw [hc]; exact h4, hn.below hb hB⟩
theorem RdNodes.below {w w' : World} {v : Value} {xs : List Nd} (h : RdNodes w v xs) {B : Nat} (hb : Below B w w') (hB : w.heap.size ≤ B) : RdNodes w' v xs := by
  obtain ⟨A, c, e, hl, hc⟩ := h
  refine ⟨A, c, e, hl, fun h0 => ?_⟩
  obtain ⟨b, o, e2, hlt, hr⟩ := hc h0
  exact ⟨b, o, e2, Nat.lt_of_lt_of_le hlt hb.size, fun j hj => (hr j hj).below hb hB hlt⟩

theorem find_first : ∀ (xs : List Nd) (n : Int) (k : Nat) (hk : k < xs.length), xs[k].id = n → (∀ j (h : j < xs.length), j < k → xs[j].id ≠ n) → xs.find? (fun x => x.id == n) = some xs[k]
  | [], _, _, hk, _, _ => absurd hk (by simp)
  | x :: r, n, 0, _, h, _ => by
    rw [List.find?_cons_of_pos]
    · rfl
    · simpa using h
  | x :: r, n, k + 1, hk, h, hno => by
    rw [List.find?_cons_of_neg]
    · exact find_first r n k (by simpa using hk) h (fun j hj hlt => hno (j + 1) (by simpa using hj) (by omega))
    · exact fun e => hno 0 (by simp) (by omega) (by simpa using e)
theorem find_none (xs : List Nd) (n : Int) (h : ∀ j (h : j < xs.length), xs[j].id ≠ n) : xs.find? (fun x => x.id == n) = none := by
  rw [List.find?_eq_none]
  intro x hx
  obtain ⟨j, hj, rfl⟩ := List.getElem_of_mem hx
  simpa using h j hj
def findN (xs : List Nd) (n : Int) : Option Nd := xs.find? fun x => x.id == n
/-- What Node tells. -/
def NodePost (w00 w0 : World) (r : Option Nd) (e : Ending) (w' : World) : Prop :=
  Below w0.heap.size w0 w' ∧ match r with
    | some nd => ∃ rv fv ev, e = .returned (.tuple #[.agg #[.int .i64 nd.id, .int .i64 nd.kind, rv, fv, ev], .agg #[.int .i64 0, .int .i64 0]]) ∧ NV w00 nd rv fv ev
    | none => ∃ v, e = .returned (.tuple #[v, .agg #[.int .i64 30, .int .i64 0]]) ∧ v = .agg #[.int .i64 0, .int .i64 0, .slice none 0 0, .slice none 0 0, .slice none 0 0]

theorem results_cell2 {fn : Func} {p q : Tmp} {ty ty' : TypeId} (h : fn.results = #[.cell p ty, .cell q ty']) (tmps : Array Value) (P : Program) (w : World) :
    (results fn tmps).run P w = ((asAddr (tmps.getD p undef)).run P w).andThen fun a w1 => ((loadVar ty a).run P w1).andThen fun v w2 =>
      ((asAddr (tmps.getD q undef)).run P w2).andThen fun a' w3 => ((loadVar ty' a').run P w3).andThen fun v' w4 => .ok (.tuple #[v, v']) w4 := by
  simp only [results, h]
  simp [Sem.run_bind, Result.andThen]
theorem res3438 {fn : Func} {p q : Tmp} (h : fn.results = #[.cell p 34, .cell q 38]) {tmps : Array Value} {w : World} {b b' : Nat} {cs cs' : Array Value} {T T' : TypeId} {fr fr' : Nat × Nat}
    (ht : tmps.getD p undef = .pointer (some ⟨b, 0, none⟩)) (ht' : tmps.getD q undef = .pointer (some ⟨b', 0, none⟩)) (hb : w.heap[b]? = some (.cells cs T fr)) (hb' : w.heap[b']? = some (.cells cs' T' fr'))
    (hs : cs.size = 5) (hs' : cs'.size = 2) : (results fn tmps).run Tryd.prog w = .ok (.tuple #[.agg cs, .agg cs']) w := by
  refine (results_cell2 h _ _ _).trans ?_
  have l1 := run_loadVar_row (P := Tryd.prog) w b T 34 cs fr _ hb Tryd.underlying34 rfl (by rw [hs]; kernel_rfl)
  have l2 := run_loadVar_row (P := Tryd.prog) w b' T' 38 cs' fr' _ hb' Tryd.underlying38 rfl (by rw [hs']; kernel_rfl)
  rw [ht, ht']
  simp only [run_asAddr, Result.andThen, l1, l2]

section
variable {ops : Array Oper} {rest : List Oper} {op : Oper} {a : Act} {w : World} {Q : Exit → Act → World → Prop}
/-- A node is stored whole. -/
theorem st34 (hgd : op.guard = none) (x y : Operand) (ho : op.op = .store 34 x y) (g : Nat) {i k : Int} {A1 A2 A3 : Option Addr} {n1 n2 n3 c1 c2 c3 : Nat} (hx : a.eval x = .pointer (some ⟨g, 0, none⟩))
    (hy : a.eval y = .agg #[.int .i64 i, .int .i64 k, .slice A1 n1 c1, .slice A2 n2 c2, .slice A3 n3 c3]) {T : TypeId} {old : Array Value} (hg : w.heap[g]? = some (.cells old T (0, 0))) (hold : old.size = 5)
    (h : wpList Tryd.prog ops Q rest (a.put op.dst undef) (w.setRow g #[.int .i64 i, .int .i64 k, .slice A1 n1 c1, .slice A2 n2 c2, .slice A3 n3 c3])) : wpList Tryd.prog ops Q (op :: rest) a w :=
  wpList_store_row hgd 34 x y ho g _ hx hy T old hg (by kernel_rfl) hold (by simp [Value.oneCell']) h
/-- A fault is stored whole. -/
theorem st38 (hgd : op.guard = none) (x y : Operand) (ho : op.op = .store 38 x y) (g : Nat) {i k : Int} (hx : a.eval x = .pointer (some ⟨g, 0, none⟩))
    (hy : a.eval y = .agg #[.int .i64 i, .int .i64 k]) {T : TypeId} {old : Array Value} (hg : w.heap[g]? = some (.cells old T (0, 0))) (hold : old.size = 2)
    (h : wpList Tryd.prog ops Q rest (a.put op.dst undef) (w.setRow g #[.int .i64 i, .int .i64 k])) : wpList Tryd.prog ops Q (op :: rest) a w :=
  wpList_store_row hgd 38 x y ho g _ hx hy T old hg (by kernel_rfl) hold (by simp [Value.oneCell']) h
/-- A value is stored whole. -/
theorem st27 (hgd : op.guard = none) (x y : Operand) (ho : op.op = .store 27 x y) (g : Nat) {i k : Int} (hx : a.eval x = .pointer (some ⟨g, 0, none⟩))
    (hy : a.eval y = .agg #[.int .i64 i, .int .i64 k]) {T : TypeId} {old : Array Value} (hg : w.heap[g]? = some (.cells old T (0, 0))) (hold : old.size = 2)
    (h : wpList Tryd.prog ops Q rest (a.put op.dst undef) (w.setRow g #[.int .i64 i, .int .i64 k])) : wpList Tryd.prog ops Q (op :: rest) a w :=
  wpList_store_row hgd 27 x y ho g _ hx hy T old hg (by kernel_rfl) hold (by simp [Value.oneCell']) h
end

set_option maxHeartbeats 1000000 in
theorem node_any (w00 : World) (nv rv : Value) (xs : List Nd) (vk vn : Int) (w : World) (h : RdNodes w00 nv xs) (h00 : Below w00.heap.size w00 w) (hr : ∃ A n c, rv = .slice A n c) :
    Calls Tryd.prog 112 #[.agg #[nv, rv], .agg #[.int .i64 vk, .int .i64 vn]] w (NodePost w00 w (findN xs vn)) := by
  obtain ⟨A, c, rfl, hl, hx⟩ := h
  obtain ⟨A', n', c', rfl⟩ := hr
  go_enter Tryd.func112, Tryd.ntmps112
  go_wp2
  have hB : Below w.heap.size w ((((w.alloc (.cells #[.slice A xs.length c, .slice A' n' c'] 59)).alloc (.cells #[.int .i64 vk, .int .i64 vn] 27)).alloc (.cells #[.int .i64 0, .int .i64 0, .slice none 0 0, .slice none 0 0, .slice none 0 0] 34)).alloc (.cells #[.int .i64 0, .int .i64 0] 38)) := by go_grown
  have q1 := ha_old (x := .cells #[.int .i64 0, .int .i64 0] 38) (ha_old (x := .cells #[.int .i64 0, .int .i64 0, .slice none 0 0, .slice none 0 0, .slice none 0 0] 34) (ha_new (w.alloc (.cells #[.slice A xs.length c, .slice A' n' c'] 59)) (.cells #[.int .i64 vk, .int .i64 vn] 27)))
  have q2 := ha_old (x := .cells #[.int .i64 0, .int .i64 0] 38) (ha_new ((w.alloc (.cells #[.slice A xs.length c, .slice A' n' c'] 59)).alloc (.cells #[.int .i64 vk, .int .i64 vn] 27)) (.cells #[.int .i64 0, .int .i64 0, .slice none 0 0, .slice none 0 0, .slice none 0 0] 34))
  have q3 := ha_new (((w.alloc (.cells #[.slice A xs.length c, .slice A' n' c'] 59)).alloc (.cells #[.int .i64 vk, .int .i64 vn] 27)).alloc (.cells #[.int .i64 0, .int .i64 0, .slice none 0 0, .slice none 0 0, .slice none 0 0] 34)) (.cells #[.int .i64 0, .int .i64 0] 38)
  simp only [World.size_alloc] at q1 q2 q3
  generalize hW0 : World.alloc (World.alloc (World.alloc (World.alloc w _) _) _) _ = W0 at *
  have hs0 : W0.heap.size = w.heap.size + 4 := by rw [← hW0]; simp
  clear hW0
  go_loopw [12] (fun i wr => ∃ k : Nat, k ≤ xs.length ∧ i = .int .i64 k ∧ (∀ j (h : j < xs.length), j < k → xs[j].id ≠ vn) ∧ Below W0.heap.size W0 wr) (fun i _ => xs.length - (intOf i).toNat)
  case atStart => exact ⟨0, Nat.zero_le _, rfl, fun _ _ h => absurd h (by omega), Below.refl _ _⟩
  case round =>
    obtain ⟨k, hk, rfl, hno, hbw⟩ := hrel
    have hw := hB.trans (hbw.mono (by omega))
    have p1 := blk_below hbw q1 (by omega)
    have p2 := blk_below hbw q2 (by omega)
    have p3 := blk_below hbw q3 (by omega)
    have c11 : wr.cell? ⟨w.heap.size + 1, 1, none⟩ = some (.int .i64 vn) := bc p1 1
    have c20 : wr.cell? ⟨w.heap.size + 1 + 1, 0, none⟩ = some (.int .i64 0) := bc p2 0
    have c21 : wr.cell? ⟨w.heap.size + 1 + 1, 1, none⟩ = some (.int .i64 0) := bc p2 1
    have c22 : wr.cell? ⟨w.heap.size + 1 + 1, 2, none⟩ = some (.slice none 0 0) := bc p2 2
    have c23 : wr.cell? ⟨w.heap.size + 1 + 1, 3, none⟩ = some (.slice none 0 0) := bc p2 3
    have c24 : wr.cell? ⟨w.heap.size + 1 + 1, 4, none⟩ = some (.slice none 0 0) := bc p2 4
    have c30 : wr.cell? ⟨w.heap.size + 1 + 1 + 1, 0, none⟩ = some (.int .i64 0) := bc p3 0
    have c31 : wr.cell? ⟨w.heap.size + 1 + 1 + 1, 1, none⟩ = some (.int .i64 0) := bc p3 1
    have f2 := bf p2
    have f3 := bf p3
    clear q1 q2 q3
    have hsz := hbw.size
    have s1 : w.heap.size + 1 < wr.heap.size := by omega
    have s2 : w.heap.size + 1 + 1 < wr.heap.size := by omega
    have s3 : w.heap.size + 1 + 1 + 1 < wr.heap.size := by omega
    by_cases hlt : k < xs.length
    · obtain ⟨b, o, rfl, hbl, hr⟩ := hx (by omega)
      obtain ⟨rv, fv, ev, r0, r1, r2, r3, r4, hn⟩ := hr k hlt
      have hcw : ∀ k, wr.cell? ⟨b, k, none⟩ = w00.cell? ⟨b, k, none⟩ := fun k => (h00.trans (hw.mono h00.size)).cell (p := ⟨b, k, none⟩) hbl
      rw [← hcw] at r0 r1 r2 r3 r4
      clear hcw
      have Hno := hid hno
      have Hr := hid hr
      have Hx := hid hx
      clear hno hr hx
      obtain ⟨nd, hnd⟩ : ∃ nd, nd = xs[k] := ⟨_, rfl⟩
      rw [← hnd] at r0 r1 hn
      have Hnd := hid hnd
      clear hnd
      obtain ⟨Ar, nr, cr, rfl⟩ := hn.rawForm
      obtain ⟨Af, nf, cf, rfl⟩ := hn.fieldsForm
      obtain ⟨Ae, ne, ce, rfl⟩ := hn.ev
      by_cases he : (nd.id == vn) = true
      · have e2 := ha_old (x := .cells #[.int .i64 nd.id, .int .i64 nd.kind, .slice Ar nr cr, .slice Af nf cf, .slice Ae ne ce] 34) p2
        have e3 : ((wr.alloc (.cells #[.int .i64 nd.id, .int .i64 nd.kind, .slice Ar nr cr, .slice Af nf cf, .slice Ae ne ce] 34)).setRow (w.heap.size + 1 + 1) #[.int .i64 nd.id, .int .i64 nd.kind, .slice Ar nr cr, .slice Af nf cf, .slice Ae ne ce]).heap[w.heap.size + 1 + 1 + 1]? = some (.cells #[.int .i64 0, .int .i64 0] 38 (0, 0)) :=
          (setRow_other _ _ _ _ (by omega)).trans (ha_old p3)
        have E2 := hid e2
        have E3 := hid e3
        clear e2 e3 p1 p2 p3
        go_wp2_with (first | (refine st34 rfl (.tmp 4) (.tmp 21) rfl (w.heap.size + 1 + 1) rfl rfl E2.out rfl ?_) | (refine st38 rfl (.tmp 5) (.tmp 22) rfl (w.heap.size + 1 + 1 + 1) rfl rfl E3.out rfl ?_))
        have g1 := setRow_heap _ (w.heap.size + 1 + 1) _ #[.int .i64 nd.id, .int .i64 nd.kind, .slice Ar nr cr, .slice Af nf cf, .slice Ae ne ce] 34 (0, 0) E2.out
        have g2 := setRow_heap _ (w.heap.size + 1 + 1 + 1) _ #[.int .i64 0, .int .i64 0] 38 (0, 0) E3.out
        have g3 := (setRow_other _ (w.heap.size + 1 + 1 + 1) (w.heap.size + 1 + 1) #[.int .i64 0, .int .i64 0] (by omega)).trans g1
        have hbl2 : Below w.heap.size w (((wr.alloc (.cells #[.int .i64 nd.id, .int .i64 nd.kind, .slice Ar nr cr, .slice Af nf cf, .slice Ae ne ce] 34)).setRow (w.heap.size + 1 + 1) #[.int .i64 nd.id, .int .i64 nd.kind, .slice Ar nr cr, .slice Af nf cf, .slice Ae ne ce]).setRow (w.heap.size + 1 + 1 + 1) #[.int .i64 0, .int .i64 0]) :=
          below_setRow (below_setRow (hw.alloc (by omega) _) (by omega) _) (by omega) _
        have hf : findN xs vn = some nd := by
          rw [Hnd.out]
          refine find_first _ _ k hlt ?_ Hno.out
          rw [← Hnd.out]
          simpa using he
        rw [hf]
        refine bodyPost_ret (res3438 rfl rfl rfl g3 g2 rfl rfl) rfl ⟨hbl2, _, _, _, rfl, hn⟩
      · have he' : (nd.id == vn) = false := by simpa using he
        clear he
        go_wp2
        refine ⟨⟨k + 1, by omega, by go_num, fun j hj hlt2 => ?_, by go_grown⟩, by simp [intOf]; omega⟩
        by_cases hjk : j = k
        · subst hjk
          rw [← Hnd.out]
          simpa using he'
        · exact Hno.out j hj (by omega)
    · have e3 : (wr.setRow (w.heap.size + 1 + 1) #[.int .i64 0, .int .i64 0, .slice none 0 0, .slice none 0 0, .slice none 0 0]).heap[w.heap.size + 1 + 1 + 1]? = some (.cells #[.int .i64 0, .int .i64 0] 38 (0, 0)) :=
        (setRow_other _ _ _ _ (by omega)).trans p3
      have E2 := hid p2
      have E3 := hid e3
      have Hno := hid hno
      clear e3 p1 p2 p3 hno
      go_wp2_with (first | (refine st34 rfl (.tmp 4) (.tmp 24) rfl (w.heap.size + 1 + 1) rfl rfl E2.out rfl ?_) | (refine st38 rfl (.tmp 5) (.tmp 25) rfl (w.heap.size + 1 + 1 + 1) rfl rfl E3.out rfl ?_))
      have g1 := setRow_heap _ (w.heap.size + 1 + 1) _ #[.int .i64 0, .int .i64 0, .slice none 0 0, .slice none 0 0, .slice none 0 0] 34 (0, 0) E2.out
      have g2 := setRow_heap _ (w.heap.size + 1 + 1 + 1) _ #[.int .i64 30, .int .i64 0] 38 (0, 0) E3.out
      have g3 := (setRow_other _ (w.heap.size + 1 + 1 + 1) (w.heap.size + 1 + 1) #[.int .i64 30, .int .i64 0] (by omega)).trans g1
      have hf : findN xs vn = none := by
        refine find_none _ _ fun j hj => ?_
        exact Hno.out j hj (by omega)
      rw [hf]
      exact bodyPost_ret (res3438 rfl rfl rfl g3 g2 rfl rfl) rfl ⟨below_setRow (below_setRow hw (by omega) _) (by omega) _, _, rfl, rfl⟩
end Go.Proofs.YtpejmgellidhbaaDoor
