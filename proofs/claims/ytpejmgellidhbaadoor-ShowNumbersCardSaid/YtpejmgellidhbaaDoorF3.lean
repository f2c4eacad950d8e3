/- The method form of show.walk: what was told before; a pair, a box. -/
import Derived.Test.YtpejmgellidhbaaDoorF2
import Derived.OwnWalk
namespace Go.Proofs.YtpejmgellidhbaaDoor
open Go.RowKit

theorem pc_info : (Tryd.prog.info? 87).map (fun i => (i.zero, i.size, i.bytes)) = some (some (.agg #[.string ⟨#[]⟩, .int .i64 0, .int .i64 0, .int .i64 0]), 4, 40) := by kernel_rfl
theorem size_bs (l : List UInt8) : (⟨l.toArray⟩ : ByteArray).size = l.length := by show l.toArray.size = _; simp
set_option maxRecDepth 100000 in
set_option maxHeartbeats 2000000 in
theorem form_back (w0 w : World) (B p m : Nat) (hv ov : Value) (c : Int) (ms : List (Int × Met)) (bs : List Nat) (n : Int) (mm : Met) (hT : Tabs w) (hW : WalkAt w0 w B p m hv ov c ms bs) (hm : metAt ms n = some mm) (hE : EachOk ms) (hk : kBox mm.nd.kind = true)
    (hl : 0 ≤ mm.label) (htold : mm.told = true) :
    Calls Tryd.prog 39 #[.pointer (some ⟨p, 0, none⟩), .agg #[.int .i64 2, .int .i64 n]] w (FormPost w0 w B p m hv ov c bs [.text (goTells.back mm.label)] ms) := by
  have hBs : B ≤ w.heap.size := Nat.le_of_lt (Nat.lt_of_le_of_lt (hW.lt (.inl rfl)).1 (hW.lt (.inl rfl)).2)
  have hE1 := hE _ (metAt_mem hm)
  simp only at hE1
  have hb0 : Below w.heap.size w (w.alloc (.cells #[.int .i64 2, .int .i64 n] 27)) := (Below.refl _ _).alloc (Nat.le_refl _) _
  have hW1 := hW.below hb0
  obtain ⟨i, b, hbi, hmi, hlk⟩ := lookup_ptr hW1 hm
  obtain ⟨mrv, mfv, mev, hmb, hnv⟩ := hW1.mets i b _ hbi hmi
  simp only at hmb hnv
  have hlk1 := fun nq => hlk ((w.alloc (.cells #[.int .i64 2, .int .i64 n] 27)).drewN nq) rfl
  have cp1 : (w.alloc (.cells #[.int .i64 2, .int .i64 n] 27)).cell? ⟨p, 1, none⟩ = some (.map (some m)) := bc hW1.own 1
  have cb1 : (w.alloc (.cells #[.int .i64 2, .int .i64 n] 27)).cell? ⟨b, 1, none⟩ = some (.int .i64 mm.nd.kind) := bc hmb 1
  have cb6 : (w.alloc (.cells #[.int .i64 2, .int .i64 n] 27)).cell? ⟨b, 6, none⟩ = some (.int .i64 mm.label) := bc hmb 6
  have cb7 : ∀ W, Below (w.heap.size + 1) (w.alloc (.cells #[.int .i64 2, .int .i64 n] 27)) W → W.cell? ⟨b, 7, none⟩ = some (.bool true) := fun W hb => by
    have h := blk_below hb hmb (by have := blk_lt hmb; simp at this; omega)
    rw [← htold]
    exact bc h 7
  have hIt : IntOk mm.label := ⟨by omega, by omega⟩
  have hll := itoa_len _ hIt
  obtain ⟨z, hz⟩ : ∃ z, z = Lib.itoa mm.label := ⟨_, rfl⟩
  have hC : ∀ W, Below w.heap.size w W → Calls Tryd.prog 47 #[.int .i64 mm.label] W fun e w' => e = .returned (.string ⟨z.toArray⟩) ∧ Below W.heap.size W w' := fun W hb => by
    rw [hz]
    exact itoa_any _ W (hT.below hb (Nat.le_refl _)) hIt.1 hIt.2
  have hgo : (goTells.back mm.label) = bsOf ([35] ++ z ++ [35]) := by rw [hz]; rfl
  rw [← hz] at hll
  have hsz := size_bs z
  have hsz2 : ((⟨#[35]⟩ : ByteArray) ++ ⟨z.toArray⟩).size = 1 + z.length := by rw [ByteArray.size_append, hsz]; rfl
  have HC := hid (And.intro hC (And.intro hW (And.intro hb0 (And.intro hk (And.intro hgo cb7)))))
  clear hC hW hT hb0 hW1 hbi hmi hlk hmb hnv hE1 hE hm hk hgo htold hIt hz cb7
  go_enter Tryd.func39, Tryd.ntmps39
  go_wp2_with fail
  go_quiet (fail)
  go_wp2_with (go_at_call 36; refine (container_any _ _).mono ?_; rintro e w1 ⟨rfl, rfl⟩; rw [HC.out.2.2.2.1])
  refine (HC.out.1 _ (below_drewN HC.out.2.2.1 nq)).mono ?_
  rintro e w2 ⟨rfl, hb2⟩
  have cb7 := HC.out.2.2.2.2.2 w2 ((below_drewN (Below.refl _ _) nq).trans (hb2.mono (by simp)))
  go_wp2_with fail
  go_ret
  have hb : Below w.heap.size w w2 := (below_drewN HC.out.2.2.1 nq).trans (hb2.mono (by simp))
  refine ⟨⟨_, rfl, pcs_row hb.size (ha_new w2 _) rfl ?_ rfl (by simp)⟩, ?_, ?_⟩
  · rw [HC.out.2.2.2.2.1]
    have e : (⟨#[35]⟩ : ByteArray) ++ ⟨z.toArray⟩ ++ ⟨#[35]⟩ = bsOf ([35] ++ z ++ [35]) := (congrArg (· ++ (⟨#[35]⟩ : ByteArray)) (ByteArray.mk_append_mk [35] z)).trans (ByteArray.mk_append_mk _ [35])
    rw [e]
    rfl
  · exact HC.out.2.1.below (hb.alloc hb.size _)
  · exact (Fr.refl B w).step hBs (hb.alloc hb.size _)

/-! Pieces are appended. -/
theorem pcs_one (N : List Pc) : ∀ u ∈ pcsCells N, u.oneCell' = true := by
  intro u hu
  obtain ⟨p, _, hp⟩ := List.mem_flatMap.1 hu
  cases p
  all_goals
    simp only [pcCells, List.mem_cons, List.not_mem_nil, or_false] at hp
    rcases hp with rfl | rfl | rfl | rfl <;> rfl
theorem grown_of_alloc {W w' : World} {o : Obj} {row : Option Nat} (h : (W.alloc o).grownBy w' row) : W.grownBy w' row :=
  ⟨h.os, h.tape, h.output, Nat.le_trans (by simp) h.size, fun k hk hne => (h.block k (by simp; omega) hne).trans (q_old W o hk)⟩
theorem run_append_pcs (W : World) (ty : TypeId) {base : Nat} {v : Value} {L : List Pc} (N : List Pc) (hown : W.ownsRow base 87 4 v L.length (pcsCells L)) (hbase : base ≤ W.heap.size) (hlen : L.length + N.length ≤ 1000000000) :
    ∃ v' w', (Builtin.append_ #[88, 88] ty #[v, .slice (some ⟨W.heap.size, 0, none⟩) N.length N.length]).run Tryd.prog (W.alloc (.cells (pcsCells N).toArray 87)) = .ok v' w' ∧ w'.ownsRow base 87 4 v' (L ++ N).length (pcsCells (L ++ N)) ∧ W.grownBy w' v.ownBlock ∧
      (v'.ownBlock = v.ownBlock ∨ v'.ownBlock = some (W.heap.size + 1)) := by
  obtain ⟨i0, hi, hz0, hz1, hz2⟩ := info_parts pc_info
  obtain ⟨v', w', hr, h2, h3, _, h5⟩ := run_append_own_at (P := Tryd.prog) (W.alloc (.cells (pcsCells N).toArray 87)) base 88 ty 87 i0 _ 4 40 Tryd.underlying88 hi hz0 hz1 hz2 rfl (by omega) v L.length (pcsCells L) (hown.alloc _)
    ⟨W.heap.size, 0, none⟩ N.length N.length (pcsCells N) (by rw [pcsCells_len]) (fun j u hu => by
      rw [show (⟨W.heap.size, 0, none⟩ : Addr).add j = ⟨W.heap.size, j, none⟩ from by unfold Addr.add; split <;> simp_all]
      rw [bc (ha_new W _) j]
      simpa using hu) (pcs_one N) (by simp only [maxLen]; omega) (by omega) (by simp; omega)
  refine ⟨v', w', hr, ?_, grown_of_alloc h3, ?_⟩
  · rw [pcsCells_append, List.length_append]
    exact h2
  · simpa using h5
section
variable {W' : World} {ops : Array Oper} {rest : List Oper} {o : Oper} {a : Act} {Q : Exit → Act → World → Prop}
theorem wpList_pcs (W : World) (hgd : o.guard = none) (s x : Operand) (ho : o.op = .call { callee := .builtin .append, args := #[s, x], argTypes := #[88, 88] }) (base : Nat) (v : Value) (L N : List Pc) (hs : a.eval s = v)
    (hw' : W' = W.alloc (.cells (pcsCells N).toArray 87)) (hown : W.ownsRow base 87 4 v L.length (pcsCells L)) {sz : Nat} (hx : a.eval x = .slice (some ⟨sz, 0, none⟩) N.length N.length) (hsz : sz = W.heap.size) (hbase : base ≤ W.heap.size) (hlen : L.length + N.length ≤ 1000000000)
    (h : ∀ v' w', w'.ownsRow base 87 4 v' (L ++ N).length (pcsCells (L ++ N)) → W.grownBy w' v.ownBlock → (v'.ownBlock = v.ownBlock ∨ v'.ownBlock = some (W.heap.size + 1)) → wpList Tryd.prog ops Q rest (a.put o.dst v') w') :
    wpList Tryd.prog ops Q (o :: rest) a W' := by
  subst hw' hsz
  obtain ⟨v', w', hr, h2, h3, h5⟩ := run_append_pcs W o.type N hown hbase hlen
  refine wpList_plain hgd fun _ hK => ?_
  unfold Oper.wp execOp
  simp only [ho, resolve, invoke, builtin, Sem.run_bind, Sem.run_pure, Result.andThen_ok, List.map_toArray, List.map_cons, List.map_nil, hs, hx, hr]
  exact hK _ _ (h v' w' h2 h3 h5)
theorem step_pcs {K : Act → World → Prop} {E : Prop} (W : World) (hgd : o.guard = none) (s x : Operand) (ho : o.op = .call { callee := .builtin .append, args := #[s, x], argTypes := #[88, 88] }) (base : Nat) (v : Value) (L N : List Pc) (hs : a.eval s = v)
    (hw' : W' = W.alloc (.cells (pcsCells N).toArray 87)) (hown : W.ownsRow base 87 4 v L.length (pcsCells L)) {sz : Nat} (hx : a.eval x = .slice (some ⟨sz, 0, none⟩) N.length N.length) (hsz : sz = W.heap.size) (hbase : base ≤ W.heap.size) (hlen : L.length + N.length ≤ 1000000000)
    (h : ∀ v' w', w'.ownsRow base 87 4 v' (L ++ N).length (pcsCells (L ++ N)) → W.grownBy w' v.ownBlock → (v'.ownBlock = v.ownBlock ∨ v'.ownBlock = some (W.heap.size + 1)) → K (a.put o.dst v') w') :
    if Region.wanted o (yielded ops a.tmps) = true then Oper.wp Tryd.prog o a W' K Q else E := by
  subst hw' hsz
  have hw : Region.wanted o (yielded ops a.tmps) = true := by simp [Region.wanted, hgd]
  rw [if_pos hw]
  obtain ⟨v', w', hr, h2, h3, h5⟩ := run_append_pcs W o.type N hown hbase hlen
  unfold Oper.wp execOp
  simp only [ho, resolve, invoke, builtin, Sem.run_bind, Sem.run_pure, Result.andThen_ok, List.map_toArray, List.map_cons, List.map_nil, hs, hx, hr]
  exact h v' w' h2 h3 h5
end
theorem row87 {w : World} {base n : Nat} {v : Value} {xs : List Value} (h : w.ownsRow base 87 4 v n xs) : ∀ k, v.ownBlock = some k → base ≤ k ∧ ∃ cs, w.heap[k]? = some (.cells cs 87 (0, 0)) := by
  intro k hk
  rcases h.2 with ⟨rfl, _⟩ | ⟨g, cap, cur, rfl, hB, hg, _⟩
  · simp [Value.ownBlock] at hk
  · simp only [Value.ownBlock, Option.some.injEq] at hk
    subst hk
    exact ⟨hB, cur, hg⟩
theorem row87_ne {w : World} {base n : Nat} {v : Value} {xs : List Value} (h : w.ownsRow base 87 4 v n xs) {g : Nat} {cs : Array Value} {T : TypeId} {fr : Nat × Nat} (hg : w.heap[g]? = some (.cells cs T fr)) (hT : T ≠ 87) : v.ownBlock ≠ some g := by
  intro e
  obtain ⟨_, cs', hcs⟩ := row87 h g e
  rw [hg] at hcs
  simp only [Option.some.injEq, Obj.cells.injEq] at hcs
  exact hT hcs.2.1
theorem WalkAt.grown87 {w0 w w' : World} {B p m base n : Nat} {hv ov v : Value} {c : Int} {ms : List (Int × Met)} {bs : List Nat} {xs : List Value} (h : WalkAt w0 w B p m hv ov c ms bs) (hown : w.ownsRow base 87 4 v n xs) (hb : B ≤ base) (hg : w.grownBy w' v.ownBlock) : WalkAt w0 w' B p m hv ov c ms bs := by
  have hB : B ≤ w.heap.size := Nat.le_of_lt (Nat.lt_of_le_of_lt (h.lt (.inl rfl)).1 (h.lt (.inl rfl)).2)
  refine h.kept (h.elder.1.grown hg hB fun k hk => Nat.le_trans hb (row87 hown k hk).1) fun b hbb => hg.block b (h.lt hbb).2 fun e => ?_
  obtain ⟨_, cs, hcs⟩ := row87 hown b e.symm
  exact h.ne hcs (by decide) hbb rfl
theorem rows_apart {w0 w w' : World} {base n : Nat} {fv pv sv : Value} {fs xs : List (Int × Int)} {ys : List Value} (hfv : RdVals w0 fv fs) (hB : w0.heap.size ≤ base) (hpv : RdVals w' pv xs) (hpb : ∀ g, pv.ownBlock = some g → w.heap.size ≤ g ∨ pv = fv)
    (hS : w.ownsRow base 87 4 sv n ys) : 0 < xs.length → ∀ k, pv.ownBlock = some k → sv.ownBlock ≠ some k := by
  intro hx k hk e
  obtain ⟨hBk, cs, hcs⟩ := row87 hS k e
  have hlt := blk_lt hcs
  rcases hpb k hk with h | rfl
  · omega
  · obtain ⟨A, c, e1, _, h1⟩ := hfv
    obtain ⟨A', c', e2, _, h2⟩ := hpv
    rw [e1, Value.slice.injEq] at e2
    obtain ⟨b, o, rfl, hb, _⟩ := h1 (by omega)
    rw [e1] at hk
    simp only [Value.ownBlock, Option.some.injEq] at hk
    omega
theorem form_done {w0 w w1 w2 : World} {B p m : Nat} {hv ov : Value} {c : Int} {bs : List Nat} {l pre N : List Pc} {ms' : List (Int × Met)} {v v' : Value} (hW : WalkAt w0 w1 B p m hv ov c ms' bs) (hF : Fr B w w1) (hBs : B ≤ w.heap.size)
    (hown : w1.ownsRow w.heap.size 87 4 v pre.length (pcsCells pre)) (hg : w1.grownBy w2 v.ownBlock) (hown2 : w2.ownsRow w.heap.size 87 4 v' (pre ++ N).length (pcsCells (pre ++ N))) (hl : pre ++ N = l) : FormPost w0 w B p m hv ov c bs l ms' (.returned v') w2 :=
  ⟨⟨v', rfl, hl ▸ hown2⟩, hW.grown87 hown hBs hg, hF.grown hBs hg fun k hk => (row87 hown k hk).1⟩
/-- Pieces P stand in a row of the call's own, beside a slice of values. -/
structure PcsAt (w0 w wr : World) (B p m : Nat) (hv ov : Value) (c : Int) (ms : List (Int × Met)) (bs : List Nat) (pv : Value) (xs : List (Int × Int)) (P : List Pc) (sv : Value) : Prop where
  walk : WalkAt w0 wr B p m hv ov c ms bs
  fr : Fr B w wr
  own : wr.ownsRow w.heap.size 87 4 sv P.length (pcsCells P)
  vals : RdVals wr pv xs
  apart : 0 < xs.length → ∀ k, pv.ownBlock = some k → sv.ownBlock ≠ some k
section
variable {w0 w wr w' : World} {B p m : Nat} {hv ov pv sv sv' : Value} {c : Int} {ms : List (Int × Met)} {bs : List Nat} {xs : List (Int × Int)} {P N : List Pc}
theorem PcsAt.below (h : PcsAt w0 w wr B p m hv ov c ms bs pv xs P sv) (hBs : B ≤ w.heap.size) (hb : Below wr.heap.size wr w') : PcsAt w0 w w' B p m hv ov c ms bs pv xs P sv :=
  ⟨h.walk.below hb, h.fr.step hBs hb, h.own.kept (row := none) ⟨hb.os, hb.tape, hb.output, hb.size, fun k hk _ => hb.block k hk⟩ (by cases hq : sv.ownBlock <;> simp), h.vals.below hb (Nat.le_refl _), h.apart⟩
theorem PcsAt.app (h : PcsAt w0 w wr B p m hv ov c ms bs pv xs P sv) (hBs : B ≤ w.heap.size) (hg : wr.grownBy w' sv.ownBlock) (hown : w'.ownsRow w.heap.size 87 4 sv' (P ++ N).length (pcsCells (P ++ N)))
    (hat : sv'.ownBlock = sv.ownBlock ∨ sv'.ownBlock = some (wr.heap.size + 1)) : PcsAt w0 w w' B p m hv ov c ms bs pv xs (P ++ N) sv' := by
  refine ⟨h.walk.grown87 h.own hBs hg, h.fr.grown hBs hg fun k hk => (row87 h.own k hk).1, hown, h.vals.grown hg fun h0 k hk => h.apart h0 k hk, fun h0 k hk => ?_⟩
  rcases hat with e | e
  · rw [e]
    exact h.apart h0 k hk
  · rw [e]
    obtain ⟨A, cc, rfl, _, hr⟩ := h.vals
    obtain ⟨b, o, rfl, hb, _⟩ := hr h0
    simp only [Value.ownBlock, Option.some.injEq] at hk
    subst hk
    simp
    omega
end
/-- What the loop over a vector's values has come to. -/
structure VecAt (w0 w wr : World) (B p m : Nat) (hv ov : Value) (c : Int) (ms : List (Int × Met)) (bs : List Nat) (pv : Value) (xs : List (Int × Int)) (pre : List Pc) (j : Nat) (sv iv : Value) : Prop where
  i : iv = .int .i64 j
  le : j ≤ xs.length
  at_ : PcsAt w0 w wr B p m hv ov c ms bs pv xs (pre ++ vecM false (xs.take j)) sv
theorem vecM_snoc : ∀ (b : Bool) (l : List (Int × Int)) (x : Int × Int), vecM b (l ++ [x]) = vecM b l ++ ((if b || !l.isEmpty then [.text sp1] else []) ++ [.val x])
  | b, [], x => by cases b <;> simp [vecM]
  | b, y :: r, x => by
    have := vecM_snoc true r x
    simp only [List.cons_append, vecM, this]
    simp
theorem vecM_len : ∀ (b : Bool) (l : List (Int × Int)), (vecM b l).length ≤ 2 * l.length
  | _, [] => by simp [vecM]
  | b, x :: r => by
    have := vecM_len true r
    cases b <;> simp [vecM] <;> omega
theorem vec_take (xs : List (Int × Int)) (j : Nat) (h : j < xs.length) : vecM false (xs.take (j + 1)) = vecM false (xs.take j) ++ ((if j = 0 then [] else [.text sp1]) ++ [.val xs[j]]) := by
  rw [List.take_succ_eq_append_getElem h, vecM_snoc]
  cases j with
  | zero => simp
  | succ j =>
    have : (xs.take (j + 1)).isEmpty = false := by
      cases xs with
      | nil => simp at h
      | cons a r => simp
    simp [this]
/-- A container's pieces, its label ahead; and what it leaves. -/
def labL (mm : Met) : List Pc := if 0 ≤ mm.label then .text (goTells.mark mm.label) :: bodyM mm.nd.kind mm.nd.fields else bodyM mm.nd.kind mm.nd.fields
def labMs (mm : Met) (n : Int) (ms : List (Int × Met)) : List (Int × Met) := if 0 ≤ mm.label then metMod setTold n ms else ms
/-- What form has come to behind the label. -/
def FormMid (w0 w wc : World) (B p m : Nat) (hv ov : Value) (c : Int) (bs : List Nat) (b : Nat) (n : Int) (nd : Nd) (ms' : List (Int × Met)) (l : List Pc) (s6 : Value) : Prop :=
  ∃ pre : List Pc, pre.length ≤ 1 ∧ wc.ownsRow w.heap.size 87 4 s6 pre.length (pcsCells pre) ∧ WalkAt w0 wc B p m hv ov c ms' bs ∧ Fr B w wc ∧ pre ++ bodyM nd.kind nd.fields = l ∧ ∃ (i : Nat) (mm' : Met), bs[i]? = some b ∧ ms'[i]? = some (n, mm') ∧ mm'.nd = nd
set_option maxRecDepth 100000 in
set_option maxHeartbeats 4000000 in
theorem form_body (w0 w : World) (B p m : Nat) (hv ov : Value) (c : Int) (ms : List (Int × Met)) (bs : List Nat) (n : Int) (mm : Met) (hT : Tabs w) (hW : WalkAt w0 w B p m hv ov c ms bs) (hm : metAt ms n = some mm) (hE : EachOk ms) (hk : kBox mm.nd.kind = true)
    (htold : 0 ≤ mm.label → mm.told = false) :
    Calls Tryd.prog 39 #[.pointer (some ⟨p, 0, none⟩), .agg #[.int .i64 2, .int .i64 n]] w
      (FormPost w0 w B p m hv ov c bs (labL mm) (labMs mm n ms)) := by
  have hBs : B ≤ w.heap.size := Nat.le_of_lt (Nat.lt_of_le_of_lt (hW.lt (.inl rfl)).1 (hW.lt (.inl rfl)).2)
  have hE1 := hE _ (metAt_mem hm)
  simp only at hE1
  have hb0 : Below w.heap.size w (w.alloc (.cells #[.int .i64 2, .int .i64 n] 27)) := (Below.refl _ _).alloc (Nat.le_refl _) _
  have hT1 := hT.below hb0 (Nat.le_refl _)
  have hW1 := hW.below hb0
  have hF1 := (Fr.refl B w).step hBs hb0
  have hsz1 : w.heap.size ≤ (w.alloc (.cells #[.int .i64 2, .int .i64 n] 27)).heap.size := by simp
  go_enter Tryd.func39, Tryd.ntmps39
  clear hb0 hW hT
  go_wp2_with fail
  have hxb := ha_new w (.cells #[.int .i64 2, .int .i64 n] 27)
  generalize World.alloc w _ = W1 at *
  obtain ⟨i, b, hbi, hmi, hlk⟩ := lookup_ptr hW1 hm
  obtain ⟨mrv, mfv, mev, hmb, hnv⟩ := hW1.mets i b _ hbi hmi
  simp only at hmb hnv
  have hlk1 := fun nq => hlk (W1.drewN nq) rfl
  have cp1 : W1.cell? ⟨p, 1, none⟩ = some (.map (some m)) := bc hW1.own 1
  have cx1 : W1.cell? ⟨w.heap.size, 1, none⟩ = some (.int .i64 n) := bc hxb 1
  have cb1 : W1.cell? ⟨b, 1, none⟩ = some (.int .i64 mm.nd.kind) := bc hmb 1
  have cb6 : W1.cell? ⟨b, 6, none⟩ = some (.int .i64 mm.label) := bc hmb 6
  have HK := hid hk
  have HF := hid (And.intro hT1 (And.intro hW1 (And.intro hF1 (And.intro hxb (And.intro hbi (And.intro hmi (And.intro hmb (And.intro hnv (And.intro htold (And.intro hE1 hE))))))))))
  clear hT1 hW1 hF1 hxb hbi hmi hlk hmb hnv htold hk hE1 hE hm
  go_quiet (fail)
  go_upto_if 43 with (go_at_call 36; refine (container_any _ _).mono ?_; rintro e w1 ⟨rfl, rfl⟩; rw [HK.out])
  go_cut [6, 7] (fun s6 s7 wc => FormMid w0 w wc B p m hv ov c bs b n mm.nd (labMs mm n ms) (labL mm) s6)
  case first =>
    by_cases hl : 0 ≤ mm.label
    · have hlabel : labL mm = .text (goTells.mark mm.label) :: bodyM mm.nd.kind mm.nd.fields := if_pos hl
      have hlms : labMs mm n ms = metMod setTold n ms := if_pos hl
      have hIt : IntOk mm.label := ⟨by omega, by have := HF.out.2.2.2.2.2.2.2.2.2.1; omega⟩
      have hll := itoa_len _ hIt
      obtain ⟨z, hz⟩ : ∃ z, z = Lib.itoa mm.label := ⟨_, rfl⟩
      have hC : Calls Tryd.prog 47 #[.int .i64 mm.label] (W1.drewN nq) fun e w' => e = .returned (.string ⟨z.toArray⟩) ∧ Below W1.heap.size W1 w' := by
        rw [hz]
        refine (itoa_any _ _ (HF.out.1.below (below_drewN (Below.refl _ _) nq) (Nat.le_refl _)) hIt.1 hIt.2).mono ?_
        rintro e w' ⟨rfl, hb⟩
        exact ⟨rfl, (below_drewN (Below.refl _ _) nq).trans hb⟩
      have hgo : (goTells.mark mm.label) = bsOf ([35] ++ z ++ [61]) := by rw [hz]; rfl
      rw [← hz] at hll
      have hsz := size_bs z
      have hsz2 : ((⟨#[35]⟩ : ByteArray) ++ ⟨z.toArray⟩).size = 1 + z.length := by rw [ByteArray.size_append, hsz]; rfl
      have HC := hid (And.intro hC (And.intro hlabel (And.intro hlms hgo)))
      clear hC hlabel hlms hgo hIt hz
      go_wp2_with fail
      refine HC.out.1.mono ?_
      rintro e w2 ⟨rfl, hb2⟩
      have hm2 := blk_below hb2 HF.out.2.2.2.2.2.2.1 (blk_lt HF.out.2.2.2.2.2.2.1)
      have ht := HF.out.2.2.2.2.2.2.2.2.1 hl
      rw [ht] at hm2
      have cb7 : w2.cell? ⟨b, 7, none⟩ = some (.bool false) := bc hm2 7
      have fb7 := bf hm2
      have H2 := hid (And.intro hb2 hm2)
      clear hb2 hm2 ht
      go_upto_region 12 with (fail)
      have h3 : WalkAt w0 (w2.setCell ⟨b, 7, none⟩ (.bool true)) B p m hv ov c (metMod setTold n ms) bs := (HF.out.2.1.below H2.out.1).turn HF.out.2.2.2.2.1 HF.out.2.2.2.2.2.1 setTold rfl 7 (.bool true) (fun _ _ _ => rfl)
      have hF3 : Fr B w (w2.setCell ⟨b, 7, none⟩ (.bool true)) := (HF.out.2.2.1.step hBs H2.out.1).set H2.out.2 (HF.out.2.1.base.2.2 b (List.mem_of_getElem? HF.out.2.2.2.2.1)) 7 _
      generalize World.setCell w2 _ _ = W3 at *
      have hsz3 := hF3.size
      have H3 := hid (And.intro h3 hF3)
      clear h3 hF3 cb7 fb7 cp1 cx1 cb1 cb6 hlk1
      go_wp2_with (at_builtin; refine wpList_pcs W3 rfl (.tmp 61) (.tmp 66) rfl w.heap.size (.slice none 0 0) [] [.text ((⟨#[35]⟩ : ByteArray) ++ ⟨z.toArray⟩ ++ ⟨#[61]⟩)] rfl rfl ⟨rfl, .inl ⟨rfl, rfl⟩⟩ rfl rfl hsz3 (by simp) ?_; intro v1 w4 hown4 hg4 hat4; clear hat4)
      go_meet
      case rel =>
        have e : (⟨#[35]⟩ : ByteArray) ++ ⟨z.toArray⟩ ++ ⟨#[61]⟩ = bsOf ([35] ++ z ++ [61]) := (congrArg (· ++ (⟨#[61]⟩ : ByteArray)) (ByteArray.mk_append_mk [35] z)).trans (ByteArray.mk_append_mk _ [61])
        rw [e] at hown4
        rw [HC.out.2.1, HC.out.2.2.1, HC.out.2.2.2]
        have hmi' := metMod_at setTold n ms i mm HF.out.2.1.keys HF.out.2.2.2.2.2.1 i
        rw [if_pos rfl] at hmi'
        exact ⟨[.text (bsOf ([35] ++ z ++ [61]))], by simp, hown4, H3.out.1.grown87 (base := w.heap.size) (n := 0) (xs := []) ⟨rfl, .inl ⟨rfl, rfl⟩⟩ hBs hg4, H3.out.2.grown hBs hg4 (by simp [Value.ownBlock]), rfl, i, _, HF.out.2.2.2.2.1, hmi', rfl⟩
    · have hlabel : labL mm = bodyM mm.nd.kind mm.nd.fields := if_neg hl
      have hlms : labMs mm n ms = ms := if_neg hl
      have HC := hid (And.intro hlabel hlms)
      clear hlabel hlms
      go_wp2_with fail
      go_meet
      case rel =>
        obtain ⟨hT1, hW1, hF1, hxb, hbi, hmi, hmb, hnv, _⟩ := HF.out
        have hbq : Below W1.heap.size W1 (W1.drewN nq) := below_drewN (Below.refl _ _) nq
        rw [HC.out.1, HC.out.2]
        exact ⟨[], by simp, ⟨rfl, .inl ⟨rfl, rfl⟩⟩, hW1.below hbq, hF1.step hBs hbq, rfl, i, mm, hbi, hmi, rfl⟩
  case rest =>
    obtain ⟨pre, hpre, hown, hWk, hFr, hlist, i', mm', hbi', hmi', hnd⟩ := hcut
    obtain ⟨mrv, mfv, mev, hmb, hnv⟩ := hWk.mets i' b _ hbi' hmi'
    simp only [hnd] at hmb hnv
    obtain ⟨rA, rn, rc, hre⟩ := hnv.rawForm
    obtain ⟨fA, fn, fc, hfe⟩ := hnv.fieldsForm
    obtain ⟨eA, en, ec, hee⟩ := hnv.ev
    subst hre hfe hee
    have cb0 : wc.cell? ⟨b, 0, none⟩ = some (.int .i64 mm.nd.id) := bc hmb 0
    have cb1' : wc.cell? ⟨b, 1, none⟩ = some (.int .i64 mm.nd.kind) := bc hmb 1
    have cb2 : wc.cell? ⟨b, 2, none⟩ = some (.slice rA rn rc) := bc hmb 2
    have cb3 : wc.cell? ⟨b, 3, none⟩ = some (.slice fA fn fc) := bc hmb 3
    have cb4 : wc.cell? ⟨b, 4, none⟩ = some (.slice eA en ec) := bc hmb 4
    have hfv := hnv.fields.below hWk.elder.1 hWk.elder.2
    have hel := hWk.elder.2
    have hfl : mm.nd.fields.length ≤ 1000000 := HF.out.2.2.2.2.2.2.2.2.2.1.2.2.2
    have hE1 := hid hfl
    have HP := hid (And.intro hfv hnv.fields)
    have HC := hid (And.intro hpre (And.intro hown (And.intro hWk (And.intro hFr (And.intro hlist hmb)))))
    clear hpre hown hWk hFr hlist hbi' hmi' hnd hnv hmb hfv HF cp1 cx1 cb1 cb6 hlk1 hfl hsz1
    go_upto_region 14 with (go_at_call 37; refine (parts_any _ _ _ _ _ mm.nd.fields _ HP.out.1).mono ?_; rintro e w1 ⟨pv, rfl, hpv, hb1, hpb⟩)
    have hmb1 := blk_below hb1 HC.out.2.2.2.2.2 (blk_lt HC.out.2.2.2.2.2)
    have cb1 : w1.cell? ⟨b, 1, none⟩ = some (.int .i64 mm.nd.kind) := bc hmb1 1
    have hown1 : w1.ownsRow w.heap.size 87 4 u6 pre.length (pcsCells pre) := HC.out.2.1.kept (row := none) ⟨hb1.os, hb1.tape, hb1.output, hb1.size, fun k hk _ => hb1.block k hk⟩ (by cases hq : u6.ownBlock <;> simp)
    have hW1 := HC.out.2.2.1.below hb1
    have hF1 := HC.out.2.2.2.1.step hBs hb1
    have hap : 0 < (partsM mm.nd.kind mm.nd.fields).length → ∀ k, pv.ownBlock = some k → u6.ownBlock ≠ some k := rows_apart HP.out.2 (Nat.le_trans hel hBs) hpv hpb HC.out.2.1
    have H1 := hid (And.intro hown1 (And.intro hW1 (And.intro hF1 (And.intro hpv hap))))
    have hls := HC.out.2.2.2.2.1
    have HL := hid hls
    have hpl := HC.out.1
    clear hmb1 hown1 hW1 hF1 hpv hap hb1 hpb hls cb0 cb1' cb2 cb3 cb4 HP HC
    by_cases hk1 : (mm.nd.kind == 1) = true
    · have hk1' : mm.nd.kind = 1 := by simpa using hk1
      have hpv := H1.out.2.2.2.1
      have hpm : partsM mm.nd.kind mm.nd.fields = [fieldM mm.nd.fields 0, fieldM mm.nd.fields 1] := if_pos hk1'
      rw [hpm] at hpv
      have hbd : bodyM mm.nd.kind mm.nd.fields = [.text par0, .val (fieldM mm.nd.fields 0), .tail (fieldM mm.nd.fields 1)] := if_pos hk1'
      generalize fieldM mm.nd.fields 0 = f0 at *
      generalize fieldM mm.nd.fields 1 = f1 at *
      have HBD := hid hbd
      obtain ⟨pA, pc, rfl, _, hpr⟩ := hpv
      obtain ⟨pb, po, rfl, _, hpc⟩ := hpr (by simp)
      have q0 : w1.cell? ⟨pb, po, none⟩ = some (.int .i64 f0.1) := by simpa using (hpc 0 (by simp)).1
      have q1 : w1.cell? ⟨pb, po + 1, none⟩ = some (.int .i64 f0.2) := by simpa using (hpc 0 (by simp)).2
      have q2 : w1.cell? ⟨pb, po + 2, none⟩ = some (.int .i64 f1.1) := by simpa using (hpc 1 (by simp)).1
      have q3 : w1.cell? ⟨pb, po + 2 + 1, none⟩ = some (.int .i64 f1.2) := by simpa using (hpc 1 (by simp)).2
      have hB2 : w.heap.size ≤ w1.heap.size := H1.out.2.2.1.size
      clear hpr hpc hpm hbd hk1'
      go_upto_region 16 with (fail)
      go_region_law (refine step_pcs (World.drew w1) rfl (.tmp 80) (.tmp 90) rfl w.heap.size u6 pre [.text par0, .val f0, .tail f1] (by simp [Act.eval]) (by rfl) H1.out.1 (by first | rfl | simp [Act.eval, Act.put]) rfl hB2 (by simp; omega) ?_; intro v2 w2 hown2 hg2 hat2; clear hat2; have hgg : w1.grownBy w2 u6.ownBlock := ⟨hg2.os, hg2.tape, hg2.output, hg2.size, hg2.block⟩; clear hg2)
      all_goals
        go_wp2_with fail
        go_ret
        exact form_done H1.out.2.1 H1.out.2.2.1 hBs H1.out.1 hgg hown2 (by rw [← HL.out, HBD.out])
    · by_cases hk2 : (mm.nd.kind == 2) = true
      · have hk2' : mm.nd.kind = 2 := by simpa using hk2
        have hk1' : mm.nd.kind ≠ 1 := by simpa using hk1
        have hpv := H1.out.2.2.2.1
        have hpm : partsM mm.nd.kind mm.nd.fields = [fieldM mm.nd.fields 0] := by unfold partsM; rw [if_neg hk1', if_pos hk2']
        rw [hpm] at hpv
        have hbd : bodyM mm.nd.kind mm.nd.fields = [.text box2, .val (fieldM mm.nd.fields 0)] := by unfold bodyM; rw [if_neg hk1', if_pos hk2']
        generalize fieldM mm.nd.fields 0 = f0 at *
        have HBD := hid hbd
        obtain ⟨pA, pc, rfl, _, hpr⟩ := hpv
        obtain ⟨pb, po, rfl, _, hpc⟩ := hpr (by simp)
        have q0 : w1.cell? ⟨pb, po, none⟩ = some (.int .i64 f0.1) := by simpa using (hpc 0 (by simp)).1
        have q1 : w1.cell? ⟨pb, po + 1, none⟩ = some (.int .i64 f0.2) := by simpa using (hpc 0 (by simp)).2
        have hB2 : w.heap.size ≤ w1.heap.size := H1.out.2.2.1.size
        have hk1b : (mm.nd.kind == 1) = false := by simpa using hk1
        clear hpr hpc hpm hbd hk1' hk2' hk1
        go_wp2_with (at_builtin; refine wpList_pcs w1 rfl (.tmp 94) (.tmp 100) rfl w.heap.size u6 pre [.text box2, .val f0] rfl rfl H1.out.1 rfl rfl hB2 (by simp; omega) ?_; intro v2 w2 hown2 hg2 hat2; clear hat2)
        go_ret
        exact form_done H1.out.2.1 H1.out.2.2.1 hBs H1.out.1 hg2 hown2 (by rw [← HL.out, HBD.out])
      · have hk1b : (mm.nd.kind == 1) = false := by simpa using hk1
        have hk2b : (mm.nd.kind == 2) = false := by simpa using hk2
        have hk1' : mm.nd.kind ≠ 1 := by simpa using hk1
        have hk2' : mm.nd.kind ≠ 2 := by simpa using hk2
        have hpm : partsM mm.nd.kind mm.nd.fields = mm.nd.fields := by unfold partsM; rw [if_neg hk1', if_neg hk2']
        have hbd : bodyM mm.nd.kind mm.nd.fields = .text vec2 :: (vecM false mm.nd.fields ++ [.text par1]) := by unfold bodyM; rw [if_neg hk1', if_neg hk2']
        obtain ⟨xs, hxs⟩ : ∃ xs, xs = mm.nd.fields := ⟨_, rfl⟩
        have hP1 : PcsAt w0 w w1 B p m hv ov c (labMs mm n ms) bs pv xs pre u6 := by
          have h4 := H1.out.2.2.2.1
          have h5 := H1.out.2.2.2.2
          rw [hpm, ← hxs] at h4 h5
          exact ⟨H1.out.2.1, H1.out.2.2.1, H1.out.1, h4, h5⟩
        have hxl : xs.length ≤ 1000000 := by rw [hxs]; exact hE1.out
        have hls := HL.out
        rw [hbd, ← hxs] at hls
        have HLS := hid hls
        have HP1 := hid hP1
        have hB2 : w.heap.size ≤ w1.heap.size := H1.out.2.2.1.size
        obtain ⟨pA, pc, hpve, _, _⟩ := hP1.vals
        subst hpve
        clear hpm hbd hk1' hk2' hk1 hk2 hxs hls hP1 H1 HL
        go_wp2_with (at_builtin; refine wpList_pcs w1 rfl (.tmp 102) (.tmp 104) rfl w.heap.size u6 pre [.text vec2] rfl rfl HP1.out.own rfl rfl hB2 (by simp; omega) ?_; intro v2 w2 hown2 hg2 hat2)
        have hV : VecAt w0 w w2 B p m hv ov c (labMs mm n ms) bs (.slice pA xs.length pc) xs (pre ++ [.text vec2]) 0 v2 (.int .i64 0) := ⟨rfl, Nat.zero_le _, by simpa [vecM] using HP1.out.app hBs hg2 hown2 hat2⟩
        have HV := hid hV
        clear hV hown2 hg2 hat2 HP1 hB2
        go_loopg [6, 108] xs.length (fun k sv iv wr => k ≤ xs.length ∧ VecAt w0 w wr B p m hv ov c (labMs mm n ms) bs (.slice pA xs.length pc) xs (pre ++ [.text vec2]) (xs.length - k) sv iv)
        case atStart => exact ⟨Nat.le_refl _, by rw [Nat.sub_self]; exact HV.out⟩
        case round =>
          obtain ⟨hk, rfl, hle, hat⟩ := hrel
          generalize hj : xs.length - gk = j at *
          have hszr := hat.fr.size
          have hpl2 : (pre ++ [Pc.text vec2] ++ vecM false (xs.take j)).length ≤ 3000000 := by
            have := vecM_len false (xs.take j)
            simp only [List.length_append, List.length_cons, List.length_nil, List.length_take] at this ⊢
            omega
          by_cases hjl : j < xs.length
          · obtain ⟨A2, c2, hpe, _, hpr⟩ := hat.vals
            rw [Value.slice.injEq] at hpe
            obtain ⟨rfl, -, -⟩ := hpe
            obtain ⟨pb, po, rfl, hpb, hpc⟩ := hpr (by omega)
            obtain ⟨r0, r1⟩ := hpc j hjl
            have hvt := vec_take xs j hjl
            obtain ⟨x2, hx2⟩ : ∃ x2, x2 = xs[j] := ⟨_, rfl⟩
            rw [← hx2] at r0 r1 hvt
            have HVT := hid hvt
            have hb0 : Below wr.heap.size wr (wr.alloc (.cells #[.int .i64 x2.1, .int .i64 x2.2] 27)) := (Below.refl _ _).alloc (Nat.le_refl _) _
            have HA := hid (hat.below hBs hb0)
            have hz1 : w.heap.size ≤ (wr.alloc (.cells #[.int .i64 x2.1, .int .i64 x2.2] 27)).heap.size := by simp; omega
            obtain ⟨k, rfl⟩ : ∃ k, gk = k + 1 := ⟨gk - 1, by omega⟩
            clear hpr hpc hx2 hvt hat hb0 HV
            by_cases hj0 : j = 0
            · subst hj0
              simp only [Nat.zero_mul, Nat.add_zero] at r0 r1
              go_wp2_with (at_builtin; refine wpList_pcs _ rfl (.tmp 119) (.tmp 122) rfl w.heap.size u6 _ [.val x2] rfl rfl HA.out.own rfl (by simp) hz1 (by simp only [List.length_cons, List.length_nil]; omega) ?_; intro v3 w3 hown3 hg3 hat3)
              go_roundg k
              case measure => omega
              case rel =>
                refine ⟨by omega, by go_num, by omega, ?_⟩
                have h := HA.out.app hBs hg3 hown3 hat3
                rw [show xs.length - k = 0 + 1 by omega, HVT.out]
                simpa [vecM] using h
            · have hj1 : 0 < (j : Int) := by omega
              go_wp2_with (first | (at_builtin; refine wpList_pcs _ rfl (.tmp 115) (.tmp 117) rfl w.heap.size u6 _ [.text sp1] rfl rfl HA.out.own rfl (by simp) hz1 (by simp only [List.length_cons, List.length_nil]; omega) ?_; intro v3 w3 hown3 hg3 hat3; have hbx := (hg3.block wr.heap.size (by simp) (fun e => row87_ne HA.out.own (ha_new wr _) (by decide) e.symm)).trans (ha_new wr (.cells #[.int .i64 x2.1, .int .i64 x2.2] 27)); have cx0 : w3.cell? ⟨wr.heap.size, 0, none⟩ = some (.int .i64 x2.1) := bc hbx 0; have cx1 : w3.cell? ⟨wr.heap.size, 1, none⟩ = some (.int .i64 x2.2) := bc hbx 1; have HA3 := hid (HA.out.app hBs hg3 hown3 hat3); have hz3 : w.heap.size ≤ w3.heap.size := Nat.le_trans hz1 hg3.size; clear hbx hown3 hg3 hat3) | (at_builtin; refine wpList_pcs w3 rfl (.tmp 119) (.tmp 122) rfl w.heap.size v3 _ [.val x2] rfl rfl HA3.out.own rfl rfl hz3 (by rw [List.length_append]; simp only [List.length_cons, List.length_nil]; omega) ?_; intro v4 w4 hown4 hg4 hat4))
              go_roundg k
              case measure => omega
              case rel =>
                refine ⟨by omega, by go_num, by omega, ?_⟩
                have h := HA3.out.app hBs hg4 hown4 hat4
                rw [show xs.length - k = j + 1 by omega, HVT.out, if_neg hj0]
                simpa using h
          · have hjx : j = xs.length := by omega
            subst hjx
            have HA := hid hat
            clear hat HV hj
            go_wp2_with (at_builtin; refine wpList_pcs wr rfl (.tmp 125) (.tmp 127) rfl w.heap.size u6 _ [.text par1] rfl rfl HA.out.own rfl rfl hszr (by simp only [List.length_cons, List.length_nil]; omega) ?_; intro v3 w3 hown3 hg3 hat3)
            go_ret
            exact form_done HA.out.walk HA.out.fr hBs HA.out.own hg3 hown3 (by rw [← HLS.out, List.take_length]; simp)
end Go.Proofs.YtpejmgellidhbaaDoor
