/- Alloc(s, 1, 3, 0) of a fresh Space of one page. -/
import Derived.Test.YtpejmgellidhbaaGreatDoorT10
import Derived.WideMake
set_option linter.all false
set_option linter.unusedSimpArgs false
set_option maxRecDepth 10000
namespace Go.Proofs.YtpejmgellidhbaaGreatDoor
open Go Go.RowKit Go.Proofs

abbrev spL (N : Nat) : List Nat := [N, N + 1, N + 2, N + 3, N + 4, N + 5, N + 6, N + 10]

/-- Between Alloc's statements. -/
structure A1 (N E : Nat) (w x : World) : Prop where
  upto : Upto (spL N) w x
  space : x.heap[N + 5]? = some (.cells (spC N 8) 67)
  words : ∃ ws, WsAt N x ws
  err : x.heap[E]? = some (.cells #[i0, i0] 39)
  shapes : x.heap[N + 3]? = some (.map #[] 0)
  places : x.heap[N + 4]? = some (.map #[] 0)
  trows : x.heap[N + 6]? = some (.cells #[.int .u64 0] 83)
  taken : x.heap[N + 7]? = some (.cells #[.int .i64 64, .slice (some ⟨N + 6, 0, none⟩) 1 1] 105)
theorem A1.go {N E : Nat} {w x y : World} (h : A1 N E w x) (u : Upto [] x y) : A1 N E w y := by
  obtain ⟨ws, h1, h2⟩ := h.words
  exact ⟨(h.upto.trans u).less (by simp), u.get h.space (by simp), ⟨ws, u.get h1 (by simp), h2⟩, u.get h.err (by simp), u.get h.shapes (by simp), u.get h.places (by simp), u.get h.trows (by simp), u.get h.taken (by simp)⟩
/-- A store into the words. -/
theorem A1.word {N E : Nat} {w x y : World} (hE : N + 24 ≤ E) (h : A1 N E w x) (u : Upto [N + 2] x y) (hw : ∃ ws, WsAt N y ws) : A1 N E w y :=
  ⟨(h.upto.trans u).less (by simp), u.get h.space (by simp), hw, u.get h.err (by simp; omega), u.get h.shapes (by simp), u.get h.places (by simp), u.get h.trows (by simp), u.get h.taken (by simp)⟩

/-- Alloc, from its statement 'shape := ..' on. -/
noncomputable def body7 : Code := Tryz.f7.body.getD .skip
noncomputable def R8 : Code := match body7 with | .seq _ (.seq _ (.seq _ (.seq _ (.seq _ (.seq _ r))))) => r | _ => .skip
/-- What Alloc says. -/
def Post7 (N E : Nat) (w : World) (e : Ending) (w' : World) : Prop := e = .returned (.tuple #[.int .i64 0, .agg #[i0, i0]]) ∧ Upto (spL N) w w' ∧ ∃ C c4, E ≤ C ∧ w'.heap[C]? = some (.cells c4 75) ∧ c4.size = 4
/-- The first entry of a map. -/
def mapPut (w : World) (m : Nat) (o : Obj) : World := { w with heap := w.heap.setIfInBounds m o }
theorem mapPut_ne (w : World) {m b : Nat} (o : Obj) (h : b ≠ m) : (mapPut w m o).heap[b]? = w.heap[b]? := by simp [mapPut, Ne.symm h]
theorem put_first {w : World} (mty et : TypeId) (r clock : Nat) (n : Int) (val : Value) (hm : Tryz.prog.underlying mty = some (.map 3 et)) (hb : w.heap[r]? = some (.map #[] clock)) :
    (Instr.mapUpdate mty (.map (some r)) (.int .i64 n) val).run Tryz.prog w = .ok () (mapPut w r (.map #[{ key := .int .i64 n, val := val, born := clock }] (clock + 1))) := by
  have hf : Instr.findNow (.int .i64) (.int .i64 n) ([] : List MapEntry) 0 = some none := rfl
  have hc : (Instr.checkKey false 10000 3 (.int .i64 n)).run Tryz.prog w = .ok () w := MapKept.run_checkKey (k := .int .i64 n) Tryz.underlying3 (by simp [MapKept.IsKey]) false 9999
  simp [Instr.mapUpdate, run_underlying hm, MapKept.run_getObj_map hb, hc, MapKept.run_findKey Tryz.underlying3 hf, MapKept.run_setObj_map _ hb, Result.andThen, mapPut]
abbrev spD (N : Nat) : Array Value := #[.slice (some ⟨N + 2, 0, none⟩) 64 64, ptr (N + 1), ptr (N + 7), fr N 8 0, fr N 8 1, fr N 8 2, fr N 8 3, fr N 8 4, fr N 8 5, fr N 8 6, fr N 8 7, .map (some (N + 3)), .map (some (N + 4)), .int .i64 1, i0]
abbrev sh4 : Array Value := #[.int .i64 1, .int .i64 3, .int .i64 1, .int .i64 0]
structure A2 (N E C : Nat) (w x : World) : Prop where
  upto : Upto (spL N) w x
  space : x.heap[N + 5]? = some (.cells (spD N) 67)
  err : x.heap[E]? = some (.cells #[i0, i0] 39)
  trows : x.heap[N + 6]? = some (.cells #[.int .u64 0] 83)
  taken : x.heap[N + 7]? = some (.cells #[.int .i64 64, .slice (some ⟨N + 6, 0, none⟩) 1 1] 105)
  shape : x.heap[C]? = some (.cells sh4 75)
theorem Upto.mapPut {L : List Nat} {a b : World} (h : Upto L a b) (m : Nat) (o : Obj) (hm : m ∈ L) : Upto L a (mapPut b m o) :=
  ⟨h.os, h.tape, h.output, by have := h.size; simp [YtpejmgellidhbaaGreatDoor.mapPut]; exact this, fun x hx hn => (mapPut_ne b o (fun e : x = m => hn (by rw [e]; exact hm))).trans (h.block x hx hn)⟩
theorem A2.put {N E C : Nat} {w x : World} (h : A2 N E C w x) (hE : N + 24 ≤ E) (hC : E < C) (m : Nat) (hm : m = N + 3 ∨ m = N + 4) (o : Obj) : A2 N E C w (mapPut x m o) :=
  ⟨h.upto.mapPut m o (by rcases hm with rfl | rfl <;> simp), (mapPut_ne x o (by omega)).trans h.space, (mapPut_ne x o (by omega)).trans h.err, (mapPut_ne x o (by omega)).trans h.trows, (mapPut_ne x o (by omega)).trans h.taken, (mapPut_ne x o (by omega)).trans h.shape⟩
theorem A2.draw {N E C : Nat} {w x : World} (h : A2 N E C w x) (d : Nat) : A2 N E C w { x with drawn := d } := ⟨h.upto.draw d, h.space, h.err, h.trows, h.taken, h.shape⟩

set_option maxHeartbeats 4000000 in
theorem tail8 (N E : Nat) (w x : World) (hE : N + 24 ≤ E) (hsz : w.heap.size = E) (hA : A1 N E w x) (v4 v5 v6 v7 v11 v12 v13 v14 v15 v16 v17 v18 v19 v20 v21 v22 v23 v24 v25 v26 v27 v28 v29 v30 v31 v32 v33 v34 v35 v36 v37 v38 v39 v40 v41 v42 v43 v44 v45 v46 v47 v48 v49 v50 v51 v52 v53 v54 v55 v56 v57 v58 v59 v60 v61 v62 v63 v64 v65 v66 v67 v68 v69 v70 v71 v72 v73 v74 v75 v76 v77 v78 v79 v80 v81 v82 v83 v84 v85 v86 v87 v88 v89 v90 v91 v92 v93 v94 v95 : Value) :
    R8.wp Tryz.prog (bodyPost Tryz.prog Tryz.f7 (Post7 N E w)) ⟨#[ptr (N + 5), .int .i64 1, .int .i64 3, .int .i64 0, v4, v5, v6, v7, .int .i64 0, ptr E, .int .i64 0, v11, v12, v13, v14, v15, v16, v17, v18, v19, v20, v21, v22, v23, v24, v25, v26, v27, v28, v29, v30, v31, v32, v33, v34, v35, v36, v37, v38, v39, v40, v41, v42, v43, v44, v45, v46, v47, v48, v49, v50, v51, v52, v53, v54, v55, v56, v57, v58, v59, v60, v61, v62, v63, v64, v65, v66, v67, v68, v69, v70, v71, v72, v73, v74, v75, v76, v77, v78, v79, v80, v81, v82, v83, v84, v85, v86, v87, v88, v89, v90, v91, v92, v93, v94, v95], []⟩ x := by
  have c13 : x.cell? ⟨N + 5, 13, none⟩ = some i0 := bc hA.space 13
  have f13 : ∀ o, x.frozen? ⟨N + 5, o, none⟩ = false := bf hA.space
  have lz : E < x.heap.size := blk_lt hA.err
  have l5 : N + 5 < x.heap.size := by omega
  have HA := hid hA
  clear hA
  simp only [R8, body7, Tryz.f7, Option.getD_some]
  go_wp2_with (go_at_call 23; refine (Numbered1 _).mono ?_; rintro e w' ⟨rfl, rfl⟩)
  obtain ⟨C, hC⟩ : ∃ C, C = x.heap.size := ⟨_, rfl⟩
  rw [← hC] at lz ⊢
  have B : A2 N E C w ((x.setCell ⟨N + 5, 13, none⟩ (.int .i64 1)).alloc (.cells sh4 75)) :=
    ⟨(HA.out.upto.setCell _ _ (.inl (by simp))).alloc _, ha_old ((hs_same (i := 13) (v := .int .i64 1) HA.out.space).trans (by simp)), ha_old (hs_ne (by simp; omega) HA.out.err), ha_old (hs_ne (by simp) HA.out.trows), ha_old (hs_ne (by simp) HA.out.taken), by
      have := ha_new (x.setCell ⟨N + 5, 13, none⟩ (.int .i64 1)) (.cells sh4 75)
      rw [hC]
      simpa using this⟩
  have m3 : ((x.setCell ⟨N + 5, 13, none⟩ (.int .i64 1)).alloc (.cells sh4 75)).heap[N + 3]? = some (.map #[] 0) := ha_old (hs_ne (by simp) HA.out.shapes)
  have m4 : ((x.setCell ⟨N + 5, 13, none⟩ (.int .i64 1)).alloc (.cells sh4 75)).heap[N + 4]? = some (.map #[] 0) := ha_old (hs_ne (by simp) HA.out.places)
  clear HA c13 f13 l5
  generalize (x.setCell ⟨N + 5, 13, none⟩ (.int .i64 1)).alloc (.cells sh4 75) = y at B m3 m4 ⊢
  have c12 : y.drew.cell? ⟨N + 5, 12, none⟩ = some (.map (some (N + 4))) := bc (w := y.drew) B.space 12
  have c2 : y.drew.cell? ⟨C, 2, none⟩ = some (.int .i64 1) := bc (w := y.drew) B.shape 2
  have hput := put_first (w := y.drew) 63 3 (N + 4) 0 1 (.int .i64 0) Tryz.underlying63 m4
  have HB := hid (And.intro B m3)
  clear B m3 m4 hC
  go_region
  have B2 : A2 N E C w (mapPut y.drew (N + 4) (.map #[{ key := .int .i64 1, val := .int .i64 0, born := 0 }] (0 + 1))) := (HB.out.1.draw _).put hE lz _ (.inr rfl) _
  have m3 : (mapPut y.drew (N + 4) (.map #[{ key := .int .i64 1, val := .int .i64 0, born := 0 }] (0 + 1))).heap[N + 3]? = some (.map #[] 0) := (mapPut_ne _ _ (by omega)).trans HB.out.2
  clear c12 c2 hput HB
  generalize mapPut y.drew (N + 4) (.map #[{ key := .int .i64 1, val := .int .i64 0, born := 0 }] (0 + 1)) = z at B2 m3 ⊢
  have c11 : z.drew.cell? ⟨N + 5, 11, none⟩ = some (.map (some (N + 3))) := bc (w := z.drew) B2.space 11
  have s0 : z.drew.cell? ⟨C, 0, none⟩ = some (.int .i64 1) := bc (w := z.drew) B2.shape 0
  have s1 : z.drew.cell? ⟨C, 1, none⟩ = some (.int .i64 3) := bc (w := z.drew) B2.shape 1
  have s2 : z.drew.cell? ⟨C, 2, none⟩ = some (.int .i64 1) := bc (w := z.drew) B2.shape 2
  have s3 : z.drew.cell? ⟨C, 3, none⟩ = some (.int .i64 0) := bc (w := z.drew) B2.shape 3
  have hput := put_first (w := z.drew) 62 75 (N + 3) 0 0 (.agg sh4) Tryz.underlying62 m3
  have HB := hid B2
  clear B2 m3
  go_wp2
  go_region
  have B3 : A2 N E C w (mapPut z.drew (N + 3) (.map #[{ key := .int .i64 0, val := .agg sh4, born := 0 }] (0 + 1))) := (HB.out.draw _).put hE lz _ (.inl rfl) _
  clear c11 s0 s1 s2 s3 hput HB
  generalize mapPut z.drew (N + 3) (.map #[{ key := .int .i64 0, val := .agg sh4, born := 0 }] (0 + 1)) = q at B3 ⊢
  have c2 : q.cell? ⟨N + 5, 2, none⟩ = some (ptr (N + 7)) := bc B3.space 2
  have HB := hid B3
  clear B3
  go_wp2_with (go_at_call 24; refine (set_ok 0 (by omega) (N + 7) (N + 6) 0 _ ⟨HB.out.taken, HB.out.trows⟩).mono ?_; rintro e w5 ⟨rfl, d5, hw5⟩
               have U5 : Upto (spL N) w w5 := by rw [hw5]; exact (HB.out.upto.setCell _ _ (.inl (by simp))).draw _
               have S5 : w5.heap[N + 5]? = some (.cells (spD N) 67) := by rw [hw5]; exact hs_ne (by simp) HB.out.space
               have E5 : w5.heap[E]? = some (.cells #[i0, i0] 39) := by rw [hw5]; exact hs_ne (by simp; omega) HB.out.err
               have H5 : w5.heap[C]? = some (.cells sh4 75) := by rw [hw5]; exact hs_ne (by simp; omega) HB.out.shape
               clear hw5 c2)
  have c14 : w5.drew.cell? ⟨N + 5, 14, none⟩ = some i0 := bc (w := w5.drew) S5 14
  have f14 : ∀ o, w5.drew.frozen? ⟨N + 5, o, none⟩ = false := bf (w := w5.drew) S5
  have H6 := hid (And.intro U5 (And.intro S5 (And.intro E5 H5)))
  clear U5 S5 E5 H5 HB
  go_region_law (go_simp; go_at_call 21; refine (wide3 _).mono ?_; rintro e w6 ⟨rfl, hb6⟩
                 have c146 : w6.cell? ⟨N + 5, 14, none⟩ = some i0 := bc (blk_below hb6 H6.out.2.1 (blk_lt H6.out.2.1)) 14
                 have f146 : ∀ o, w6.frozen? ⟨N + 5, o, none⟩ = false := bf (blk_below hb6 H6.out.2.1 (blk_lt H6.out.2.1)))
  all_goals
    have hu6 : Upto (spL N) w w6 := ((H6.out.1.draw _).trans (Upto.of_below hb6)).less (by simp)
    have e6 : w6.heap[E]? = some (.cells #[i0, i0] 39) := blk_below hb6 H6.out.2.2.1 (blk_lt H6.out.2.2.1)
    have h6 : w6.heap[C]? = some (.cells sh4 75) := blk_below hb6 H6.out.2.2.2 (blk_lt H6.out.2.2.2)
    have k0 : w6.cell? ⟨E, 0, none⟩ = some i0 := bc e6 0
    have k1 : w6.cell? ⟨E, 1, none⟩ = some i0 := bc e6 1
    have kf : ∀ o, w6.frozen? ⟨E, o, none⟩ = false := bf e6
    have n5 : ¬ E = N + 5 := by omega
    have n5' : ¬ N + 5 = E := by omega
    clear e6 hb6 H6 c146 f146 c14 f14
    go_wp2
    exact bodyPost_ret (v := .tuple #[.int .i64 0, .agg #[i0, i0]]) (by simp [results, Tryz.results7, go_sem, k0, k1, kf, n5, n5']) rfl
      ⟨rfl, (((hu6.setCell _ _ (.inl (by simp))).setCell _ _ (.inr (by simp [hsz]))).setCell _ _ (.inr (by simp [hsz]))), C, sh4, Nat.le_of_lt lz, hs_ne (by simp; omega) (hs_ne (by simp; omega) (hs_ne (by simp; omega) h6)), rfl⟩

end Go.Proofs.YtpejmgellidhbaaGreatDoor
