/- Find, Plain, Root and May of the reference of graphs. -/
import Derived.Test.YtpejmgellidhbaaDoorN3
namespace Go.Proofs.YtpejmgellidhbaaDoor
open Go.RowKit

def idAt (xs : List Nd) (k : Nat) : Int := (xs.getD k ⟨0, 0, [], []⟩).id
theorem retI {a b : Int} (h : a = b) : Ending.returned (.int .i64 a) = .returned (.int .i64 b) := by rw [h]
/-- The search of Find: where it ends. -/
def bsM (xs : List Nd) (n : Int) (lo hi : Nat) : Nat := if h : lo < hi then (if idAt xs ((lo + hi) / 2) < n then bsM xs n ((lo + hi) / 2 + 1) hi else bsM xs n lo ((lo + hi) / 2)) else lo
termination_by hi - lo
def findM (xs : List Nd) (n : Int) : Int := if bsM xs n 0 xs.length < xs.length ∧ idAt xs (bsM xs n 0 xs.length) = n then bsM xs n 0 xs.length else -1
theorem idAt_get {xs : List Nd} {k : Nat} (h : k < xs.length) : idAt xs k = xs[k].id := by simp [idAt, h]
theorem findM_found {xs : List Nd} {n : Int} (h : 0 ≤ findM xs n) : ∃ k : Nat, findM xs n = k ∧ ∃ h : k < xs.length, xs[k].id = n := by
  unfold findM at h ⊢
  by_cases hc : bsM xs n 0 xs.length < xs.length ∧ idAt xs (bsM xs n 0 xs.length) = n
  · rw [if_pos hc]
    exact ⟨_, rfl, hc.1, by rw [← idAt_get hc.1]; exact hc.2⟩
  · rw [if_neg hc] at h
    omega
theorem bsM_left {xs : List Nd} {n : Int} {lo hi : Nat} (h : lo < hi) (hlt : idAt xs ((lo + hi) / 2) < n) : bsM xs n lo hi = bsM xs n ((lo + hi) / 2 + 1) hi := by
  rw [bsM, dif_pos h, if_pos hlt]
theorem bsM_right {xs : List Nd} {n : Int} {lo hi : Nat} (h : lo < hi) (hlt : ¬ idAt xs ((lo + hi) / 2) < n) : bsM xs n lo hi = bsM xs n lo ((lo + hi) / 2) := by
  rw [bsM, dif_pos h, if_neg hlt]
theorem bsM_end {xs : List Nd} {n : Int} {lo hi : Nat} (h : ¬ lo < hi) : bsM xs n lo hi = lo := by rw [bsM, dif_neg h]
set_option maxHeartbeats 1000000 in
theorem find_any (nv : Value) (xs : List Nd) (n : Int) (w : World) (h : RdNodes w nv xs) : Calls Tryd.prog 26 #[nv, .int .i64 n] w fun e w' => e = .returned (.int .i64 (findM xs n)) ∧ w = w' := by
  obtain ⟨A, c, rfl, hl, hx⟩ := h
  have HX := Lib.hid hx
  clear hx
  go_enter Tryd.func26, Tryd.ntmps26
  go_wp2
  go_loop [5, 6] (fun a b => ∃ lo hi : Nat, lo ≤ hi ∧ hi ≤ xs.length ∧ bsM xs n lo hi = bsM xs n 0 xs.length ∧ a = .int .i64 lo ∧ b = .int .i64 hi) (fun a b => (intOf b).toNat - (intOf a).toNat)
  case atStart => exact ⟨0, xs.length, by omega, by omega, rfl, rfl, rfl⟩
  case round =>
    obtain ⟨lo, hi, h1, h2, hbs, rfl, rfl⟩ := hrel
    have HBS := Lib.hid hbs
    clear hbs
    by_cases hlt : lo < hi
    · obtain ⟨b, o, rfl, hbl, hr⟩ := HX.out (by omega)
      obtain ⟨rv, fv, ev, r0, r1, r2, r3, r4, hn⟩ := hr ((lo + hi) / 2) (by omega)
      have hm : (lo + hi) / 2 < xs.length := by omega
      rw [← idAt_get hm] at r0
      obtain ⟨nd, hnd⟩ : ∃ nd, nd = idAt xs ((lo + hi) / 2) := ⟨_, rfl⟩
      rw [← hnd] at r0
      have HND := Lib.hid hnd
      clear r1 r2 r3 r4 hn hr hnd
      by_cases hc : nd < n
      · go_wp2
        go_round
        case rel => exact ⟨(lo + hi) / 2 + 1, hi, by omega, by omega, by rw [← HBS.out]; exact (bsM_left hlt (by rw [← HND.out]; exact hc)).symm, by go_num, rfl⟩
        case measure => simp [intOf]; omega
      · go_wp2
        go_round
        case rel => exact ⟨lo, (lo + hi) / 2, by omega, by omega, by rw [← HBS.out]; exact (bsM_right hlt (by rw [← HND.out]; exact hc)).symm, rfl, by go_num⟩
        case measure => simp [intOf]; omega
    · have hlo : bsM xs n 0 xs.length = lo := by rw [← HBS.out]; exact bsM_end hlt
      have HLO := Lib.hid hlo
      clear hlo
      by_cases hb : lo < xs.length
      · obtain ⟨b, o, rfl, hbl, hr⟩ := HX.out (by omega)
        obtain ⟨rv, fv, ev, r0, r1, r2, r3, r4, hn⟩ := hr lo hb
        rw [← idAt_get hb] at r0
        obtain ⟨nd, hnd⟩ : ∃ nd, nd = idAt xs lo := ⟨_, rfl⟩
        rw [← hnd] at r0
        have HND := Lib.hid hnd
        clear r1 r2 r3 r4 hn hr hnd
        by_cases he : (nd == n) = true
        · have hf : findM xs n = lo := by
            unfold findM
            rw [HLO.out, if_pos ⟨hb, by rw [← HND.out]; simpa using he⟩]
          have HF := Lib.hid hf
          clear hf
          go_wp2
          go_ret
          exact ⟨retI HF.out.symm, rfl⟩
        · have he' : (nd == n) = false := by simpa using he
          have hf : findM xs n = -1 := by
            unfold findM
            rw [HLO.out, if_neg (fun h => he (by rw [HND.out]; simpa using h.2))]
          have HF := Lib.hid hf
          clear hf he
          go_wp2
          go_ret
          exact ⟨retI HF.out.symm, rfl⟩
      · have hb' : decide (lo < xs.length) = false := by simpa using hb
        have hf : findM xs n = -1 := by
          unfold findM
          rw [HLO.out, if_neg (fun h => hb h.1)]
        have HF := Lib.hid hf
        clear hf
        go_wp2
        go_ret
        exact ⟨retI HF.out.symm, rfl⟩

def HasId (xs : List Nd) (n : Int) : Prop := ∃ nd ∈ xs, nd.id = n
theorem findM_has {xs : List Nd} {n : Int} (h : 0 ≤ findM xs n) : HasId xs n := by
  obtain ⟨k, _, hk, e⟩ := findM_found h
  exact ⟨_, List.getElem_mem hk, e⟩
def kindAt (xs : List Nd) (k : Nat) : Int := (xs.getD k ⟨0, 0, [], []⟩).kind
theorem kindAt_get {xs : List Nd} {k : Nat} (h : k < xs.length) : kindAt xs k = xs[k].kind := by simp [kindAt, h]
/-- Plain -/
def plainM (xs : List Nd) (k n : Int) : Bool := if validB k n = true then (if k = 2 then (if 0 ≤ findM xs n then visB (kindAt xs (findM xs n).toNat) else false) else true) else false
theorem plainM_has {xs : List Nd} {n : Int} (h : plainM xs 2 n = true) : HasId xs n := by
  unfold plainM at h
  by_cases hv : validB 2 n = true
  · rw [if_pos hv, if_pos rfl] at h
    by_cases hf : 0 ≤ findM xs n
    · exact findM_has hf
    · simp [hf] at h
  · simp [hv] at h
/-- Some bool is returned, true just where something holds. -/
def BoolTells (P : Prop) (w : World) (e : Ending) (w' : World) : Prop := ∃ b : Bool, e = .returned (.bool b) ∧ (b = true → P) ∧ Below w.heap.size w w'
theorem RdNodes.form {w : World} {nv : Value} {xs : List Nd} (h : RdNodes w nv xs) : ∃ A c, nv = .slice A xs.length c := by
  obtain ⟨A, c, e, _⟩ := h
  exact ⟨A, c, e⟩
theorem valid2_said (V : World) (k n : Int) : ∀ W, Below V.heap.size V W → Calls Tryd.prog 27 #[.agg #[.int .i64 k, .int .i64 n]] W fun e w' => e = .returned (.bool (validB k n)) ∧ Below V.heap.size V w' := fun W hW => by
  refine (valid2_any k n W).mono ?_
  rintro e w' ⟨rfl, hb⟩
  exact ⟨rfl, hW.trans (hb.mono hW.size)⟩
theorem two_cells {V : World} {g : Nat} {x y : Value} {T : TypeId} (h : V.heap[g]? = some (.cells #[x, y] T (0, 0))) : ∀ W, Below V.heap.size V W → W.cell? ⟨g, 0, none⟩ = some x ∧ W.cell? ⟨g, 1, none⟩ = some y := fun W hW => by
  have h2 := blk_below hW h (blk_lt h)
  exact ⟨(bc h2 0).trans rfl, (bc h2 1).trans rfl⟩
set_option maxHeartbeats 1000000 in
theorem plain_any (nv : Value) (xs : List Nd) (k n : Int) (w : World) (h : RdNodes w nv xs) : Calls Tryd.prog 21 #[nv, .agg #[.int .i64 k, .int .i64 n]] w fun e w' => e = .returned (.bool (plainM xs k n)) ∧ Below w.heap.size w w' := by
  obtain ⟨A, c, rfl⟩ := h.form
  go_enter Tryd.func21, Tryd.ntmps21
  go_upto_region 1 with (fail)
  have hb0 : Below w.heap.size w (w.alloc (.cells #[.int .i64 k, .int .i64 n] 27)) := (Below.refl _ _).alloc (Nat.le_refl _) _
  have hc0 := ha_new w (.cells #[.int .i64 k, .int .i64 n] 27)
  have h0 := h.below hb0 (Nat.le_refl _)
  generalize World.alloc w _ = V at *
  have HC := Lib.hid (valid2_said V k n)
  have HK := Lib.hid (two_cells hc0)
  have HF := Lib.hid (fun W hW => find_any _ xs n W (h0.below (B := V.heap.size) (w' := W) hW (Nat.le_refl _)))
  have H0 := Lib.hid h0
  obtain ⟨q0, q1⟩ := two_cells hc0 V (Below.refl _ _)
  have HB := Lib.hid hb0
  clear h hb0 hc0 h0
  by_cases hv : validB k n = true
  · by_cases hk : (k == 2) = true
    · have hk2 : k = 2 := by simpa using hk
      subst hk2
      go_upto_region 4 with (first | (go_at_call 27; (with_reducible refine (HC.out _ (by first | exact Below.refl _ _ | assumption)).mono ?_); rintro e w1 ⟨rfl, hb1⟩; obtain ⟨q0, q1⟩ := HK.out _ hb1) | (go_at_call 26; (with_reducible refine (HF.out _ hb1).mono ?_); rintro e w2 ⟨rfl, rfl⟩))
      have HB1 := Lib.hid hb1
      clear hb1
      generalize hr : findM xs n = r at *
      by_cases h0 : 0 ≤ r
      · obtain ⟨j, hj0, hj, hid⟩ := findM_found (xs := xs) (n := n) (by rw [hr]; exact h0)
        rw [hr] at hj0
        subst hj0
        have hp : plainM xs 2 n = visB xs[j].kind := by
          unfold plainM
          rw [if_pos hv, if_pos rfl, if_pos (by omega), hr, Int.toNat_natCast, kindAt_get hj]
        have HP := Lib.hid hp
        have HR := Lib.hid hr
        clear hp hr hid
        obtain ⟨A', c', e', _, hx⟩ := H0.out.below HB1.out (Nat.le_refl _)
        obtain ⟨b, o, rfl, hbl, hr⟩ := hx (by omega)
        cases e'
        obtain ⟨rv, fv, ev, r0, r1, r2, r3, r4, hn⟩ := hr j hj
        clear hx hr hn r0 r2 r3 r4
        generalize hq : xs[j].kind = q at *
        clear hq
        go_wp2_with (go_at_call 28; (with_reducible refine (visible_any _ _).mono ?_); rintro e w3 ⟨rfl, rfl⟩)
        go_ret
        exact ⟨ret_bool HP.out.symm, HB.out.trans (HB1.out.mono HB.out.size)⟩
      · have h0' : decide (0 ≤ r) = false := by simpa using h0
        have hp : plainM xs 2 n = false := by
          unfold plainM
          rw [if_pos hv, if_pos rfl, if_neg (by omega)]
        have HP := Lib.hid hp
        clear hp hr
        go_wp2
        go_ret
        exact ⟨ret_bool HP.out.symm, HB.out.trans (HB1.out.mono HB.out.size)⟩
    · have hk' : (k == 2) = false := by simpa using hk
      have hk2 : (k != 2) = true := by simp [bne, hk']
      have hkn : k ≠ 2 := by simpa using hk
      have hp : plainM xs k n = true := by
        unfold plainM
        rw [if_pos hv, if_neg hkn]
      have HP := Lib.hid hp
      clear hk hkn hp
      go_wp2_with (go_at_call 27; (with_reducible refine (HC.out _ (by first | exact Below.refl _ _ | assumption)).mono ?_); rintro e w1 ⟨rfl, hb1⟩; obtain ⟨q0, q1⟩ := HK.out _ hb1)
      go_ret
      exact ⟨ret_bool HP.out.symm, HB.out.trans (hb1.mono HB.out.size)⟩
  · have hv' : validB k n = false := by simpa using hv
    have hp : plainM xs k n = false := by
      unfold plainM
      rw [if_neg hv]
    have HP := Lib.hid hp
    clear hv hp
    go_wp2_with (go_at_call 27; (with_reducible refine (HC.out _ (by first | exact Below.refl _ _ | assumption)).mono ?_); rintro e w1 ⟨rfl, hb1⟩; obtain ⟨q0, q1⟩ := HK.out _ hb1)
    go_ret
    exact ⟨ret_bool HP.out.symm, HB.out.trans (hb1.mono HB.out.size)⟩
set_option maxHeartbeats 1000000 in
theorem root_any (nv : Value) (xs : List Nd) (k n : Int) (w : World) (h : RdNodes w nv xs) : Calls Tryd.prog 23 #[nv, .agg #[.int .i64 k, .int .i64 n]] w (SomeBool w) := by
  obtain ⟨A, c, rfl⟩ := h.form
  go_enter Tryd.func23, Tryd.ntmps23
  go_upto_region 1 with (fail)
  have hb0 : Below w.heap.size w (w.alloc (.cells #[.int .i64 k, .int .i64 n] 27)) := (Below.refl _ _).alloc (Nat.le_refl _) _
  have hc0 := ha_new w (.cells #[.int .i64 k, .int .i64 n] 27)
  have h0 := h.below hb0 (Nat.le_refl _)
  generalize World.alloc w _ = V at *
  have HC := Lib.hid (valid2_said V k n)
  have HK := Lib.hid (two_cells hc0)
  have HF := Lib.hid (fun W hW => find_any _ xs n W (h0.below (B := V.heap.size) (w' := W) hW (Nat.le_refl _)))
  obtain ⟨q0, q1⟩ := two_cells hc0 V (Below.refl _ _)
  have HB := Lib.hid hb0
  clear h hb0 hc0 h0
  by_cases hv : validB k n = true
  · by_cases hk : (k == 2) = true
    · have hk2 : k = 2 := by simpa using hk
      subst hk2
      go_wp2_with (first | (go_at_call 27; (with_reducible refine (HC.out _ (by first | exact Below.refl _ _ | assumption)).mono ?_); rintro e w1 ⟨rfl, hb1⟩; obtain ⟨q0, q1⟩ := HK.out _ hb1) | (go_at_call 26; (with_reducible refine (HF.out _ hb1).mono ?_); rintro e w2 ⟨rfl, rfl⟩))
      go_ret
      exact someBool _ (HB.out.trans (hb1.mono HB.out.size))
    · have hk' : (k == 2) = false := by simpa using hk
      have hk2 : (k != 2) = true := by simp [bne, hk']
      clear hk
      go_wp2_with (go_at_call 27; (with_reducible refine (HC.out _ (by first | exact Below.refl _ _ | assumption)).mono ?_); rintro e w1 ⟨rfl, hb1⟩; obtain ⟨q0, q1⟩ := HK.out _ hb1)
      go_ret
      exact someBool _ (HB.out.trans (hb1.mono HB.out.size))
  · have hv' : validB k n = false := by simpa using hv
    clear hv
    go_wp2_with (go_at_call 27; (with_reducible refine (HC.out _ (by first | exact Below.refl _ _ | assumption)).mono ?_); rintro e w1 ⟨rfl, hb1⟩; obtain ⟨q0, q1⟩ := HK.out _ hb1)
    go_ret
    exact someBool _ (HB.out.trans (hb1.mono HB.out.size))

end Go.Proofs.YtpejmgellidhbaaDoor
