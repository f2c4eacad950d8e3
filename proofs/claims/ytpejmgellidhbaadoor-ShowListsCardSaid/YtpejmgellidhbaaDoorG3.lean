/- The statement ShowFixes: its walk. -/
import Derived.Test.YtpejmgellidhbaaDoorG2
namespace Go.Proofs.YtpejmgellidhbaaDoor
open Go.RowKit

/-- What digits read as. -/
def dval (l : List UInt8) : Nat := l.foldl (fun m b => 10 * m + (b.toNat - 48)) 0
theorem dval_snoc (l : List UInt8) (b : UInt8) : dval (l ++ [b]) = 10 * dval l + (b.toNat - 48) := by simp [dval]
theorem digit_byte {d : Nat} (h : d < 10) : (UInt8.ofNat (48 + d)).toNat = 48 + d := by
  rw [UInt8.toNat_ofNat']
  omega
theorem dec_val (u : Nat) : dval (Lib.decDigits u) = u := by
  induction u using Lib.decDigits.induct with
  | case1 u h =>
    rw [Lib.decDigits, dif_pos h]
    show 10 * 0 + ((UInt8.ofNat (48 + u)).toNat - 48) = u
    rw [digit_byte h]
    omega
  | case2 u h ih =>
    rw [Lib.decDigits, dif_neg h, dval_snoc, ih, digit_byte (by omega)]
    omega
theorem dec_digit (u : Nat) : ∀ b ∈ Lib.decDigits u, 48 ≤ b.toNat ∧ b.toNat ≤ 57 := by
  induction u using Lib.decDigits.induct with
  | case1 u h =>
    rw [Lib.decDigits, dif_pos h]
    intro b hb
    rw [List.mem_singleton] at hb
    subst hb
    rw [digit_byte h]
    omega
  | case2 u h ih =>
    rw [Lib.decDigits, dif_neg h]
    intro b hb
    rcases List.mem_append.1 hb with hb | hb
    · exact ih b hb
    · rw [List.mem_singleton] at hb
      subst hb
      rw [digit_byte (by omega)]
      omega
/-- A numeral's first digit is no zero, unless it is zero's. -/
theorem dec_first (u : Nat) : ∃ b r, Lib.decDigits u = b :: r ∧ (u = 0 → r = []) ∧ (u ≠ 0 → b.toNat ≠ 48) := by
  induction u using Lib.decDigits.induct with
  | case1 u h =>
    rw [Lib.decDigits, dif_pos h]
    refine ⟨_, [], rfl, fun _ => rfl, fun hu => ?_⟩
    rw [digit_byte h]
    omega
  | case2 u h ih =>
    obtain ⟨b, r, e, h0, h1⟩ := ih
    rw [Lib.decDigits, dif_neg h, e]
    exact ⟨b, r ++ _, rfl, fun hu => by omega, fun _ => h1 (by omega)⟩
theorem dval_take_le (l : List UInt8) : ∀ k, dval (l.take k) ≤ dval l := by
  intro k
  have key : ∀ (b : List UInt8) (m m' : Nat), m ≤ m' → m ≤ b.foldl (fun m b => 10 * m + (b.toNat - 48)) m' := fun b => by
    induction b with
    | nil => exact fun m m' h => h
    | cons x r ih =>
      intro m m' h
      rw [List.foldl_cons]
      exact ih m _ (by omega)
  have e : dval l = (l.drop k).foldl (fun m b => 10 * m + (b.toNat - 48)) (dval (l.take k)) := by
    unfold dval
    rw [← List.foldl_append, List.take_append_drop]
  rw [e]
  exact key _ _ _ (Nat.le_refl _)
theorem dval_step (l : List UInt8) (k : Nat) (h : k < l.length) : dval (l.take (k + 1)) = 10 * dval (l.take k) + (l[k].toNat - 48) := by
  rw [List.take_succ_eq_append_getElem h, dval_snoc]
theorem show_badfix (n : Int) (h : n > 1152921504606846975 ∨ n < -1152921504606846976) : showM [] (1, n) = ([], 33) := by
  have hv : validB 1 n = false := by
    simp [validB, fitsB]
    omega
  have hl : lookM [] 501 [(1, n)] [] 0 = .err 33 := by
    unfold lookM
    rw [if_neg (by omega), if_pos hv]
  unfold showM
  rw [hl]
theorem show_fix (n : Int) (h : -1152921504606846976 ≤ n ∧ n ≤ 1152921504606846975) : showM [] (1, n) = (Lib.itoa n, 0) := by
  have hv : validB 1 n = true := by
    simp [validB, fitsB]
    omega
  rw [show_atom [] (1, n) hv (by simp)]
  simp [atomL]
theorem graph_fix (n : Int) (W : World) (hT : Tabs W) (L : List UInt8) (k : Int) (hs : showM [] (1, n) = (L, k)) :
    Calls Tryd.prog 12 #[.agg #[.slice none 0 0, .slice none 0 0], .agg #[.int .i64 1, .int .i64 n]] W fun e w' => e = .returned (.tuple #[.string ⟨L.toArray⟩, .agg #[.int .i64 k, .int .i64 0]]) ∧ Below W.heap.size W w' := by
  refine (graph_any W (.slice none 0 0) (.slice none 0 0) [] (1, n) hT (nodes_nil W) ⟨none, 0, 0, rfl⟩ small_nil).mono ?_
  rintro e w' ⟨rfl, hb⟩
  rw [hs]
  exact ⟨rfl, hb⟩
set_option maxRecDepth 100000 in
set_option maxHeartbeats 2000000 in
theorem fixes_bad (n : Int) (w : World) (hT : Tabs w) (h : n > 1152921504606846975 ∨ n < -1152921504606846976) :
    Calls Tryd.prog 4 #[.int .i64 n] w fun e w' => e = .returned (.bool true) ∧ Below w.heap.size w w' := by
  have hG := fun W (hW : Below w.heap.size w W) => graph_fix n W (hT.below hW (Nat.le_refl _)) [] 33 (show_badfix n h)
  have HG := Lib.hid (And.intro hG hT)
  clear hG hT
  rcases h with h | h
  all_goals
    go_enter Tryd.func4, Tryd.ntmps4
    go_wp2_with (first | (go_at_call 8; refine (alive_any _ HG.out.2).mono ?_; rintro e w1 ⟨rfl, hb1⟩) | (go_at_call 14; refine (fix_any _ _).mono ?_; rintro e w2 ⟨rfl, hb2⟩; have hb12 := hb1.trans (hb2.mono hb1.size)) | (go_at_call 12; refine (HG.out.1 _ hb12).mono ?_; rintro e w3 ⟨rfl, hb3⟩; have hb13 := hb12.trans (hb3.mono hb12.size); clear hb3 hb12) | (go_at_call 15; refine (num_any _ _).mono ?_; rintro e w4 ⟨rfl, rfl⟩))
    go_ret
    exact ⟨rfl, hb13.alloc hb13.size _⟩
/-- What the loop of ShowFixes has come to. -/
structure FixAt (D : List UInt8) (i0 : Nat) (mv kv : Value) : Prop where
  st : ∃ j : Nat, j ≤ D.length ∧ kv = .int .i64 ((i0 + j : Nat) : Int) ∧ mv = .int .i64 ((dval (D.take j) : Nat) : Int)
theorem index_run (sb : ByteArray) (k : Nat) (y : UInt8) (h : sb.data.toList[k]? = some y) (W : World) : (Instr.index 9 (.string sb) (.int .i64 (k : Int))).run Tryd.prog W = .ok (.int .u8 (y.toNat : Int)) W := by
  have hl : k < sb.size := by
    have := (List.getElem?_eq_some_iff.1 h).1
    simpa using this
  rw [run_index_string W 9 sb .i64 k Tryd.underlying9, dif_pos ⟨by omega, by omega⟩]
  have e : sb[k] = y := by
    have h2 : sb.data[k]? = some y := by simpa using h
    have h3 : sb.data[k]? = some sb[k] := Array.getElem?_eq_getElem hl
    rw [h3] at h2
    exact Option.some.inj h2
  simp [e]
theorem decLen (n : Nat) (h : n < 18446744073709551616) : (Lib.decDigits n).length ≤ 20 := by
  rw [Lib.decDigits_length]
  rcases Nat.eq_zero_or_pos n with e | e
  · subst e
    rw [Lib.nDigits_small (by omega)]
    omega
  · have := Lib.numDigits_eq n e h
    split at this <;> omega
set_option maxRecDepth 100000 in
set_option maxHeartbeats 4000000 in
theorem fixes_pos (n : Nat) (w : World) (hT : Tabs w) (h : n ≤ 1152921504606846975) :
    Calls Tryd.prog 4 #[.int .i64 n] w fun e w' => e = .returned (.bool true) ∧ Below w.heap.size w w' := by
  have hG := fun W (hW : Below w.heap.size w W) => graph_fix n W (hT.below hW (Nat.le_refl _)) _ 0 (show_fix n ⟨by omega, by omega⟩)
  have hit : Lib.itoa n = Lib.decDigits n := by unfold Lib.itoa; rw [if_neg (by omega)]; rfl
  rw [hit] at hG
  obtain ⟨b, r, hD, h0, h1⟩ := dec_first n
  have hDl := decLen n (by omega)
  have hdig := dec_digit n
  have hval := dec_val n
  obtain ⟨D, hDd⟩ : ∃ D, D = Lib.decDigits n := ⟨_, rfl⟩
  rw [← hDd] at hD hdig hval hG hDl
  obtain ⟨sb, hsb⟩ : ∃ sb : ByteArray, sb = ⟨D.toArray⟩ := ⟨_, rfl⟩
  have hsl : sb.data.toList = D := by rw [hsb]
  obtain ⟨N, hN⟩ : ∃ N, N = D.length := ⟨_, rfl⟩
  have hsz : sb.size = N := by rw [hsb, hN]; exact size_bs D
  rw [← hN] at hDl
  rw [← hsb] at hG
  have hD0 : 0 < N := by rw [hN, hD]; simp
  have hx0 : ∀ W, (Instr.index 9 (.string sb) (.int .i64 0)).run Tryd.prog W = .ok (.int .u8 (b.toNat : Int)) W := fun W => index_run sb 0 b (by rw [hsl, hD]; rfl) W
  have hb := hdig b (by rw [hD]; simp)
  have hz1 : b.toNat = 48 → N = 1 := fun e1 => by
    rcases Nat.eq_zero_or_pos n with e | e
    · rw [hN, hD, h0 e]
      rfl
    · exact absurd e1 (h1 (by omega))
  have hbix : ∀ (k : Nat) (hk : k < D.length) W, (Instr.index 9 (.string sb) (.int .i64 (k : Int))).run Tryd.prog W = .ok (.int .u8 (D[k].toNat : Int)) W := fun k hk W => index_run sb k _ (by rw [hsl]; exact List.getElem?_eq_getElem hk) W
  have HG := Lib.hid (And.intro hG hT)
  have HD := Lib.hid (And.intro hdig (And.intro hval (And.intro hN hbix)))
  have hlen0 : sb.data.toList.isEmpty = false := by rw [hsl, hD]; rfl
  clear hG hT hit hDd hsb hdig hval hsl hD h0 h1 hbix hN
  generalize b.toNat = y at *
  have hy45 : ((y : Int) == 45) = false := by simp; omega
  have hnn : decide ((n : Int) < 0) = false := by simp
  have key : ∀ (W3 : World), Below w.heap.size w W3 → True := fun _ _ => trivial
  by_cases hy48 : y = 48
  · have hN1 := hz1 hy48
    subst hN1 hy48
    clear hz1 key hb hD0 hDl
    go_enter Tryd.func4, Tryd.ntmps4
    go_wp2_with (first | (go_at_call 8; refine (alive_any _ HG.out.2).mono ?_; rintro e w1 ⟨rfl, hb1⟩) | (go_at_call 14; refine (fix_any _ _).mono ?_; rintro e w2 ⟨rfl, hb2⟩; have hb12 := hb1.trans (hb2.mono hb1.size)) | (go_at_call 12; refine (HG.out.1 _ hb12).mono ?_; rintro e w3 ⟨rfl, hb3⟩; have hb13 := hb12.trans (hb3.mono hb12.size); clear hb3 hb12) | (go_at_call 16; refine (good_any 0 0 _).mono ?_; rintro e w4 ⟨rfl, hb4⟩))
    have HF := Lib.hid (And.intro hb4 hb13)
    clear hb4 hb13 hb1 hb2
    go_loop [7, 8] (fun mv kv => ∃ j : Nat, j ≤ D.length ∧ kv = .int .i64 j ∧ mv = .int .i64 ((dval (D.take j) : Nat) : Int)) (fun _ kv => D.length - (intOf kv).toNat)
    case atStart => exact ⟨0, Nat.zero_le _, rfl, rfl⟩
    case round =>
      obtain ⟨j, hj, rfl, rfl⟩ := hrel
      have hNl := HD.out.2.2.1
      by_cases hlt : j < D.length
      · have hjN : j < 1 := by omega
        have hix := HD.out.2.2.2 j hlt
        have hyd := HD.out.1 D[j] (List.getElem_mem hlt)
        have hst := dval_step D j hlt
        have hle := dval_take_le D (j + 1)
        rw [HD.out.2.1] at hle
        generalize D[j].toNat = y2 at *
        obtain ⟨v, hv⟩ : ∃ v, v = dval (D.take j) := ⟨_, rfl⟩
        rw [← hv] at hst ⊢
        rw [hst] at hle
        obtain ⟨hy1, hy2⟩ := hyd
        have HST := Lib.hid (And.intro hst hv)
        clear hst hv hNl
        go_wp2
        go_round
        case rel => exact ⟨j + 1, by omega, by go_num, by rw [HST.out.1]; congr 1; omega⟩
        case measure => simp [intOf]; omega
      · have hje : j = D.length := by omega
        have hjN : ¬ j < 1 := by omega
        subst hje
        have hv : dval (D.take D.length) = n := by rw [List.take_length]; exact HD.out.2.1
        rw [hv]
        clear hv hNl hj hlt
        go_wp2
        go_ret
        exact ⟨rfl, (HF.out.2.alloc HF.out.2.size _).trans (HF.out.1.mono (Nat.le_trans HF.out.2.size (by simp)))⟩
  · have hy48b : ((y : Int) == 48) = false := by simp; omega
    clear hz1 key
    go_enter Tryd.func4, Tryd.ntmps4
    go_wp2_with (first | (go_at_call 8; refine (alive_any _ HG.out.2).mono ?_; rintro e w1 ⟨rfl, hb1⟩) | (go_at_call 14; refine (fix_any _ _).mono ?_; rintro e w2 ⟨rfl, hb2⟩; have hb12 := hb1.trans (hb2.mono hb1.size)) | (go_at_call 12; refine (HG.out.1 _ hb12).mono ?_; rintro e w3 ⟨rfl, hb3⟩; have hb13 := hb12.trans (hb3.mono hb12.size); clear hb3 hb12) | (go_at_call 16; refine (good_any 0 0 _).mono ?_; rintro e w4 ⟨rfl, hb4⟩))
    have HF := Lib.hid (And.intro hb4 hb13)
    clear hb4 hb13 hb1 hb2
    go_loop [7, 8] (fun mv kv => ∃ j : Nat, j ≤ D.length ∧ kv = .int .i64 j ∧ mv = .int .i64 ((dval (D.take j) : Nat) : Int)) (fun _ kv => D.length - (intOf kv).toNat)
    case atStart => exact ⟨0, Nat.zero_le _, rfl, rfl⟩
    case round =>
      obtain ⟨j, hj, rfl, rfl⟩ := hrel
      have hNl := HD.out.2.2.1
      by_cases hlt : j < D.length
      · have hjN : j < N := by omega
        have hix := HD.out.2.2.2 j hlt
        have hyd := HD.out.1 D[j] (List.getElem_mem hlt)
        have hst := dval_step D j hlt
        have hle := dval_take_le D (j + 1)
        rw [HD.out.2.1] at hle
        generalize D[j].toNat = y2 at *
        obtain ⟨v, hv⟩ : ∃ v, v = dval (D.take j) := ⟨_, rfl⟩
        rw [← hv] at hst ⊢
        rw [hst] at hle
        obtain ⟨hy1, hy2⟩ := hyd
        have HST := Lib.hid (And.intro hst hv)
        clear hst hv hNl
        go_wp2
        exact ⟨⟨_, .int .i64 (10 * (v : Int) + ((y2 : Int) - 48)), .int .i64 ((j : Int) + 1), ⟨j + 1, by omega, by go_num, by rw [HST.out.1]; congr 1; omega⟩, rfl, rfl, rfl⟩, by simp [intOf]; omega⟩
      · have hje : j = D.length := by omega
        have hjN : ¬ j < N := by omega
        subst hje
        have hv : dval (D.take D.length) = n := by rw [List.take_length]; exact HD.out.2.1
        rw [hv]
        clear hv hNl hj hlt
        go_wp2
        go_ret
        exact ⟨rfl, (HF.out.2.alloc HF.out.2.size _).trans (HF.out.1.mono (Nat.le_trans HF.out.2.size (by simp)))⟩
set_option maxRecDepth 100000 in
set_option maxHeartbeats 4000000 in
theorem fixes_neg (n : Int) (u : Nat) (w : World) (hT : Tabs w) (hn : n = -(u : Int)) (hu : 1 ≤ u) (h : u ≤ 1152921504606846976) :
    Calls Tryd.prog 4 #[.int .i64 n] w fun e w' => e = .returned (.bool true) ∧ Below w.heap.size w w' := by
  have hG := fun W (hW : Below w.heap.size w W) => graph_fix n W (hT.below hW (Nat.le_refl _)) _ 0 (show_fix n ⟨by omega, by omega⟩)
  have hit : Lib.itoa n = 45 :: Lib.decDigits u := by rw [hn, Lib.itoa_neg u hu]
  rw [hit] at hG
  obtain ⟨b, r, hD, h0, h1⟩ := dec_first u
  have hDl := decLen u (by omega)
  have hdig := dec_digit u
  have hval := dec_val u
  obtain ⟨D, hDd⟩ : ∃ D, D = Lib.decDigits u := ⟨_, rfl⟩
  rw [← hDd] at hD hdig hval hG hDl
  obtain ⟨sb, hsb⟩ : ∃ sb : ByteArray, sb = ⟨(45 :: D).toArray⟩ := ⟨_, rfl⟩
  have hsl : sb.data.toList = 45 :: D := by rw [hsb]
  obtain ⟨N, hN⟩ : ∃ N, N = D.length := ⟨_, rfl⟩
  have hsz : sb.size = N + 1 := by rw [hsb, hN]; exact size_bs (45 :: D)
  rw [← hN] at hDl
  rw [← hsb] at hG
  have hD0 : 0 < N := by rw [hN, hD]; simp
  have hx0 : ∀ W, (Instr.index 9 (.string sb) (.int .i64 0)).run Tryd.prog W = .ok (.int .u8 45) W := fun W => index_run sb 0 45 (by rw [hsl]; rfl) W
  have hx1 : ∀ W, (Instr.index 9 (.string sb) (.int .i64 1)).run Tryd.prog W = .ok (.int .u8 (b.toNat : Int)) W := fun W => index_run sb 1 b (by rw [hsl, hD]; rfl) W
  have hb48 := h1 (by omega)
  have hbix : ∀ (k : Nat) (hk : k < D.length) W, (Instr.index 9 (.string sb) (.int .i64 ((k : Int) + 1))).run Tryd.prog W = .ok (.int .u8 (D[k].toNat : Int)) W := fun k hk W => index_run sb (k + 1) _ (by rw [hsl]; exact List.getElem?_eq_getElem (l := D) hk) W
  have HG := Lib.hid (And.intro hG hT)
  have HD := Lib.hid (And.intro hdig (And.intro hval (And.intro hN (And.intro hbix hn))))
  have hlen0 : sb.data.toList.isEmpty = false := by rw [hsl]; rfl
  have hn0 : n < 0 := by omega
  have hnlo : -1152921504606846976 ≤ n := by omega
  clear hG hT hit hDd hsb hdig hval hsl hD h0 h1 hbix hN hn
  generalize b.toNat = y at *
  have hy48b : ((y : Int) == 48) = false := by simp; omega
  go_enter Tryd.func4, Tryd.ntmps4
  go_wp2_with (first | (go_at_call 8; refine (alive_any _ HG.out.2).mono ?_; rintro e w1 ⟨rfl, hb1⟩) | (go_at_call 14; refine (fix_any _ _).mono ?_; rintro e w2 ⟨rfl, hb2⟩; have hb12 := hb1.trans (hb2.mono hb1.size)) | (go_at_call 12; refine (HG.out.1 _ hb12).mono ?_; rintro e w3 ⟨rfl, hb3⟩; have hb13 := hb12.trans (hb3.mono hb12.size); clear hb3 hb12) | (go_at_call 16; refine (good_any 0 0 _).mono ?_; rintro e w4 ⟨rfl, hb4⟩))
  have HF := Lib.hid (And.intro hb4 hb13)
  clear hb4 hb13 hb1 hb2
  go_loop [7, 8] (fun mv kv => ∃ j : Nat, j ≤ D.length ∧ kv = .int .i64 ((j : Int) + 1) ∧ mv = .int .i64 ((dval (D.take j) : Nat) : Int)) (fun _ kv => D.length + 1 - (intOf kv).toNat)
  case atStart => exact ⟨0, Nat.zero_le _, rfl, rfl⟩
  case round =>
    obtain ⟨j, hj, rfl, rfl⟩ := hrel
    have hNl := HD.out.2.2.1
    by_cases hlt : j < D.length
    · have hjN : j < N := by omega
      have hix := HD.out.2.2.2.1 j hlt
      have hyd := HD.out.1 D[j] (List.getElem_mem hlt)
      have hst := dval_step D j hlt
      have hle := dval_take_le D (j + 1)
      rw [HD.out.2.1] at hle
      generalize D[j].toNat = y2 at *
      obtain ⟨v, hv⟩ : ∃ v, v = dval (D.take j) := ⟨_, rfl⟩
      rw [← hv] at hst ⊢
      rw [hst] at hle
      obtain ⟨hy1, hy2⟩ := hyd
      have HST := Lib.hid (And.intro hst hv)
      clear hst hv hNl
      go_wp2
      first
      | exact ⟨⟨_, .int .i64 (10 * (v : Int) + ((y2 : Int) - 48)), .int .i64 ((j : Int) + 1 + 1), ⟨j + 1, by omega, by go_num, by rw [HST.out.1]; congr 1; omega⟩, rfl, rfl, rfl⟩, by simp [intOf]; omega⟩
      | (go_round; case rel => exact ⟨j + 1, by omega, by go_num, by rw [HST.out.1]; congr 1; omega⟩; case measure => simp [intOf]; omega)
    · have hje : j = D.length := by omega
      have hjN : ¬ j < N := by omega
      subst hje
      have hv : dval (D.take D.length) = u := by rw [List.take_length]; exact HD.out.2.1
      rw [hv]
      have hun : ((u : Int) == n) = false := by simp; omega
      have hneg : -n = (u : Int) := by rw [HD.out.2.2.2.2]; omega
      clear hv hNl hj hlt
      go_wp2
      go_ret
      exact ⟨rfl, (HF.out.2.alloc HF.out.2.size _).trans (HF.out.1.mono (Nat.le_trans HF.out.2.size (by simp)))⟩
theorem fixes_any (n : Int) (w : World) (hT : Tabs w) (hn : IntOk n) : Calls Tryd.prog 4 #[.int .i64 n] w fun e w' => e = .returned (.bool true) ∧ Below w.heap.size w w' := by
  by_cases h : n > 1152921504606846975 ∨ n < -1152921504606846976
  · exact fixes_bad n w hT h
  · by_cases h0 : 0 ≤ n
    · obtain ⟨u, rfl⟩ : ∃ u : Nat, n = u := ⟨n.toNat, by omega⟩
      exact fixes_pos u w hT (by omega)
    · exact fixes_neg n n.natAbs w hT (by omega) (by omega) (by omega)
end Go.Proofs.YtpejmgellidhbaaDoor
