/- Leaves: show.atom and show.leaf. -/
import Derived.Test.YtpejmgellidhbaaDoorE3
import Derived.Test.YtpejmgellidhbaaDoorD2
import Derived.Sort.Grow
namespace Go.Proofs.YtpejmgellidhbaaDoor
open Go.RowKit

def bsOf (l : List UInt8) : ByteArray := ⟨l.toArray⟩
/-- show.atom -/
def atomL (x : Int × Int) : List UInt8 :=
  if x.1 = 1 then Lib.itoa x.2
  else if x.1 = 4 then if 32 < x.2 ∧ x.2 < 127 then [35, 92, UInt8.ofNat x.2.toNat] else [35, 92, 120] ++ Lib.toUpperA (hexA x.2.toNat)
  else if x.2 = 0 then [40, 41] else if x.2 = 1 then [35, 102] else if x.2 = 2 then [35, 116] else if x.2 = 3 then [35, 33, 118, 111, 105, 100]
  else if x.2 = 4 then [35, 33, 98, 114, 111, 107, 101, 110] else [35, 33, 117, 110, 98, 111, 117, 110, 100]
def uOf (n : Int) : Nat := (n % 18446744073709551616).toNat
/-- show.leaf -/
def leafL (nd : Nd) : List UInt8 :=
  if nd.kind = 4 then quotedL nd.raw
  else if nd.kind = 5 then [35, 102, 108, 58] ++ hexL (uOf (rawM nd.raw)) 16
  else if nd.kind = 6 then [35, 60, 99, 108, 111, 115, 117, 114, 101, 32] ++ Lib.itoa (rawM nd.raw) ++ [62]
  else if nd.kind = 7 then [35, 60, 99, 111, 110, 116, 105, 110, 117, 97, 116, 105, 111, 110, 62]
  else if nd.kind = 8 then [35, 60, 119, 101, 97, 107, 62]
  else if nd.kind = 9 then [35, 60, 101, 112, 104, 101, 109, 101, 114, 111, 110, 62]
  else if nd.kind = 10 then [35, 60, 116, 97, 98, 108, 101, 62]
  else if nd.kind = 11 then [35, 60, 102, 114, 97, 109, 101, 62]
  else [35, 60, 111, 98, 106, 101, 99, 116, 62]
theorem below_grow2 (w : World) (k : Nat) (os : Array Obj) : Below w.heap.size w (Sort.grow (w.drewN k) os) :=
  ⟨rfl, rfl, rfl, by show w.heap.size ≤ (w.heap ++ os).size; rw [Array.size_append]; omega, fun j hj => by show (w.heap ++ os)[j]? = _; rw [Array.getElem?_append_left hj]⟩
theorem itoa_any (n : Int) (w : World) (h : Tabs w) (h0 : -9223372036854775808 ≤ n) (h1 : n ≤ 9223372036854775807) :
    Calls Tryd.prog 47 #[.int .i64 n] w fun e w' => e = .returned (.string ⟨(Lib.itoa n).toArray⟩) ∧ Below w.heap.size w w' := by
  refine (Tryd.strconv_Itoa n h0 h1 w h.pow).mono ?_
  rintro e w' ⟨rfl, k, os, rfl⟩
  exact ⟨rfl, below_grow2 _ _ _⟩

theorem encode_ascii (n : Int) (h0 : 0 ≤ n) (h1 : n < 128) : Utf8.encode n = ⟨#[UInt8.ofNat n.toNat]⟩ := by
  have : ∀ i : Fin 128, Utf8.encode (i.val : Int) = ⟨#[UInt8.ofNat i.val]⟩ := by decide
  have h := this ⟨n.toNat, by omega⟩
  simp only at h
  rwa [show ((n.toNat : Nat) : Int) = n by omega] at h
theorem ret_str {a b : List UInt8} (h : a = b) : Ending.returned (.string ⟨a.toArray⟩) = .returned (.string ⟨b.toArray⟩) := by rw [h]
set_option maxRecDepth 100000 in
set_option maxHeartbeats 1000000 in
theorem atom_any (x : Int × Int) (w : World) (h : Tabs w) (hv : validB x.1 x.2 = true) (h2 : x.1 ≠ 2) :
    Calls Tryd.prog 45 #[.agg #[.int .i64 x.1, .int .i64 x.2]] w fun e w' => e = .returned (.string ⟨(atomL x).toArray⟩) ∧ Below w.heap.size w w' := by
  obtain ⟨k, n⟩ := x
  simp only at hv h2 ⊢
  have HT := Lib.hid (h.below ((Below.refl _ _).alloc (Nat.le_refl _) (.cells #[.int .i64 k, .int .i64 n] 27)) (Nat.le_refl _))
  clear h
  by_cases h1 : k = 1
  · subst h1
    have hn : -1152921504606846976 ≤ n ∧ n ≤ 1152921504606846975 := by simpa [validB, fitsB] using hv
    obtain ⟨hn1, hn2⟩ := hn
    clear hv h2
    go_enter Tryd.func45, Tryd.ntmps45
    go_wp2_with (go_at_call 47; refine (itoa_any _ _ HT.out (by omega) (by omega)).mono ?_; rintro e w1 ⟨rfl, hb1⟩)
    go_ret
    exact ⟨ret_str (by simp [atomL]), (((Below.refl _ _).alloc (Nat.le_refl _) _).trans (hb1.mono (by simp)))⟩
  · by_cases h4 : k = 4
    · subst h4
      have hn : 0 ≤ n ∧ n ≤ 1114111 := by
        simp [validB, scalarB] at hv
        omega
      obtain ⟨hn1, hn2⟩ := hn
      clear hv h2
      by_cases hp : 32 < n ∧ n < 127
      · obtain ⟨hp1, hp2⟩ := hp
        have henc := encode_ascii n (by omega) (by omega)
        go_enter Tryd.func45, Tryd.ntmps45
        go_wp2
        go_ret
        refine ⟨?_, (Below.refl _ _).alloc (Nat.le_refl _) _⟩
        have e : atomL (4, n) = [35, 92, UInt8.ofNat n.toNat] := by simp [atomL, hp1, hp2]
        rw [e]
        rfl
      · have e : atomL (4, n) = [35, 92, 120] ++ Lib.toUpperA (hexA n.toNat) := by
          simp only [atomL]
          rw [if_neg (by omega), if_pos trivial, if_neg hp]
        obtain ⟨u, rfl⟩ : ∃ u : Nat, n = u := ⟨n.toNat, by omega⟩
        have hf := fun W (hW : Below (w.heap.size + 1) (w.alloc (.cells #[.int .i64 4, .int .i64 (u : Int)] 27)) W) => fmti16 u W (HT.out.below hW (by simp)) (by omega)
        have hl : (Lib.toUpperA (hexA u)).length ≤ 16 := by
          have := hex16_len (u := u) (by omega)
          simpa [Lib.toUpperA] using this
        have hU : ∀ W, Calls Tryd.prog 50 #[.string ⟨(hexA u).toArray⟩] W fun e w' => e = .returned (.string ⟨(Lib.toUpperA (hexA u)).toArray⟩) ∧ Below W.heap.size W w' := fun W => by
          refine Tryd.strings_ToUpper_ascii _ W ?_ fun j b hb => hexA_ascii u b (List.mem_of_getElem? hb)
          have := hex16_len (u := u) (by omega)
          show (hexA u).toArray.size ≤ _
          simp
          omega
        obtain ⟨n, hsz⟩ : ∃ n, (⟨(Lib.toUpperA (hexA u)).toArray⟩ : ByteArray).size = n := ⟨_, rfl⟩
        have hn16 : n ≤ 16 := by rw [← hsz]; show (Lib.toUpperA (hexA u)).toArray.size ≤ 16; simpa using hl
        have HE := Lib.hid (And.intro e (And.intro hf hU))
        clear e hf hU hl
        by_cases hp1 : 32 < (u : Int)
        · have hp2 : ¬ (u : Int) < 127 := fun e => hp ⟨hp1, e⟩
          clear hp
          go_enter Tryd.func45, Tryd.ntmps45
          go_wp2_with (first | (go_at_call 51; refine (HE.out.2.1 _ (Below.refl _ _)).mono ?_; rintro e w1 ⟨rfl, hb1⟩) | (go_at_call 50; refine (HE.out.2.2 _).mono ?_; rintro e w2 ⟨rfl, hb2⟩))
          go_ret
          refine ⟨?_, ((Below.refl _ _).alloc (Nat.le_refl _) _).trans ((hb1.mono (by simp)).trans (hb2.mono (Nat.le_trans (by simp) hb1.size)))⟩
          rw [HE.out.1]
          exact congrArg Ending.returned (congrArg Value.string (ByteArray.mk_append_mk [35, 92, 120] _))
        · clear hp
          go_enter Tryd.func45, Tryd.ntmps45
          go_wp2_with (first | (go_at_call 51; refine (HE.out.2.1 _ (Below.refl _ _)).mono ?_; rintro e w1 ⟨rfl, hb1⟩) | (go_at_call 50; refine (HE.out.2.2 _).mono ?_; rintro e w2 ⟨rfl, hb2⟩))
          go_ret
          refine ⟨?_, ((Below.refl _ _).alloc (Nat.le_refl _) _).trans ((hb1.mono (by simp)).trans (hb2.mono (Nat.le_trans (by simp) hb1.size)))⟩
          rw [HE.out.1]
          exact congrArg Ending.returned (congrArg Value.string (ByteArray.mk_append_mk [35, 92, 120] _))
    · have h1b : (k == 1) = false := by simpa using h1
      have h4b : (k == 4) = false := by simpa using h4
      clear hv h2
      go_enter Tryd.func45, Tryd.ntmps45
      go_wp2
      all_goals
        go_ret
        refine ⟨ret_str ?_, (Below.refl _ _).alloc (Nat.le_refl _) _⟩
        simp only [beq_iff_eq, beq_eq_false_iff_ne, ne_eq] at *
        simp [atomL, *]
/-- A raw number is one of Go's int. -/
def IntOk (n : Int) : Prop := -9223372036854775808 ≤ n ∧ n ≤ 9223372036854775807
theorem itoa_len (n : Int) (h : IntOk n) : (Lib.itoa n).length ≤ 21 := by
  unfold IntOk at h
  have key : ∀ u : Nat, u < 18446744073709551616 → (Lib.decDigits u).length ≤ 20 := fun u hu => by
    rw [Lib.decDigits_length]
    rcases Nat.eq_zero_or_pos u with h0 | h0
    · subst h0
      rw [Lib.nDigits_small (by omega)]
      omega
    · have := Lib.numDigits_eq u h0 hu
      split at this <;> omega
  unfold Lib.itoa
  split
  · have := key n.natAbs (by omega)
    simp only [List.length_cons]
    omega
  · have := key n.toNat (by omega)
    omega
set_option maxRecDepth 100000 in
set_option maxHeartbeats 1000000 in
theorem leaf_any (nd : Nd) (rv fv ev : Value) (w : World) (h : Tabs w) (hr : RdInts w rv nd.raw) (hl : nd.raw.length ≤ 1000000) (hi : IntOk (rawM nd.raw)) (hf : ∃ A n c, rv = .slice A n c) (hf2 : ∃ A n c, fv = .slice A n c) (hf3 : ∃ A n c, ev = .slice A n c) :
    Calls Tryd.prog 46 #[.agg #[.int .i64 nd.id, .int .i64 nd.kind, rv, fv, ev]] w fun e w' => e = .returned (.string ⟨(leafL nd).toArray⟩) ∧ Below w.heap.size w w' := by
  obtain ⟨rA, rn, rc, rfl⟩ := hf
  obtain ⟨fA, fn, fc, rfl⟩ := hf2
  obtain ⟨eA, en, ec, rfl⟩ := hf3
  have hb0 : Below w.heap.size w (w.alloc (.cells #[.int .i64 nd.id, .int .i64 nd.kind, .slice rA rn rc, .slice fA fn fc, .slice eA en ec] 34)) := (Below.refl _ _).alloc (Nat.le_refl _) _
  have HT := Lib.hid (h.below hb0 (Nat.le_refl _))
  have HR := Lib.hid (hr.below hb0 (Nat.le_refl _))
  clear h hr hb0
  obtain ⟨id, kind, raw, fields⟩ := nd
  simp only at *
  by_cases h4 : kind = 4
  · subst h4
    have e : leafL ⟨id, 4, raw, fields⟩ = quotedL raw := by simp [leafL]
    rw [e]
    go_enter Tryd.func46, Tryd.ntmps46
    go_wp2_with (go_at_call 52; refine (quoted_any _ raw _ HT.out HR.out hl).mono ?_; rintro e w1 ⟨rfl, hb1⟩)
    go_ret
    exact ⟨rfl, (((Below.refl _ _).alloc (Nat.le_refl _) _).trans (hb1.mono (by simp)))⟩
  by_cases h5 : kind = 5
  · subst h5
    have e : leafL ⟨id, 5, raw, fields⟩ = [35, 102, 108, 58] ++ hexL (uOf (rawM raw)) 16 := by simp [leafL]
    have hw : IntKind.u64.wrap (rawM raw) = ((uOf (rawM raw) : Nat) : Int) := by rw [IntKind.wrap_u64, uOf]; omega
    have hul : uOf (rawM raw) < 18446744073709551616 := by unfold uOf; omega
    have hll : (hexL (uOf (rawM raw)) 16).length ≤ 32 := by
      have := hex16_len hul
      simp [hexL, Lib.toUpperA]
      omega
    have HE := Lib.hid e
    clear e
    generalize hm : rawM raw = n at *
    generalize hu : uOf n = u at *
    obtain ⟨z, hsz⟩ : ∃ z, (⟨(hexL u 16).toArray⟩ : ByteArray).size = z := ⟨_, rfl⟩
    have hz : z ≤ 32 := by rw [← hsz]; show (hexL u 16).toArray.size ≤ 32; simpa using hll
    have HM := Lib.hid hm
    clear hm hu hll hi
    go_enter Tryd.func46, Tryd.ntmps46
    go_wp2_with (first | (go_at_call 54; refine (raw_any _ _ _ _ _ raw _ HR.out).mono ?_; rintro e w1 ⟨rfl, hb1⟩; rw [HM.out]) | (go_at_call 53; refine (hex_any u 16 _ (HT.out.below hb1 (by simp)) hul (by omega)).mono ?_; rintro e w2 ⟨rfl, hb2⟩))
    go_ret
    refine ⟨?_, ((Below.refl _ _).alloc (Nat.le_refl _) _).trans ((hb1.mono (by simp)).trans (hb2.mono (Nat.le_trans (by simp) hb1.size)))⟩
    rw [HE.out]
    exact congrArg Ending.returned (congrArg Value.string (ByteArray.mk_append_mk [35, 102, 108, 58] _))
  by_cases h6 : kind = 6
  · subst h6
    have e : leafL ⟨id, 6, raw, fields⟩ = [35, 60, 99, 108, 111, 115, 117, 114, 101, 32] ++ Lib.itoa (rawM raw) ++ [62] := by simp [leafL]
    have hll := itoa_len _ hi
    have HE := Lib.hid e
    have HI := Lib.hid hi
    clear e hi
    obtain ⟨l, hle⟩ : ∃ l, l = Lib.itoa (rawM raw) := ⟨_, rfl⟩
    rw [← hle] at hll
    have HL := Lib.hid hle
    clear hle
    obtain ⟨z, hsz⟩ : ∃ z, (⟨l.toArray⟩ : ByteArray).size = z := ⟨_, rfl⟩
    have hz : z ≤ 21 := by rw [← hsz]; show l.toArray.size ≤ 21; simpa using hll
    clear hll
    have hsz2 : ((⟨#[35, 60, 99, 108, 111, 115, 117, 114, 101, 32]⟩ : ByteArray) ++ ⟨l.toArray⟩).size = 10 + z := by rw [ByteArray.size_append, hsz]; rfl
    go_enter Tryd.func46, Tryd.ntmps46
    go_wp2_with (first | (go_at_call 54; refine (raw_any _ _ _ _ _ raw _ HR.out).mono ?_; rintro e w1 ⟨rfl, hb1⟩) | (go_at_call 47; refine (itoa_any (rawM raw) _ (HT.out.below hb1 (by simp)) HI.out.1 HI.out.2).mono ?_; rintro e w2 ⟨rfl, hb2⟩; rw [← HL.out]))
    go_ret
    refine ⟨?_, ((Below.refl _ _).alloc (Nat.le_refl _) _).trans ((hb1.mono (by simp)).trans (hb2.mono (Nat.le_trans (by simp) hb1.size)))⟩
    rw [HE.out, ← HL.out]
    exact congrArg Ending.returned (congrArg Value.string ((congrArg (· ++ (⟨#[62]⟩ : ByteArray)) (ByteArray.mk_append_mk [35, 60, 99, 108, 111, 115, 117, 114, 101, 32] l)).trans (ByteArray.mk_append_mk _ [62])))
  have h4b : (kind == 4) = false := by simpa using h4
  have h5b : (kind == 5) = false := by simpa using h5
  have h6b : (kind == 6) = false := by simpa using h6
  clear hi
  go_enter Tryd.func46, Tryd.ntmps46
  go_wp2
  all_goals
    go_ret
    refine ⟨ret_str ?_, (Below.refl _ _).alloc (Nat.le_refl _) _⟩
    simp only [beq_iff_eq, beq_eq_false_iff_ne, ne_eq] at *
    simp [leafL, *]
end Go.Proofs.YtpejmgellidhbaaDoor
