/- A text's bytes between quotes: show.quoted. -/
import Derived.Test.YtpejmgellidhbaaDoorE2
namespace Go.Proofs.YtpejmgellidhbaaDoor
open Go.RowKit

/-- A byte of a text, told. -/
def quoteB (y : Nat) : List UInt8 := if y = 34 ∨ y = 92 then [92, UInt8.ofNat y] else if 32 ≤ y ∧ y < 127 then [UInt8.ofNat y] else 92 :: 120 :: (hexL y 2 ++ [59])
def byteOf (n : Int) : Nat := (n % 256).toNat
def quoteM (raw : List Int) : List UInt8 := raw.flatMap fun n => quoteB (byteOf n)
def quotedL (raw : List Int) : List UInt8 := 34 :: (quoteM raw ++ [34])
theorem byteOf_lt (n : Int) : byteOf n < 256 := by unfold byteOf; omega
theorem hexL2_len {y : Nat} (h : y < 256) : (hexL y 2).length ≤ 2 := by
  have := hexA_length 2 y (by omega)
  simp [hexL, Lib.toUpperA]
  omega
theorem quoteB_len {y : Nat} (h : y < 256) : (quoteB y).length ≤ 5 := by
  have := hexL2_len h
  unfold quoteB
  split
  · simp
  · split
    · simp
    · simp
      omega
theorem quoteM_len (raw : List Int) : (quoteM raw).length ≤ 5 * raw.length := by
  induction raw with
  | nil => simp [quoteM]
  | cons n r ih =>
    have := quoteB_len (byteOf_lt n)
    unfold quoteM at ih ⊢
    simp only [List.flatMap_cons, List.length_append, List.length_cons]
    omega
theorem quoteM_snoc (raw : List Int) (k : Nat) (h : k < raw.length) : quoteM (raw.take (k + 1)) = quoteM (raw.take k) ++ quoteB (byteOf raw[k]) := by
  unfold quoteM
  rw [List.take_succ_eq_append_getElem h, List.flatMap_append]
  simp
/-- What quoted has come to. -/
structure QuoteAt (w wr : World) (raw : List Int) (iv : Value) : Prop where
  st : ∃ k : Nat, k ≤ raw.length ∧ iv = .int .i64 k ∧ Lib.IsBuilderF 74 5 w.heap.size w.heap.size (Lib.byteCells (34 :: quoteM (raw.take k))) wr ∧ Below w.heap.size w wr
theorem bytes1 (y : Nat) (h : y < 256) : [Value.int .u8 (y : Int)] = Lib.byteCells [UInt8.ofNat y] := by
  simp [Lib.byteCells, UInt8.toNat_ofNat', Nat.mod_eq_of_lt h]
theorem rd3 (w : World) (a b c : ByteArray) : RdStrs (w.alloc (.cells #[.string a, .string b, .string c] 9)) (.slice (some ⟨w.heap.size, 0, none⟩) 3 3) [a, b, c] := by
  refine ⟨_, 3, rfl, _, ha_new w _, fun j hj => ?_⟩
  simp only [List.length_cons, List.length_nil] at hj
  match j, hj with
  | 0, _ => rfl
  | 1, _ => rfl
  | 2, _ => rfl
set_option maxRecDepth 100000 in
set_option maxHeartbeats 4000000 in
theorem quoted_any (v : Value) (raw : List Int) (w : World) (ht : Tabs w) (h : RdInts w v raw) (hl : raw.length ≤ 1000000) :
    Calls Tryd.prog 52 #[v] w fun e w' => e = .returned (.string ⟨(quotedL raw).toArray⟩) ∧ Below w.heap.size w w' := by
  obtain ⟨A, c, rfl, _, hr⟩ := h
  have HR := Lib.hid hr
  have HT := Lib.hid ht
  have hw1 : ∀ W, W = w.alloc (.cells #[.pointer none, .slice none 0 0] 74) → Calls Tryd.prog 59 #[.pointer (some ⟨w.heap.size, 0, none⟩), .int .u8 34] W fun e w' => e = .returned .nilIface ∧ (Lib.BuilderAtF 74 5 w.heap.size w.heap.size (.pointer (some ⟨w.heap.size, 0, none⟩)) ([] ++ [.int .u8 34]) w' ∧ Below w.heap.size w w') := fun W e => by
    subst e
    refine (Tryd.wb_k w.heap.size w.heap.size [] 34 _ (isBuilder_new (Nat.le_refl _)) (by simp) (by simp)).mono ?_
    rintro e w' ⟨rfl, h1, h2, _⟩
    exact ⟨rfl, h1, ((Below.refl _ _).alloc (Nat.le_refl _) _).trans h2⟩
  have HW := Lib.hid hw1
  clear hr ht hw1
  go_enter Tryd.func52, Tryd.ntmps52
  go_wp2_with (go_at_call 59; refine (HW.out _ rfl).mono ?_; rintro e w1 ⟨rfl, h1, hb1⟩)
  have hS : QuoteAt w w1 raw (.int .i64 0) := ⟨0, Nat.zero_le _, rfl, .inr (by simpa [quoteM, Lib.byteCells] using h1), hb1⟩
  have HS := Lib.hid hS
  clear hS h1 hb1 HW
  go_loopw [5, 6, 10] (fun _ _ iv wr => QuoteAt w wr raw iv) (fun _ _ iv _ => raw.length - (intOf iv).toNat)
  case atStart => exact HS.out
  case round =>
    obtain ⟨k, hk, rfl, hI, hbel⟩ := hrel
    have hlen : (34 :: quoteM (raw.take k)).length ≤ 5000001 := by
      have := quoteM_len (raw.take k)
      simp only [List.length_cons, List.length_take] at this ⊢
      omega
    have hBs := hbel.size
    by_cases hlt : k < raw.length
    · obtain ⟨b, o, rfl, hbl, hrc⟩ := HR.out (by omega)
      have hc := hrc k hlt
      rw [← hbel.cell (p := ⟨b, o + k, none⟩) hbl] at hc
      have hsn := quoteM_snoc raw k hlt
      have hwr : IntKind.u8.wrap raw[k] = ((byteOf raw[k] : Nat) : Int) := by
        simp only [byteOf, IntKind.wrap_u8]
        omega
      have hy := byteOf_lt raw[k]
      generalize byteOf raw[k] = y at *
      generalize raw[k] = n at *
      have hstep : ∀ (l : List UInt8) (W : World) (c : Int) (x : UInt8), Lib.IsBuilderF 74 5 w.heap.size w.heap.size (Lib.byteCells l) W → l.length ≤ 5000010 → w.heap.size ≤ W.heap.size → [Value.int .u8 c] = Lib.byteCells [x] →
          Calls Tryd.prog 59 #[.pointer (some ⟨w.heap.size, 0, none⟩), .int .u8 c] W fun e w' => e = .returned .nilIface ∧ Lib.IsBuilderF 74 5 w.heap.size w.heap.size (Lib.byteCells (l ++ [x])) w' ∧ Below w.heap.size W w' := fun l W c x hI hl hW hx => by
        refine (Tryd.wb_k w.heap.size w.heap.size _ c W hI (by rw [Lib.byteCells_length]; omega) hW).mono ?_
        rintro e w' ⟨rfl, h1, h2, _⟩
        refine ⟨rfl, ?_, h2⟩
        rw [Lib.byteCells_append, ← hx]
        exact .inr h1
      have HF := Lib.hid (And.intro hI (And.intro hbel (And.intro hsn (And.intro hlen hstep))))
      clear hI hbel hsn hlen hstep hrc
      by_cases hq : y = 34 ∨ y = 92
      · have hqb : quoteB y = [92, UInt8.ofNat y] := if_pos hq
        have hy34 : ((y : Int) == 34) = decide (y = 34) := by
          rw [Bool.eq_iff_iff]
          simp
          omega
        have HQ := Lib.hid hqb
        clear hqb hy34
        have hone : [Value.int .u8 (y : Int)] = Lib.byteCells [UInt8.ofNat y] := bytes1 y hy
        have HO := Lib.hid hone
        clear hone
        rcases hq with rfl | rfl
        all_goals
          go_wp2_with (fail)
          refine (HF.out.2.2.2.2 _ _ 92 92 HF.out.1 (by have := HF.out.2.2.2.1; omega) hBs rfl).mono ?_
          rintro e w2 ⟨rfl, h2, hb2⟩
          have hs2 : w.heap.size ≤ w2.heap.size := Nat.le_trans hBs hb2.size
          have H2 := Lib.hid (And.intro h2 hb2)
          clear h2 hb2
          go_wp2_with (fail)
          refine (HF.out.2.2.2.2 _ _ _ _ H2.out.1 (by have := HF.out.2.2.2.1; rw [List.length_append]; simp only [List.length_cons, List.length_nil] at *; omega) hs2 HO.out).mono ?_
          rintro e w3 ⟨rfl, h3, hb3⟩
          have H3 := Lib.hid (And.intro h3 hb3)
          clear h3 hb3
          go_wp2_with (fail)
          refine ⟨⟨k + 1, by omega, by go_num, ?_, (HF.out.2.1.trans H2.out.2).trans H3.out.2⟩, by simp [intOf]; omega⟩
          have e := H3.out.1
          rw [HF.out.2.2.1, HQ.out]
          simpa using e
      · have hq34 : ((y : Int) == 34) = false := by simp; omega
        have hq92 : ((y : Int) == 92) = false := by simp; omega
        by_cases hp : 32 ≤ y ∧ y < 127
        · have hqb : quoteB y = [UInt8.ofNat y] := by unfold quoteB; rw [if_neg hq, if_pos hp]
          have HQ := Lib.hid hqb
          have HO := Lib.hid (bytes1 y hy)
          obtain ⟨hp1, hp2⟩ := hp
          clear hqb hq
          go_wp2_with (fail)
          refine (HF.out.2.2.2.2 _ _ _ _ HF.out.1 (by have := HF.out.2.2.2.1; omega) hBs HO.out).mono ?_
          rintro e w2 ⟨rfl, h2, hb2⟩
          have H2 := Lib.hid (And.intro h2 hb2)
          clear h2 hb2
          go_wp2_with (fail)
          refine ⟨⟨k + 1, by omega, by go_num, ?_, HF.out.2.1.trans H2.out.2⟩, by simp [intOf]; omega⟩
          have e := H2.out.1
          rw [HF.out.2.2.1, HQ.out]
          simpa using e
        · have hqb : quoteB y = 92 :: 120 :: (hexL y 2 ++ [59]) := by unfold quoteB; rw [if_neg hq, if_neg hp]
          have HQ := Lib.hid hqb
          have hhx : ∀ W, W = wr → Calls Tryd.prog 53 #[.int .u64 y, .int .i64 2] W fun e w' => e = .returned (.string ⟨(hexL y 2).toArray⟩) ∧ Below wr.heap.size wr w' := fun W e => by
            subst e
            exact hex_any y 2 W (HT.out.below HF.out.2.1 (Nat.le_refl _)) (by omega) (by omega)
          have HH := Lib.hid hhx
          have hh2 := hexL2_len hy
          have HH2 := Lib.hid hh2
          clear hqb hq hhx hh2
          by_cases hp1 : 32 ≤ y
          all_goals
            go_wp2_with (go_at_call 53; refine (HH.out _ rfl).mono ?_; rintro e w2 ⟨rfl, hb2⟩)
            have hs2 : w.heap.size ≤ w2.heap.size := Nat.le_trans hBs hb2.size
            have hI2 := isBuilder_below HF.out.1 (hb2.alloc hb2.size (.cells #[.string ⟨#[92, 120]⟩, .string ⟨(hexL y 2).toArray⟩, .string ⟨#[59]⟩] 9))
            refine (say_any w.heap.size w.heap.size _ _ [⟨#[92, 120]⟩, ⟨(hexL y 2).toArray⟩, ⟨#[59]⟩] _ hI2 (by simp; omega) (rd3 _ _ _ _) (by simp) (by have := HF.out.2.2.2.1; have := HH2.out; simp [joinS] at *; omega)).mono ?_
            rintro e w3 ⟨rfl, h3, hb3, _⟩
            have hb23 : Below w.heap.size w w3 := ((HF.out.2.1.trans (hb2.mono hBs)).alloc hs2 _).trans hb3
            have H3 := Lib.hid (And.intro h3 hb23)
            clear h3 hb3 hb23 hb2 hI2
            go_wp2_with (fail)
            refine ⟨⟨k + 1, by omega, by go_num, ?_, H3.out.2⟩, by simp [intOf]; omega⟩
            have e := H3.out.1
            rw [HF.out.2.2.1, HQ.out]
            simpa [joinS] using e
    · have hkk : k = raw.length := by omega
      subst hkk
      have h59 : ∀ W, W = wr → Calls Tryd.prog 59 #[.pointer (some ⟨w.heap.size, 0, none⟩), .int .u8 34] W fun e w' => e = .returned .nilIface ∧ Lib.IsBuilderF 74 5 w.heap.size w.heap.size (Lib.byteCells (quotedL raw)) w' ∧ Below w.heap.size w w' := fun W e => by
        subst e
        refine (Tryd.wb_k w.heap.size w.heap.size _ 34 W hI (by rw [Lib.byteCells_length]; omega) hBs).mono ?_
        rintro e w' ⟨rfl, h1, h2, _⟩
        refine ⟨rfl, .inr ?_, hbel.trans h2⟩
        rw [List.take_length] at h1
        have e : Lib.byteCells (34 :: quoteM raw) ++ [Value.int .u8 34] = Lib.byteCells (quotedL raw) := by simp [quotedL, Lib.byteCells]
        rw [e] at h1
        exact h1
      have HF := Lib.hid h59
      clear hI hbel h59 hlen
      go_wp2_with (first | (go_at_call 59; refine (HF.out _ rfl).mono ?_; rintro e w2 ⟨rfl, h2, hb2⟩) | (go_at_call 32; refine (Tryd.str_k w.heap.size w.heap.size _ _ h2 hb2.size).mono ?_; rintro e w3 ⟨rfl, _, hb3, _⟩))
      go_ret
      exact ⟨rfl, hb2.trans hb3⟩
end Go.Proofs.YtpejmgellidhbaaDoor
