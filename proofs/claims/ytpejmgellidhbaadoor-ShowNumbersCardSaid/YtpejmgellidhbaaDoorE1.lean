/- Hexadecimal digits: strconv.FormatInt and FormatUint at base 16. -/
import Derived.Test.YtpejmgellidhbaaDoorA2
import Derived.Laws.Bits64b
import Derived.Laws.IdiomStrings
import Derived.Lib.LaidTab
import Derived.Lib.Hide
import Derived.Lib.ItoaMem
import Derived.Outline
import Derived.Shelf.Strconv.Itoa1
namespace Go.Proofs.YtpejmgellidhbaaDoor
open Go.RowKit

def dig (d : Nat) : UInt8 := if d < 10 then UInt8.ofNat (48 + d) else UInt8.ofNat (87 + d)
/-- A number's hexadecimal digits. -/
def hexA (u : Nat) : List UInt8 := if _h : u < 16 then [dig u] else hexA (u / 16) ++ [dig (u % 16)]
  termination_by u
  decreasing_by omega
theorem hexA_small {u : Nat} (h : u < 16) : hexA u = [dig u] := by rw [hexA, dif_pos h]
theorem hexA_big {u : Nat} (h : ¬ u < 16) : hexA u = hexA (u / 16) ++ [dig (u % 16)] := by rw [hexA, dif_neg h]

/-- What the library's tables hold. -/
structure Tabs (w : World) : Prop where
  pow : Lib.TabIs Tryd.prog w "internal/strconv.uint64pow10" .u64 Lib.pow10Tab
  bru : ∃ cs T fr, w.heap[6]? = some (.cells cs T fr) ∧ cs[15]? = some (.int .u8 4)
theorem tab_below {w w' : World} {B : Nat} {n : String} {k : IntKind} {zs : List Int} (h : Lib.TabIs Tryd.prog w n k zs) (hb : Below B w w') (hB : w.heap.size ≤ B) : Lib.TabIs Tryd.prog w' n k zs := by
  unfold Lib.TabIs World.var? at h ⊢
  cases hg : Tryd.prog.globalNamed n with
  | none => rw [hg] at h; simp at h
  | some g =>
    rw [hg] at h
    simp only [Option.bind_some] at h ⊢
    have hlt : g < w.heap.size := by
      rcases Nat.lt_or_ge g w.heap.size with h1 | h1
      · exact h1
      · rw [Array.getElem?_eq_none h1] at h
        simp at h
    rw [hb.block g (by omega)]
    exact h
theorem Tabs.below {w w' : World} {B : Nat} (h : Tabs w) (hb : Below B w w') (hB : w.heap.size ≤ B) : Tabs w' := by
  obtain ⟨cs, T, fr, h1, h2⟩ := h.bru
  exact ⟨tab_below h.pow hb hB, cs, T, fr, blk_below hb h1 (by have := blk_lt h1; omega), h2⟩

set_option maxHeartbeats 400000 in
theorem tz16 (w : World) (h : Tabs w) : Calls Tryd.prog 95 #[.int .u64 16] w fun e w' => e = .returned (.int .i64 4) ∧ w = w' := by
  obtain ⟨cs, T, fr, h1, h2⟩ := h.bru
  have hc : w.cell? ⟨6, 15, none⟩ = some (.int .u8 4) := (bc h1 15).trans h2
  clear h1 h2 h
  have key : IntKind.u64.wrap (bits BinOp.and IntKind.u64 16 (IntKind.u64.wrap (-16)) * 285870213051353865) / 288230376151711744 = 15 := by kernel_rfl
  go_enter Tryd.func95, Tryd.ntmps95
  go_wp2_with (simp only [key])
  go_ret
  exact ⟨rfl, rfl⟩
set_option maxHeartbeats 400000 in
theorem pow16 (w : World) : Calls Tryd.prog 86 #[.int .i64 16] w fun e w' => e = .returned (.bool true) ∧ w = w' := by
  go_enter Tryd.func86, Tryd.ntmps86
  go_wp2
  go_ret
  exact ⟨rfl, rfl⟩
set_option maxHeartbeats 400000 in
theorem tzu16 (w : World) (h : Tabs w) : Calls Tryd.prog 87 #[.int .u64 16] w fun e w' => e = .returned (.int .i64 4) ∧ w = w' := by
  go_enter Tryd.func87, Tryd.ntmps87
  go_wp2_with (go_at_call 95; refine (tz16 _ h).mono ?_; rintro e w' ⟨rfl, rfl⟩)
  go_ret
  exact ⟨rfl, rfl⟩
theorem and15 (u : Nat) (h : u < 18446744073709551616) : bits .and .u64 (u : Int) 15 = ((u % 16 : Nat) : Int) := by
  have := bits_and_u64_nat u 15 h (by omega)
  rw [show ((15 : Nat) : Int) = 15 from rfl] at this
  rw [this, show (15 : Nat) = 2 ^ 4 - 1 from rfl, Nat.and_two_pow_sub_one_eq_mod]
theorem and_15_bound (n : Nat) : n % 16 < 16 := Nat.mod_lt _ (by omega)
/-- What the loop of formatBits has come to: k digits are written. -/
structure BitsAt (w0 wr : World) (ab u0 : Nat) (uv iv : Value) : Prop where
  st : ∃ (u k : Nat) (tail : List UInt8) (cs : Array Value), uv = .int .u64 u ∧ iv = .int .i64 ((65 - k : Nat) : Int) ∧ k ≤ 15 ∧ u < 16 ^ (16 - k) ∧ tail.length = k ∧ hexA u ++ tail = hexA u0 ∧
    wr.heap[ab]? = some (.cells cs 140 (0, 0)) ∧ cs.size = 65 ∧ (∀ j, (h : j < tail.length) → cs[65 - k + j]? = some (.int .u8 tail[j].toNat)) ∧ Below ab w0 wr
theorem BitsAt.next {w0 wr : World} {ab u0 u k i d : Nat} {tail : List UInt8} {cs : Array Value} {b : UInt8} (hk : k ≤ 15) (h16 : 16 ≤ u) (huk : u < 16 ^ (16 - k)) (htl : tail.length = k) (hhex : hexA u ++ tail = hexA u0)
    (hb : wr.heap[ab]? = some (.cells cs 140 (0, 0))) (hcs : cs.size = 65) (hct : ∀ j, (h : j < tail.length) → cs[i + 1 + j]? = some (.int .u8 tail[j].toNat)) (hbel : Below ab w0 wr) (hi : 65 - k = i + 1) (hd : d = u % 16) (hbd : b = dig d) :
    BitsAt w0 (wr.setCell ⟨ab, i, none⟩ (.int .u8 b.toNat)) ab u0 (.int .u64 ((u : Int) / 16)) (.int .i64 i) := by
  have hk15 : k ≤ 14 := by
    rcases Nat.lt_or_ge k 15 with h | h
    · omega
    · have : k = 15 := by omega
      subst this
      simp at huk
      omega
  refine ⟨u / 16, k + 1, dig d :: tail, _, by simp, by rw [show 65 - (k + 1) = i by omega], by omega, ?_, by simp [htl], ?_, hs_same hb, by simpa using hcs, fun j hj => ?_, hbel.setCell (Nat.le_refl _) _⟩
  · rw [show 16 - k = (16 - (k + 1)) + 1 by omega, Nat.pow_succ] at huk
    omega
  · rw [← hhex, hexA_big (u := u) (by omega), ← hd]
    simp
  · rw [show 65 - (k + 1) + j = i + j by omega]
    cases j with
    | zero =>
      rw [Nat.add_zero, Array.getElem?_setIfInBounds_self_of_lt (by omega), hbd]
      rfl
    | succ j =>
      rw [Array.getElem?_setIfInBounds_ne (by omega), show i + (j + 1) = i + 1 + j by omega]
      exact hct j (by simpa using hj)
def digs : ByteArray := ⟨#[48, 49, 50, 51, 52, 53, 54, 55, 56, 57, 97, 98, 99, 100, 101, 102, 103, 104, 105, 106, 107, 108, 109, 110, 111, 112, 113, 114, 115, 116, 117, 118, 119, 120, 121, 122]⟩
theorem dig_all : ∀ i : Fin 16, digs.data[i.val]? = some (dig i.val) := by decide
theorem dig_lit (d : Nat) (h : d < digs.size) (hd : d < 16) : digs[d] = dig d := by
  have h1 := dig_all ⟨d, hd⟩
  have h2 : digs.data[d]? = some digs[d] := Array.getElem?_eq_getElem h
  simp only at h1
  rw [h2] at h1
  exact Option.some.inj h1
set_option maxRecDepth 100000 in
set_option maxHeartbeats 1000000 in
theorem bits16 (u0 : Nat) (w : World) (h : Tabs w) (hu : u0 < 18446744073709551616) :
    Calls Tryd.prog 74 #[.slice none 0 0, .int .u64 u0, .int .i64 16, .bool false, .bool false] w fun e w' => e = .returned (.tuple #[.slice none 0 0, .string ⟨(hexA u0).toArray⟩]) ∧ Below w.heap.size w w' := by
  have HT := Lib.hid h
  clear h
  go_enter Tryd.func74, Tryd.ntmps74
  go_wp2_with (first | (go_at_call 86; refine (pow16 _).mono ?_; rintro e w' ⟨rfl, rfl⟩) | (go_at_call 87; refine (tzu16 _ (HT.out.below ((Below.refl _ _).alloc (Nat.le_refl _) _) (Nat.le_refl _))).mono ?_; rintro e w' ⟨rfl, rfl⟩))
  have hS : BitsAt w (w.alloc (.cells Tryd.zeroCells140 140)) w.heap.size u0 (.int .u64 u0) (.int .i64 65) :=
    ⟨u0, 0, [], Tryd.zeroCells140, rfl, rfl, by omega, by omega, rfl, by simp, ha_new w _, rfl, fun j hj => by simp at hj, (Below.refl _ _).alloc (Nat.le_refl _) _⟩
  have HS := Lib.hid hS
  clear hS
  go_loopw [1, 13] (fun uv iv wr => BitsAt w wr w.heap.size u0 uv iv) (fun uv _ _ => (intOf uv).toNat)
  case atStart => exact HS.out
  case round =>
    obtain ⟨u, k, tail, cs, rfl, rfl, hk, huk, htl, hhex, hb, hcs, hct, hbel⟩ := hrel
    have hu64 : u < 18446744073709551616 := Nat.lt_of_lt_of_le huk (show 16 ^ (16 - k) ≤ 16 ^ 16 from Nat.pow_le_pow_right (by omega) (by omega))
    obtain ⟨i, hi⟩ : ∃ i, 65 - k = i + 1 := ⟨64 - k, by omega⟩
    have hil : i < 65 := by omega
    have hik : 65 - (k + 1) = i := by omega
    rw [hi] at hct ⊢
    obtain ⟨c0, hc0⟩ : ∃ c0, wr.cell? ⟨w.heap.size, i, none⟩ = some c0 := ⟨_, (bc hb i).trans (Array.getElem?_eq_getElem (by omega))⟩
    have hf0 := bf hb i
    have HR := Lib.hid (And.intro hhex (And.intro huk (And.intro hb (And.intro hcs (And.intro hct hbel)))))
    clear hhex huk hb hcs hct hbel HS
    by_cases h16 : 16 ≤ u
    · have hand := and15 u hu64
      obtain ⟨d, hd⟩ : ∃ d, d = u % 16 := ⟨_, rfl⟩
      rw [← hd] at hand
      have hd16 : d < 16 := by omega
      have HD := Lib.hid hd
      clear hd
      go_wp2
      obtain ⟨hhex, huk, hb, hcs, hct, hbel⟩ := HR.out
      exact ⟨BitsAt.next hk h16 huk htl hhex hb hcs hct hbel hi HD.out (dig_lit d _ hd16), by simp [intOf]; omega⟩
    · have hsl : ∀ W, (Instr.sliceAt 140 (.pointer (some ⟨w.heap.size, 0, none⟩)) (some (.int .i64 i)) none none).run Tryd.prog W = .ok (.slice (some ⟨w.heap.size, i, none⟩) (65 - i) (65 - i)) W := fun W => by
        rw [run_sliceAt_array_l W 140 ⟨w.heap.size, 0, none⟩ (by simp [Program.arrayLen, Program.elem, Tryd.underlying140]) .i64 i (by omega) (by simp [Program.arrayLen, Tryd.underlying140]; omega)]
        go_simp
        omega
      have hu16 : u < 16 := by omega
      have hsz : u < digs.size := show u < 36 by omega
      have hcv : (convert 48 9 (.slice (some ⟨w.heap.size, i, none⟩) (65 - i) (65 - i))).run Tryd.prog (wr.setCell ⟨w.heap.size, i, none⟩ (.int .u8 digs[u].toNat)) =
          .ok (.string ⟨(hexA u0).toArray⟩) (wr.setCell ⟨w.heap.size, i, none⟩ (.int .u8 digs[u].toNat)) := by
        obtain ⟨hhex, huk, hb, hcs, hct, hbel⟩ := HR.out
        have hlen : 65 - i = (hexA u0).length := by
          rw [← hhex, hexA_small hu16]
          simp [htl]
          omega
        rw [dig_lit u _ hu16, hlen]
        refine run_convert_bytes_back (P := Tryd.prog) _ 48 9 5 ⟨w.heap.size, i, none⟩ (hexA u0).length (hexA u0) Tryd.underlying48 Tryd.underlying5 Tryd.underlying9 (fun j hj => ?_)
        rw [Lib.add_plain]
        have hb2 := bc (hs_same (i := i) (v := .int .u8 (dig u).toNat) hb) (i + j)
        rw [hb2]
        have e : (hexA u0)[j]? = (dig u :: tail)[j]? := by rw [← hhex, hexA_small hu16]; rfl
        cases j with
        | zero =>
          rw [Nat.add_zero, Array.getElem?_setIfInBounds_self_of_lt (by omega)]
          rw [List.getElem?_eq_getElem hj] at e
          simp at e
          rw [e]
        | succ j =>
          rw [Array.getElem?_setIfInBounds_ne (by omega), show i + (j + 1) = i + 1 + j by omega]
          rw [List.getElem?_eq_getElem hj, List.getElem?_cons_succ] at e
          have hjt : j < tail.length := (List.getElem?_eq_some_iff.1 e.symm).1
          rw [List.getElem?_eq_getElem hjt] at e
          rw [hct j hjt, Option.some.inj e]
      simp only [digs] at hcv
      go_wp2
      go_ret2
      exact ⟨rfl, HR.out.2.2.2.2.2.setCell (Nat.le_refl _) _⟩
set_option maxHeartbeats 400000 in
theorem fmtu16 (u : Nat) (w : World) (h : Tabs w) (hu : u < 18446744073709551616) :
    Calls Tryd.prog 63 #[.int .u64 u, .int .i64 16] w fun e w' => e = .returned (.string ⟨(hexA u).toArray⟩) ∧ Below w.heap.size w w' := by
  have H75 : ∀ W, Below w.heap.size w W → w.heap.size ≤ W.heap.size → Calls Tryd.prog 75 #[.int .u64 u, .int .i64 16] W fun e w' => e = .returned (.string ⟨(hexA u).toArray⟩) ∧ Below W.heap.size W w' := fun W hW _ => by
    have HT := Lib.hid (h.below hW (Nat.le_refl _))
    clear h hW
    go_enter Tryd.func75, Tryd.ntmps75
    go_wp2_with (go_at_call 74; refine (bits16 _ _ HT.out hu).mono ?_; rintro e w' ⟨rfl, hb⟩)
    go_ret
    exact ⟨rfl, hb⟩
  clear h
  go_enter Tryd.func63, Tryd.ntmps63
  go_wp2_with (go_at_call 75; refine (H75 _ (Below.refl _ _) (Nat.le_refl _)).mono ?_; rintro e w' ⟨rfl, hb⟩)
  go_ret
  exact ⟨rfl, hb⟩
set_option maxHeartbeats 400000 in
theorem fmti16 (u : Nat) (w : World) (h : Tabs w) (hu : u ≤ 9223372036854775807) :
    Calls Tryd.prog 51 #[.int .i64 u, .int .i64 16] w fun e w' => e = .returned (.string ⟨(hexA u).toArray⟩) ∧ Below w.heap.size w w' := by
  have H75 : ∀ W, Below w.heap.size w W → w.heap.size ≤ W.heap.size → Calls Tryd.prog 62 #[.int .i64 u, .int .i64 16] W fun e w' => e = .returned (.string ⟨(hexA u).toArray⟩) ∧ Below W.heap.size W w' := fun W hW _ => by
    have HT := Lib.hid (h.below hW (Nat.le_refl _))
    clear h hW
    go_enter Tryd.func62, Tryd.ntmps62
    go_wp2_with (go_at_call 74; refine (bits16 _ _ HT.out (by omega)).mono ?_; rintro e w' ⟨rfl, hb⟩)
    go_ret
    exact ⟨rfl, hb⟩
  clear h
  go_enter Tryd.func51, Tryd.ntmps51
  go_wp2_with (go_at_call 62; refine (H75 _ (Below.refl _ _) (Nat.le_refl _)).mono ?_; rintro e w' ⟨rfl, hb⟩)
  go_ret
  exact ⟨rfl, hb⟩
end Go.Proofs.YtpejmgellidhbaaDoor
