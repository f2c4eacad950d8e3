/- hex, and the builder's steps: say, quoted. -/
import Derived.Test.YtpejmgellidhbaaDoorE1
import Derived.Test.YtpejmgellidhbaaDoorS1
import Derived.Laws.Concat
import Derived.Lib.SmallJoins
namespace Go.Proofs.YtpejmgellidhbaaDoor
open Go.RowKit

theorem hexA_length : ∀ (k u : Nat), u < 16 ^ k → (hexA u).length ≤ max k 1
  | 0, u, h => by
    have : u = 0 := by simp at h; omega
    subst this
    rw [hexA_small (by omega)]
    simp
  | k + 1, u, h => by
    by_cases h16 : u < 16
    · rw [hexA_small h16]
      simp
    · rw [hexA_big h16]
      have := hexA_length k (u / 16) (by rw [Nat.pow_succ] at h; omega)
      have hk : k ≠ 0 := by
        intro e
        subst e
        simp at h
        omega
      simp only [List.length_append, List.length_cons, List.length_nil]
      omega
theorem dig_ascii (d : Nat) (h : d < 16) : (dig d).toNat < 128 := by
  have : ∀ i : Fin 16, (dig i.val).toNat < 128 := by decide
  exact this ⟨d, h⟩
theorem hexA_ascii (u : Nat) : ∀ b ∈ hexA u, b.toNat < 128 := by
  induction u using hexA.induct with
  | case1 u h =>
    rw [hexA_small h]
    intro b hb
    simp at hb
    subst hb
    exact dig_ascii u h
  | case2 u h ih =>
    rw [hexA_big h]
    intro b hb
    rcases List.mem_append.1 hb with hb | hb
    · exact ih b hb
    · simp at hb
      subst hb
      exact dig_ascii _ (by omega)
theorem repeat48 (n : Nat) : Lib.repeatL [48] n = List.replicate n 48 := by
  induction n with
  | zero => rfl
  | succ n ih => simp [Lib.repeatL, ih, List.replicate_succ]
/-- show.hex -/
def hexL (u d : Nat) : List UInt8 := List.replicate (d - (hexA u).length) 48 ++ Lib.toUpperA (hexA u)
theorem hex16_len {u : Nat} (hu : u < 18446744073709551616) : (hexA u).length ≤ 16 := by
  have := hexA_length 16 u (by omega)
  omega
set_option maxHeartbeats 400000 in
theorem hex_any (u d : Nat) (w : World) (h : Tabs w) (hu : u < 18446744073709551616) (hd : d ≤ 16) :
    Calls Tryd.prog 53 #[.int .u64 u, .int .i64 d] w fun e w' => e = .returned (.string ⟨(hexL u d).toArray⟩) ∧ Below w.heap.size w w' := by
  have hl := hex16_len hu
  have hasc : ∀ (j : Nat) (b : UInt8), (⟨(hexA u).toArray⟩ : ByteArray).data.toList[j]? = some b → b.toNat < 128 := fun j b hb => hexA_ascii u b (List.mem_of_getElem? hb)
  have hup : (Lib.toUpperA (hexA u)).length = (hexA u).length := by simp [Lib.toUpperA]
  have hsz : (⟨(hexA u).toArray⟩ : ByteArray).size ≤ 140737488355328 := by show (hexA u).toArray.size ≤ _; simp; omega
  have hsz2 : (⟨(Lib.toUpperA (hexA u)).toArray⟩ : ByteArray).size = (hexA u).length := by show (Lib.toUpperA (hexA u)).toArray.size = _; simp [hup]
  have hU : ∀ W, Calls Tryd.prog 50 #[.string ⟨(hexA u).toArray⟩] W fun e w' => e = .returned (.string ⟨(Lib.toUpperA (hexA u)).toArray⟩) ∧ Below W.heap.size W w' := fun W => Tryd.strings_ToUpper_ascii _ W hsz hasc
  have HA := Lib.hid (And.intro hU h)
  generalize hn : (hexA u).length = n at hl hsz2
  have HN := Lib.hid hn
  clear hasc hsz h hn hup hU
  have hR : ∀ W, Calls Tryd.prog 64 #[.string ⟨#[48]⟩, .int .i64 (max ((d : Int) - n) 0)] W fun e w' => e = .returned (.string ⟨(List.replicate (d - n) 48).toArray⟩) ∧ Below W.heap.size W w' := fun W => by
    have := Tryd.strings_Repeat ⟨#[48]⟩ (d - n) W (by omega) (by show 1 * (d - n) ≤ _; omega)
    rw [show ((d - n : Nat) : Int) = max ((d : Int) - n) 0 by omega] at this
    refine this.mono ?_
    rintro e w' ⟨rfl, hb⟩
    exact ⟨by rw [show (⟨#[48]⟩ : ByteArray).data.toList = [48] from rfl, repeat48], hb⟩
  go_enter Tryd.func53, Tryd.ntmps53
  go_wp2_with (first | (go_at_call 63; refine (fmtu16 u _ HA.out.2 hu).mono ?_; rintro e w1 ⟨rfl, hb1⟩) | (go_at_call 50; refine (HA.out.1 _).mono ?_; rintro e w2 ⟨rfl, hb2⟩) | (go_at_call 64; refine (hR _).mono ?_; rintro e w3 ⟨rfl, hb3⟩))
  go_ret
  refine ⟨?_, (hb1.trans (hb2.mono hb1.size)).trans (hb3.mono (Nat.le_trans hb1.size hb2.size))⟩
  rw [ByteArray.mk_append_mk, hexL, HN.out, Array.toList_replicate]
  rfl
/-! The builder. -/
theorem isBuilder_below {B b : Nat} {bs : List Value} {w w' : World} (h : Lib.IsBuilderF 74 5 B b bs w) (hb : Below w.heap.size w w') : Lib.IsBuilderF 74 5 B b bs w' := by
  have key : ∀ p, Lib.BuilderAtF 74 5 B b p bs w → Lib.BuilderAtF 74 5 B b p bs w' := fun p h => by
    obtain ⟨hB, v, hbk, hown, hne⟩ := h
    exact ⟨hB, v, blk_below hb hbk (blk_lt hbk), hown.kept (row := none) ⟨hb.os, hb.tape, hb.output, hb.size, fun k hk _ => hb.block k hk⟩ (by cases hq : v.ownBlock <;> simp), hne⟩
  exact h.elim (fun h => .inl (key _ h)) fun h => .inr (key _ h)
theorem isBuilder_new {B : Nat} {w : World} (hB : B ≤ w.heap.size) : Lib.IsBuilderF 74 5 B w.heap.size [] (w.alloc (.cells #[.pointer none, .slice none 0 0] 74)) :=
  .inl ⟨hB, _, ha_new w _, World.ownsRowF_nil _ _ _ _, by simp [Value.ownBlock]⟩
theorem isBuilder_blk {B b : Nat} {bs : List Value} {w : World} (h : Lib.IsBuilderF 74 5 B b bs w) : B ≤ b ∧ ∃ cs, w.heap[b]? = some (.cells cs 74 (0, 0)) := by
  rcases h with ⟨hB, v, hb, _⟩ | ⟨hB, v, hb, _⟩
  · exact ⟨hB, _, hb⟩
  · exact ⟨hB, _, hb⟩
/-- A slice of strings reads as these. -/
def RdStrs (w : World) (v : Value) (xs : List ByteArray) : Prop :=
  ∃ g c, v = .slice (some ⟨g, 0, none⟩) xs.length c ∧ ∃ cs, w.heap[g]? = some (.cells cs 9 (0, 0)) ∧ ∀ j, (h : j < xs.length) → cs[j]? = some (.string xs[j])
def joinS (xs : List ByteArray) : List UInt8 := xs.flatMap fun s => s.data.toList
theorem joinS_take_succ (xs : List ByteArray) (k : Nat) (h : k < xs.length) : joinS (xs.take (k + 1)) = joinS (xs.take k) ++ xs[k].data.toList := by
  unfold joinS
  rw [List.take_succ_eq_append_getElem h, List.flatMap_append]
  simp
/-- What say has come to. -/
structure SayAt (w wr : World) (B b : Nat) (bs : List UInt8) (v : Value) (xs : List ByteArray) (iv : Value) : Prop where
  st : ∃ k : Nat, k ≤ xs.length ∧ iv = .int .i64 k ∧ Lib.IsBuilderF 74 5 B b (Lib.byteCells (bs ++ joinS (xs.take k))) wr ∧ Below B w wr ∧ Lib.OthersKept 5 (some b) w wr
theorem joinS_take_le (xs : List ByteArray) (k : Nat) : (joinS (xs.take k)).length ≤ (joinS xs).length := by
  have : joinS xs = joinS (xs.take k) ++ joinS (xs.drop k) := by
    unfold joinS
    rw [← List.flatMap_append, List.take_append_drop]
  rw [this, List.length_append]
  omega
set_option maxHeartbeats 1000000 in
theorem say_any (B b : Nat) (bs : List UInt8) (v : Value) (xs : List ByteArray) (w : World) (hI : Lib.IsBuilderF 74 5 B b (Lib.byteCells bs) w) (hB : B ≤ w.heap.size) (hv : RdStrs w v xs) (hx : xs.length ≤ 1000000)
    (hlen : bs.length + (joinS xs).length ≤ 140737488355328) :
    Calls Tryd.prog 38 #[.pointer (some ⟨b, 0, none⟩), v] w fun e w' => e = .returned (.tuple #[]) ∧ Lib.IsBuilderF 74 5 B b (Lib.byteCells (bs ++ joinS xs)) w' ∧ Below B w w' ∧ Lib.OthersKept 5 (some b) w w' := by
  obtain ⟨g, c, rfl, cs, hg, hcs⟩ := hv
  have hgb : g ≠ b := by
    obtain ⟨_, cs', hb⟩ := isBuilder_blk hI
    intro e
    subst e
    rw [hb] at hg
    simp at hg
  have hS : SayAt w w B b bs (.slice (some ⟨g, 0, none⟩) xs.length c) xs (.int .i64 0) := ⟨0, Nat.zero_le _, rfl, by simpa [joinS] using hI, Below.refl _ _, Lib.OthersKept.refl _ _ _⟩
  have HS := Lib.hid hS
  have HG := Lib.hid (And.intro hg hcs)
  have HL := Lib.hid hlen
  clear hI hg hcs hS hlen
  go_enter Tryd.func38, Tryd.ntmps38
  go_wp2_with fail
  go_loopw [5, 8] (fun _ iv wr => SayAt w wr B b bs (.slice (some ⟨g, 0, none⟩) xs.length c) xs iv) (fun _ iv _ => xs.length - (intOf iv).toNat)
  case atStart => exact HS.out
  case round =>
    obtain ⟨k, hk, rfl, hI, hbel, hoth⟩ := hrel
    have hgr := hoth g _ HG.out.1 (by simpa using hgb) (by simp)
    by_cases hlt : k < xs.length
    · have hc : wr.cell? ⟨g, k, none⟩ = some (.string xs[k]) := (bc hgr k).trans (HG.out.2 k hlt)
      obtain ⟨s, hs⟩ : ∃ s, s = xs[k] := ⟨_, rfl⟩
      rw [← hs] at hc
      have hj := joinS_take_succ xs k hlt
      rw [← hs] at hj
      have hle := joinS_take_le xs (k + 1)
      have hle2 : (bs ++ joinS (xs.take k)).length + s.size ≤ 140737488355328 := by
        have := HL.out
        have e : s.size = s.data.toList.length := by rw [Array.length_toList]; rfl
        rw [hj, List.length_append] at hle
        rw [List.length_append, e]
        omega
      have hW : ∀ W, W = wr → Calls Tryd.prog 44 #[.pointer (some ⟨b, 0, none⟩), .string s] W fun e w' => e = .returned (.tuple #[.int .i64 s.size, .nilIface]) ∧ (Lib.BuilderAtF 74 5 B b (.pointer (some ⟨b, 0, none⟩)) (Lib.byteCells (bs ++ joinS (xs.take k)) ++ Lib.byteCells s.data.toList) w' ∧ Below B wr w' ∧ Lib.OthersKept 5 (some b) wr w') := fun W e => by
        subst e
        exact Tryd.ws_k B b _ s W hI (by rw [Lib.byteCells_length]; exact hle2) (Nat.le_trans hB hbel.size)
      have HW := Lib.hid hW
      have HF := Lib.hid (And.intro hbel (And.intro hoth hj))
      clear hI hbel hoth hgr hs hj hle hle2 hW
      go_wp2_with (go_at_call 44; refine (HW.out _ rfl).mono ?_; rintro e w1 ⟨rfl, h1, hb1, ho1⟩)
      refine ⟨⟨k + 1, by omega, by go_num, ?_, HF.out.1.trans hb1, HF.out.2.1.trans ho1⟩, by simp [intOf]; omega⟩
      rw [HF.out.2.2, ← List.append_assoc, Lib.byteCells_append]
      exact .inr h1
    · have hkk : k = xs.length := by omega
      subst hkk
      have HF := Lib.hid (And.intro hI (And.intro hbel hoth))
      clear hI hbel hoth hgr
      go_wp2_with fail
      go_end0
      obtain ⟨h1, h2, h3⟩ := HF.out
      rw [List.take_length] at h1
      exact ⟨rfl, h1, h2, h3⟩
end Go.Proofs.YtpejmgellidhbaaDoor
