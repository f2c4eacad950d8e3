/- The map of a walk: from numbers to the places of what was met: a look-up, an insertion. -/
import Derived.Test.YtpejmgellidhbaaDoorA5
import Derived.MapKept
namespace Go.Proofs.YtpejmgellidhbaaDoor
open Go.RowKit Go.MapKept

/-- What stands in the map: a number, and the block to which its pointer leads. -/
def mapEs (ks : List (Int × Nat)) (i : Nat) : List MapEntry :=
  match ks with
  | [] => []
  | x :: r => { key := .int .i64 x.1, val := .pointer (some ⟨x.2, 0, none⟩), born := i } :: mapEs r (i + 1)
def mapAt (ks : List (Int × Nat)) (n : Int) : Option Nat := (ks.find? fun x => x.1 == n).map (·.2)
def ptrOf : Option Nat → Value
  | some b => .pointer (some ⟨b, 0, none⟩)
  | none => .pointer none

theorem findNow_es : ∀ (ks : List (Int × Nat)) (i j : Nat) (n : Int),
    (mapAt ks n = none → Instr.findNow (.int .i64) (.int .i64 n) (mapEs ks i) j = some none) ∧
    (∀ b, mapAt ks n = some b → ∃ q, Instr.findNow (.int .i64) (.int .i64 n) (mapEs ks i) j = some (some (q, .pointer (some ⟨b, 0, none⟩))))
  | [], i, j, n => by simp [mapAt, mapEs, Instr.findNow]
  | x :: r, i, j, n => by
    have ih := findNow_es r (i + 1) (j + 1) n
    by_cases h : x.1 = n
    · constructor
      · simp [mapAt, h]
      · intro b hb
        simp [mapAt, h] at hb
        exact ⟨j, by simp [mapEs, Instr.findNow, Instr.sameNow, h, hb]⟩
    · have hm : mapAt (x :: r) n = mapAt r n := by simp [mapAt, h]
      have hf : Instr.findNow (.int .i64) (.int .i64 n) (mapEs (x :: r) i) j = Instr.findNow (.int .i64) (.int .i64 n) (mapEs r (i + 1)) (j + 1) := by
        have h2 : (n == x.1) = false := by simpa using fun e => h e.symm
        simp only [mapEs, Instr.findNow, Instr.sameNow, if_true, h2]
      rw [hm, hf]
      exact ih

theorem zero80 (w : World) : (zeroValue 80).run Tryd.prog w = .ok (.pointer none) w := by kernel_rfl
theorem run_lookup67 {w : World} {m clk : Nat} {es : Array MapEntry} {ks : List (Int × Nat)} {i : Nat} (hm : w.heap[m]? = some (.map es clk)) (he : es.toList = mapEs ks i) (n : Int) :
    (Instr.lookup 67 (.map (some m)) (.int .i64 n) false).run Tryd.prog w = .ok (ptrOf (mapAt ks n)) w := by
  have hf := findNow_es ks i 0 n
  have hc : (Instr.checkKey es.isEmpty 10000 3 (.int .i64 n)).run Tryd.prog w = .ok () w := run_checkKey (k := .int .i64 n) Tryd.underlying3 (by simp [IsKey]) es.isEmpty 9999
  have hg := Go.MapKept.run_getObj_map (P := Tryd.prog) hm
  cases hk : mapAt ks n with
  | none =>
    have h1 := hf.1 hk
    rw [← he] at h1
    have h2 := run_findKey (P := Tryd.prog) (w := w) (kt := 3) Tryd.underlying3 h1
    simp [Instr.lookup, run_underlying Tryd.underlying67, hg, hc, h2, Result.andThen, ptrOf]
  | some b =>
    obtain ⟨q, h1⟩ := hf.2 b hk
    rw [← he] at h1
    have h2 := run_findKey (P := Tryd.prog) (w := w) (kt := 3) Tryd.underlying3 h1
    simp [Instr.lookup, run_underlying Tryd.underlying67, hg, hc, h2, Result.andThen, ptrOf]

theorem mapEs_append : ∀ (ks : List (Int × Nat)) (i : Nat) (n : Int) (b : Nat), mapEs (ks ++ [(n, b)]) i = mapEs ks i ++ [{ key := .int .i64 n, val := .pointer (some ⟨b, 0, none⟩), born := i + ks.length }]
  | [], i, n, b => by simp [mapEs]
  | x :: r, i, n, b => by
    simp only [List.cons_append, mapEs, mapEs_append r (i + 1) n b, List.length_cons]
    rw [show i + 1 + r.length = i + (r.length + 1) by omega]

/-- What is stored at a number that is not there yet. -/
theorem run_update67 {w : World} {m : Nat} {es : Array MapEntry} {ks : List (Int × Nat)} (hm : w.heap[m]? = some (.map es ks.length)) (he : es.toList = mapEs ks 0) {n : Int} (hn : mapAt ks n = none) (b : Nat) :
    (Instr.mapUpdate 67 (.map (some m)) (.int .i64 n) (.pointer (some ⟨b, 0, none⟩))).run Tryd.prog w =
      .ok () { w with heap := w.heap.setIfInBounds m (.map (es.push { key := .int .i64 n, val := .pointer (some ⟨b, 0, none⟩), born := ks.length }) (ks.length + 1)) } := by
  have h1 := (findNow_es ks 0 0 n).1 hn
  rw [← he] at h1
  have hc : (Instr.checkKey false 10000 3 (.int .i64 n)).run Tryd.prog w = .ok () w := run_checkKey (k := .int .i64 n) Tryd.underlying3 (by simp [IsKey]) false 9999
  have hg := Go.MapKept.run_getObj_map (P := Tryd.prog) hm
  have h2 := run_findKey (P := Tryd.prog) (w := w) (kt := 3) Tryd.underlying3 h1
  have h3 := run_setObj_map (P := Tryd.prog) (.map (es.push { key := .int .i64 n, val := .pointer (some ⟨b, 0, none⟩), born := ks.length }) (ks.length + 1)) hm
  simp [Instr.mapUpdate, run_underlying Tryd.underlying67, hg, hc, h2, h3, Result.andThen]
end Go.Proofs.YtpejmgellidhbaaDoor
