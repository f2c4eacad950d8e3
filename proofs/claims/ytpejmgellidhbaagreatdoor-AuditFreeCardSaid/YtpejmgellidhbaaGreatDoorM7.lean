/-
  The functions that space.New and Alloc come to: their bodies hold good operations only.
-/
import Derived.Test.YtpejmgellidhbaaGreatDoorM6
import Derived.Test.YtpejmgellidhbaaGreatDoorProg
import Derived.KernelRfl
set_option linter.all false
namespace Go.Proofs.YtpejmgellidhbaaGreatDoor
open Go Go.Conc Go.Proofs

def seqF (f : FuncId) : Bool := [6, 7, 17, 18, 19, 20, 21, 22, 23, 24, 35, 36, 37, 41, 42, 43, 44, 45, 46, 47, 48, 49, 50, 51, 52, 53, 90, 91, 92, 93, 94, 95, 96, 97].contains f

def okFunc (fn : Func) : Bool := (match fn.body with | some b => goodCode seqF b | none => false) && !(fn.name == "runtime.NumGoroutine")

theorem seq_ok : ([6, 7, 17, 18, 19, 20, 21, 22, 23, 24, 35, 36, 37, 41, 42, 43, 44, 45, 46, 47, 48, 49, 50, 51, 52, 53, 90, 91, 92, 93, 94, 95, 96, 97].all fun f => (Tryz.prog.funcs[f]?).any okFunc) = true := by kernel_rfl

theorem no_readies : (Tryz.prog.funcs.all fun f => (f.body.map readies).all (·.isEmpty)) = true := by kernel_rfl

theorem listed : Listed Tryz.prog seqF where
  body := by
    intro f hf
    have h := seq_ok
    rw [List.all_eq_true] at h
    have hm : f ∈ [6, 7, 17, 18, 19, 20, 21, 22, 23, 24, 35, 36, 37, 41, 42, 43, 44, 45, 46, 47, 48, 49, 50, 51, 52, 53, 90, 91, 92, 93, 94, 95, 96, 97] := by
      unfold seqF at hf
      exact List.contains_iff_mem.1 hf
    have h1 := h f hm
    cases hfn : Tryz.prog.funcs[f]? with
    | none => simp [hfn] at h1
    | some fn =>
      simp only [hfn, Option.any_some, okFunc, Bool.and_eq_true] at h1
      obtain ⟨h2, h3⟩ := h1
      cases hb : fn.body with
      | none => simp [hb] at h2
      | some b =>
        rw [hb] at h2
        exact ⟨fn, b, rfl, hb, h2, by simpa using h3⟩
  early := by
    intro g f h
    unfold Program.stepOf at h
    obtain ⟨hlt, h1, _⟩ := Array.findIdx?_eq_some_iff_getElem.1 h
    have h2 := no_readies
    rw [Array.all_eq_true] at h2
    have h3 := h2 f hlt
    cases hb : (Tryz.prog.funcs[f]).body with
    | none => simp [hb] at h1
    | some b =>
      simp only [hb, Option.map_some, Option.any_some, Option.all_some] at h1 h3
      have : readies b = [] := by simpa using h3
      rw [this] at h1
      simp at h1
end Go.Proofs.YtpejmgellidhbaaGreatDoor
