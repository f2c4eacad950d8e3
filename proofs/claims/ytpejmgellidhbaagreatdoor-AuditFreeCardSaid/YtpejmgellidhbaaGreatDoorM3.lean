/-
  The operations that the sequential functions use ('goodOp'), and what such an operation comes to: a value, nothing, or the entry of a function of the list F.
-/
import Derived.Test.YtpejmgellidhbaaGreatDoorM2
set_option linter.all false
namespace Go.Proofs.YtpejmgellidhbaaGreatDoor
open Go

def goodOp (F : FuncId → Bool) : Go.Op → Bool
  | .move _ | .assign _ | .pick .. | .alloc _ | .box .. | .build .. | .buildSlice .. | .load .. | .store .. | .ready _ | .waits _ | .nilCheck _ | .binOp .. | .unOp .. | .convert ..
  | .makeFunc .. | .makeMap .. | .makeChan .. | .makeSlice .. | .slice .. | .fieldAddr .. | .field .. | .indexAddr .. | .index .. | .lookup .. | .mapUpdate .. | .insert .. | .extract .. => true
  | .call c => match c.callee with
    | .builtin b => b == .len || b == .max || b == .clear || b == .append
    | .value (.func f) => F f
    | _ => false
  | _ => false

def goodCode (F : FuncId → Bool) : Code → Bool
  | .skip | .ret | .exit _ | .label _ => true
  | .region _ ops _ => ops.all fun o => goodOp F o.op
  | .seq a b => goodCode F a && goodCode F b
  | .cond _ a b => goodCode F a && goodCode F b
  | .block _ c | .loop c => goodCode F c
  | _ => false

/-- The functions of the list have good bodies; what a package-level variable's first reading may enter is on the list. -/
structure Listed (P : Program) (F : FuncId → Bool) : Prop where
  body : ∀ f, F f = true → ∃ fn b, P.funcs[f]? = some fn ∧ fn.body = some b ∧ goodCode F b = true ∧ (fn.name == "runtime.NumGoroutine") = false
  early : ∀ g f, P.stepOf g = some f → F f = true

def goodNext (F : FuncId → Bool) : Next → Prop
  | .value _ | .skip => True
  | .enter f _ => F f = true
  | _ => False

section
variable {P : Program} {F : FuncId → Bool}

theorem okV {s : Sem Value} [h : K P s] : Ok P (goodNext F) (do pure (.value (← s)) : Sem Next) := OkT.bind h.ok fun _ => trivial
theorem okU {s : Sem Unit} [h : K P s] : Ok P (goodNext F) (do s; pure .skip : Sem Next) := OkT.bind h.ok fun _ => trivial

instance k_foldlM {α β : Type} {f : β → α → Sem β} {l : List α} {b : β} [g : ∀ b a, K P (f b a)] : K P (l.foldlM f b) := ⟨ok_foldlM (fun b a => (g b a).ok) l b⟩
instance k_max (a : Array TypeId) (t : TypeId) (x : Array Value) : K P (Builtin.max_ a t x) := ⟨by
  unfold Builtin.max_
  split
  · exact trivial
  · exact K.ok⟩

theorem execOp_ok (hF : Listed P F) (o : Oper) (h : goodOp F o.op = true) (ρ : Operand → Value) (hρ : ∀ f, ρ (.func f) = .func (.func f) #[] #[]) : Ok P (goodNext F) (execOp ρ o) := by
  unfold execOp
  dsimp only
  cases ho : o.op <;> rw [ho] at h <;> dsimp only <;> (first | (simp [goodOp] at h; done) | skip)
  case call c =>
    simp only [goodOp] at h
    unfold resolve
    split at h
    · rename_i b hb
      rw [hb]
      simp only [pure_bind]
      unfold invoke
      dsimp only
      unfold builtin
      dsimp only
      have h' : b = .len ∨ b = .max ∨ b = .clear ∨ b = .append := by
        cases b <;> simp_all (decide := true)
      rcases h' with rfl | rfl | rfl | rfl <;> exact okV
    · rename_i f hf
      obtain ⟨fn, b, h1, h2, _, h4⟩ := hF.body f h
      rw [hf]
      dsimp only
      rw [hρ]
      unfold Deferred.ofValue
      simp only [pure_bind]
      unfold invoke callFunc
      show Ok P (goodNext F) _
      simp only [program, bind, Sem.bind, Ok, h1, h4, h2]
      exact h
    · cases h
  case nilCheck x =>
    split
    · exact trivial
    · exact trivial
    · exact trivial
    · split
      · exact trivial
      · refine OkT.bind K.ok fun _ => OkT.bind K.ok fun _ => ?_
        split
        · exact OkT.bind K.ok fun _ => trivial
        · exact trivial
      · exact trivial
    · exact trivial
  case move x => exact trivial
  case assign x => exact trivial
  case pick c a b => exact OkT.bind K.ok fun _ => trivial
  all_goals first | exact okV | exact okU
end
end Go.Proofs.YtpejmgellidhbaaGreatDoor
