/-
  'Ok P Φ s': a tree of steps that says neither 'disable' nor 'enable', whose leaves all satisfy Φ. The laws by which it is shown, and what it gives of a run.
-/
import GoSem.Step
import Derived.Laws.Sem
import Derived.Conc.Beside
set_option linter.all false
namespace Go.Proofs.YtpejmgellidhbaaGreatDoor
open Go

/-- The marks that are let by. -/
def okMark : Mark → Prop
  | .noRoom => True
  | _ => False

/-- The ways to stop that are let by. -/
def okHalt : Halt → Prop
  | .panic _ | .unsupported _ | .stuck _ => True
  | _ => False

def Ok (P : Program) {α : Type} (Φ : α → Prop) : Sem α → Prop
  | .pure a => Φ a
  | .load _ _ k => ∀ v, Ok P Φ (k v)
  | .store _ _ _ k => Ok P Φ k
  | .new _ k => ∀ r, Ok P Φ (k r)
  | .shape _ k => ∀ s, Ok P Φ (k s)
  | .freeze _ _ k => Ok P Φ k
  | .frozen _ k => ∀ b, Ok P Φ (k b)
  | .getObj _ k => ∀ o, Ok P Φ (k o)
  | .setObj _ _ k => Ok P Φ k
  | .choose _ k => ∀ n, Ok P Φ (k n)
  | .sys _ _ => False
  | .program k => Ok P Φ (k P)
  | .mark m k => okMark m ∧ Ok P Φ k
  | .halt h => okHalt h

/-- 'Ok', whatever the leaves are. -/
abbrev OkT (P : Program) {α : Type} (s : Sem α) : Prop := Ok P (fun _ => True) s

section
variable {P : Program} {α β : Type}

theorem Ok.mono {Φ Ψ : α → Prop} (hΦ : ∀ a, Φ a → Ψ a) {s : Sem α} (h : Ok P Φ s) : Ok P Ψ s := by
  induction s with
  | pure a => exact hΦ a h
  | load m a k ih => exact fun v => ih v (h v)
  | store m a v k ih => exact ih h
  | new o k ih => exact fun v => ih v (h v)
  | shape r k ih => exact fun v => ih v (h v)
  | freeze a n k ih => exact ih h
  | frozen a k ih => exact fun v => ih v (h v)
  | getObj r k ih => exact fun v => ih v (h v)
  | setObj r o k ih => exact ih h
  | choose q k ih => exact fun v => ih v (h v)
  | sys c k ih => exact h
  | program k ih => exact ih P h
  | mark m k ih => exact ⟨h.1, ih h.2⟩
  | halt x => exact h

theorem Ok.bind' {Φ : β → Prop} {Ψ : α → Prop} {s : Sem α} {f : α → Sem β} (h : Ok P Ψ s) (hf : ∀ a, Ψ a → Ok P Φ (f a)) : Ok P Φ (s.bind f) := by
  induction s with
  | pure a => exact hf a h
  | load m a k ih => exact fun v => ih v (h v)
  | store m a v k ih => exact ih h
  | new o k ih => exact fun v => ih v (h v)
  | shape r k ih => exact fun v => ih v (h v)
  | freeze a n k ih => exact ih h
  | frozen a k ih => exact fun v => ih v (h v)
  | getObj r k ih => exact fun v => ih v (h v)
  | setObj r o k ih => exact ih h
  | choose q k ih => exact fun v => ih v (h v)
  | sys c k ih => exact h
  | program k ih => exact ih P h
  | mark m k ih => exact ⟨h.1, ih h.2⟩
  | halt x => exact h

theorem Ok.bind {Φ : β → Prop} {Ψ : α → Prop} {s : Sem α} {f : α → Sem β} (h : Ok P Ψ s) (hf : ∀ a, Ψ a → Ok P Φ (f a)) : Ok P Φ (s >>= f) := Ok.bind' h hf
/-- .. where nothing is asked of what the first yields. -/
theorem OkT.bind {Φ : β → Prop} {s : Sem α} {f : α → Sem β} (h : OkT P s) (hf : ∀ a, Ok P Φ (f a)) : Ok P Φ (s >>= f) := Ok.bind h fun a _ => hf a
theorem Ok.map {Φ : β → Prop} {s : Sem α} {f : α → β} (h : Ok P (fun a => Φ (f a)) s) : Ok P Φ (f <$> s) := by
  rw [map_eq_pure_bind]
  exact Ok.bind h fun a ha => ha
theorem OkT.map {s : Sem α} {f : α → β} (h : OkT P s) : OkT P (f <$> s) := Ok.map h
theorem Ok.pure {Φ : α → Prop} {a : α} (h : Φ a) : Ok P Φ (Pure.pure a : Sem α) := h
theorem OkT.pure (a : α) : OkT P (Pure.pure a : Sem α) := trivial
theorem Ok.toT {Φ : α → Prop} {s : Sem α} (h : Ok P Φ s) : OkT P s := h.mono fun _ _ => trivial

/-- What a run lists: no such mark; where it ends well, its value satisfies Φ. -/
def NoDeaf (e : Event) : Prop := ∀ m, e.loc = .mark m → m = .noRoom

theorem noDeaf_cell (a : Addr) (w s : Bool) : NoDeaf ⟨.cell a, w, s⟩ := fun _ h => by cases h

theorem okHalt_noCell (w : World) (a : Addr) (s : String) : okHalt (w.noCell a s) := by
  unfold World.noCell
  split <;> trivial
theorem okHalt_farLoad {w : World} {a : Addr} {m : Bool} {h : Halt} (e : w.farLoad P a m = .error h) : okHalt h := by
  unfold World.farLoad at e
  split at e
  · split at e
    · cases e
    · cases e; trivial
  · cases e; exact okHalt_noCell _ _ _
theorem okHalt_farStore {w : World} {a : Addr} {v : Value} {m : Bool} {h : Halt} (e : w.farStore P a v m = .error h) : okHalt h := by
  unfold World.farStore at e
  split at e
  · split at e
    · cases e
    · cases e; trivial
  · cases e; exact okHalt_noCell _ _ _

theorem Ok.run {Φ : α → Prop} {s : Sem α} (h : Ok P Φ s) : ∀ (w : World) (es : Array Event), (∀ e ∈ es, NoDeaf e) →
    (∀ e ∈ (s.runT P w es).2, NoDeaf e) ∧ (∀ a w', (s.runT P w es).1 = .ok a w' → Φ a) ∧ ∀ e w', (s.runT P w es).1 = .halt e w' → okHalt e := by
  have push : ∀ {es : Array Event} {e : Event}, (∀ x ∈ es, NoDeaf x) → NoDeaf e → ∀ x ∈ es.push e, NoDeaf x := by
    intro es e h1 h2 x hx
    rcases Array.mem_push.1 hx with hx | rfl
    · exact h1 x hx
    · exact h2
  have app : ∀ {es : Array Event} {l : List Addr} {w s : Bool}, (∀ x ∈ es, NoDeaf x) → ∀ x ∈ es ++ l.toArray.map (fun a => (⟨.cell a, w, s⟩ : Event)), NoDeaf x := by
    intro es l w s h1 x hx
    rcases Array.mem_append.1 hx with hx | hx
    · exact h1 x hx
    · obtain ⟨a, _, rfl⟩ := Array.mem_map.1 hx
      exact noDeaf_cell a w s
  induction s with
  | pure a => intro w es hes; exact ⟨hes, fun b w' e => by simp only [Sem.runT, Result.ok.injEq] at e; exact e.1 ▸ h, fun _ _ e => by cases e⟩
  | load m a k ih =>
    intro w es hes
    simp only [Sem.runT]
    split
    · exact ih _ (h _) _ _ (push hes (noDeaf_cell _ _ _))
    · split
      · exact ih _ (h _) _ _ (app hes)
      · rename_i he; exact ⟨hes, (fun _ _ e => by cases e), (fun _ _ e => by cases e; exact okHalt_farLoad he)⟩
  | store m a v k ih =>
    intro w es hes
    have key : ∀ w' es', (∀ e ∈ es', NoDeaf e) → _ := fun w' es' h' => ih h w' es' h'
    cases v <;> simp only [Sem.runT] <;> first
      | exact ⟨hes, (fun _ _ e => by cases e), (fun _ _ e => by cases e; trivial)⟩
      | (split
         · split
           · exact ⟨hes, (fun _ _ e => by cases e), (fun _ _ e => by cases e; trivial)⟩
           · exact key _ _ (push hes (noDeaf_cell _ _ _))
         · split
           · exact key _ _ (app hes)
           · rename_i he; exact ⟨hes, (fun _ _ e => by cases e), (fun _ _ e => by cases e; exact okHalt_farStore he)⟩)
  | new o k ih => intro w es hes; exact ih _ (h _) _ _ hes
  | shape r k ih => intro w es hes; exact ih _ (h _) _ _ hes
  | freeze a n k ih => intro w es hes; exact ih h _ _ hes
  | frozen a k ih => intro w es hes; exact ih _ (h _) _ _ hes
  | getObj r k ih =>
    intro w es hes
    simp only [Sem.runT]
    split
    · exact ⟨hes, (fun _ _ e => by cases e), (fun _ _ e => by cases e; trivial)⟩
    · exact ih _ (h _) _ _ (push hes (fun _ h => by cases h))
    · exact ⟨hes, (fun _ _ e => by cases e), (fun _ _ e => by cases e; trivial)⟩
  | setObj r o k ih =>
    intro w es hes
    simp only [Sem.runT]
    split
    · exact ⟨hes, (fun _ _ e => by cases e), (fun _ _ e => by cases e; trivial)⟩
    · exact ih h _ _ (push hes (fun _ h => by cases h))
    · exact ⟨hes, (fun _ _ e => by cases e), (fun _ _ e => by cases e; trivial)⟩
  | choose q k ih =>
    intro w es hes
    simp only [Sem.runT]
    split
    · exact ih _ (h _) _ _ hes
    · exact ih _ (h _) _ _ hes
  | sys c k ih => exact h.elim
  | program k ih => intro w es hes; exact ih P h _ _ hes
  | mark m k ih =>
    intro w es hes
    refine ih h.2 _ _ (push hes ?_)
    have := h.1
    cases m <;> first | exact this.elim | (intro m h; cases h; rfl)
  | halt x => intro w es hes; exact ⟨hes, (fun _ _ e => by cases e), (fun _ _ e => by cases e; exact h)⟩

/-! ### the heap only grows; what is touched is there -/
def wOf {α : Type} : Result α → World
  | .ok _ w => w
  | .halt _ w => w

structure Grows (w w' : World) (es : Array Event) : Prop where
  size : w.heap.size ≤ w'.heap.size
  low : ∀ e ∈ es, e.loc.low w'.heap.size

theorem Grows.refl (w : World) : Grows w w #[] := ⟨Nat.le_refl _, fun e he => by simp at he⟩

theorem cell_lt {w : World} {a : Addr} {v : Value} (h : w.cell? a = some v) : a.block < w.heap.size := by
  unfold World.cell? at h
  split at h
  · rename_i e
    exact (Array.getElem?_eq_some_iff.1 e).1
  · cases h

theorem seen_lt {w : World} {at_ : Addr} {u : TypeId} {k : Addr} {atomic : Bool} {r : Array Value × TypeId × (Nat × Nat) × Nat × Value × List (Nat × Nat × List UInt8)} (h : w.seen P at_ u k atomic = .ok r) : at_.block < w.heap.size := by
  rcases Nat.lt_or_ge at_.block w.heap.size with hlt | hge
  · exact hlt
  · have hn : w.heap[at_.block]? = none := Array.getElem?_eq_none hge
    exfalso
    unfold World.seen at h
    simp only [hn] at h
    repeat' first | (cases h; done) | (split at h) | (simp [bind, Except.bind, throw, throwThe, MonadExceptOf.throw, pure, Except.pure] at h; done) | (simp only [bind, Except.bind, throw, throwThe, MonadExceptOf.throw, pure, Except.pure] at h)

theorem viewLoad_lt {w : World} {at_ : Addr} {u : TypeId} {k : Addr} {atomic : Bool} {r : Value × List Addr} (h : w.viewLoad P at_ u k atomic = .ok r) : ∀ a ∈ r.2, a.block < w.heap.size := by
  unfold World.viewLoad at h
  cases hs : w.seen P at_ u k atomic with
  | error e => simp [hs, bind, Except.bind] at h
  | ok x =>
    have hlt := seen_lt hs
    simp only [hs, bind, Except.bind] at h
    split at h
    · simp only [pure, Except.pure, Except.ok.injEq] at h
      subst h
      intro a ha
      simp only [List.mem_map] at ha
      obtain ⟨_, _, rfl⟩ := ha
      exact hlt
    · cases h

theorem farLoad_lt {w : World} {a : Addr} {m : Bool} {r : Value × List Addr} (h : w.farLoad P a m = .ok r) : ∀ a ∈ r.2, a.block < w.heap.size := by
  unfold World.farLoad at h
  split at h
  · split at h
    · rename_i hv; cases h; exact viewLoad_lt hv
    · cases h
  · cases h

theorem ebind {ε α β : Type} {x : Except ε α} {f : α → Except ε β} {r : β} (h : (x >>= f) = .ok r) : ∃ y, x = .ok y ∧ f y = .ok r := by
  cases x with
  | error e => cases h
  | ok y => exact ⟨y, rfl, h⟩

theorem viewStore_lt {w : World} {at_ : Addr} {u : TypeId} {k : Addr} {v : Value} {atomic : Bool} {r : World × List Addr} (h : w.viewStore P at_ u k v atomic = .ok r) : r.1.heap.size = w.heap.size ∧ ∀ a ∈ r.2, a.block < w.heap.size := by
  unfold World.viewStore at h
  have key : ∀ (F : Array Value × TypeId × (Nat × Nat) × Nat × Value × List (Nat × Nat × List UInt8) → Except String (World × List Addr)), (w.seen P at_ u k atomic >>= F) = .ok r → (∀ x, F x = .ok r → r.1.heap.size = w.heap.size ∧ ∀ a ∈ r.2, a.block = at_.block) → r.1.heap.size = w.heap.size ∧ ∀ a ∈ r.2, a.block < w.heap.size := by
    intro F hF hx
    obtain ⟨x, hs, hf⟩ := ebind hF
    have hlt := seen_lt hs
    obtain ⟨h1, h2⟩ := hx x hf
    exact ⟨h1, fun a ha => by rw [h2 a ha]; exact hlt⟩
  dsimp only at h
  split at h
  · cases h
  refine key _ h fun x hf => ?_
  clear h key
  obtain ⟨c, e, frozen, first, like, cells⟩ := x
  dsimp only at hf
  split at hf
  · split at hf
    · cases hf
    · obtain ⟨c', _, hp⟩ := ebind hf
      cases hp
      exact ⟨by simp, fun a ha => by
        simp only [List.mem_map] at ha
        obtain ⟨_, _, rfl⟩ := ha
        rfl⟩
  · cases hf

theorem farStore_lt {w : World} {a : Addr} {v : Value} {m : Bool} {r : World × List Addr} (h : w.farStore P a v m = .ok r) : r.1.heap.size = w.heap.size ∧ ∀ a ∈ r.2, a.block < w.heap.size := by
  unfold World.farStore at h
  split at h
  · split at h
    · rename_i hv; cases h; exact viewStore_lt hv
    · cases h
  · cases h

theorem setCell_size (w : World) (a : Addr) (v : Value) : (w.setCell a v).heap.size = w.heap.size := by simp [World.setCell]
theorem freeze_size (w : World) (a : Addr) (n : Nat) : (w.freeze a n).heap.size = w.heap.size := by
  unfold World.freeze
  split
  · rfl
  · simp

theorem Grows.of {w w₁ w' : World} {es : Array Event} (h : w.heap.size ≤ w₁.heap.size) (g : Grows w₁ w' es) : Grows w w' es := ⟨Nat.le_trans h g.size, g.low⟩

theorem Ok.low {Φ : α → Prop} {s : Sem α} (h : Ok P Φ s) : ∀ (w : World) (es : Array Event), (∀ e ∈ es, e.loc.low w.heap.size) → Grows w (wOf (s.runT P w es).1) (s.runT P w es).2 := by
  have push : ∀ {es : Array Event} {e : Event} {B : Nat}, (∀ x ∈ es, x.loc.low B) → e.loc.low B → ∀ x ∈ es.push e, x.loc.low B := by
    intro es e B h1 h2 x hx
    rcases Array.mem_push.1 hx with hx | rfl
    · exact h1 x hx
    · exact h2
  have app : ∀ {es : Array Event} {l : List Addr} {w s : Bool} {B : Nat}, (∀ x ∈ es, x.loc.low B) → (∀ a ∈ l, a.block < B) → ∀ x ∈ es ++ l.toArray.map (fun a => (⟨.cell a, w, s⟩ : Event)), x.loc.low B := by
    intro es l w s B h1 h2 x hx
    rcases Array.mem_append.1 hx with hx | hx
    · exact h1 x hx
    · obtain ⟨a, ha, rfl⟩ := Array.mem_map.1 hx
      exact h2 a (by simpa using ha)
  have size : ∀ {es : Array Event} {B B' : Nat}, B' = B → (∀ x ∈ es, x.loc.low B) → ∀ x ∈ es, x.loc.low B' := fun e h => e ▸ h
  induction s with
  | pure a => intro w es hes; exact ⟨Nat.le_refl _, hes⟩
  | load m a k ih =>
    intro w es hes
    simp only [Sem.runT]
    split
    · rename_i hc; exact ih _ (h _) _ _ (push hes (cell_lt hc))
    · split
      · rename_i hf; exact ih _ (h _) _ _ (app hes (farLoad_lt hf))
      · exact ⟨Nat.le_refl _, hes⟩
  | store m a v k ih =>
    intro w es hes
    have key : ∀ w' es', w'.heap.size = w.heap.size → (∀ e ∈ es', e.loc.low w.heap.size) → Grows w (wOf (k.runT P w' es').1) (k.runT P w' es').2 := fun w' es' e h' => .of (Nat.le_of_eq e.symm) (ih h w' es' (size e h'))
    cases v <;> simp only [Sem.runT] <;> first
      | exact ⟨Nat.le_refl _, hes⟩
      | (split
         · rename_i hc
           split
           · exact ⟨Nat.le_refl _, hes⟩
           · exact key _ _ (setCell_size _ _ _) (push hes (cell_lt hc))
         · split
           · rename_i hf; exact key _ _ (farStore_lt hf).1 (app hes (farStore_lt hf).2)
           · exact ⟨Nat.le_refl _, hes⟩)
  | new o k ih => intro w es hes; exact .of (by simp) (ih _ (h _) _ _ (fun e he => Loc.low_mono (by simp) (hes e he)))
  | shape r k ih => intro w es hes; exact ih _ (h _) _ _ hes
  | freeze a n k ih => intro w es hes; exact .of (Nat.le_of_eq (freeze_size _ _ _).symm) (ih h _ _ (size (freeze_size _ _ _) hes))
  | frozen a k ih => intro w es hes; exact ih _ (h _) _ _ hes
  | getObj r k ih =>
    intro w es hes
    simp only [Sem.runT]
    split
    · exact ⟨Nat.le_refl _, hes⟩
    · rename_i hr _; exact ih _ (h _) _ _ (push hes (Array.getElem?_eq_some_iff.1 (by assumption)).1)
    · exact ⟨Nat.le_refl _, hes⟩
  | setObj r o k ih =>
    intro w es hes
    simp only [Sem.runT]
    split
    · exact ⟨Nat.le_refl _, hes⟩
    · exact .of (by simp) (ih h _ _ (push (size (by simp) hes) (show r < (w.heap.setIfInBounds r o).size by simpa using (show r < w.heap.size from (Array.getElem?_eq_some_iff.1 (by assumption)).1))))
    · exact ⟨Nat.le_refl _, hes⟩
  | choose q k ih =>
    intro w es hes
    simp only [Sem.runT]
    split
    · exact ih _ (h _) _ _ hes
    · exact .of (w₁ := { w with drawn := w.drawn + 1 }) (Nat.le_refl _) (ih _ (h _) _ _ hes)
  | sys c k ih => exact h.elim
  | program k ih => intro w es hes; exact ih P h _ _ hes
  | mark m k ih =>
    intro w es hes
    exact ih h.2 _ _ (push hes trivial)
  | halt x => intro w es hes; exact ⟨Nat.le_refl _, hes⟩

/-! ### loops in the monad -/
theorem ok_mapM_list {f : α → Sem β} (h : ∀ a, OkT P (f a)) : ∀ l : List α, OkT P (l.mapM f)
  | [] => by simp [List.mapM_nil]; exact trivial
  | a :: l => by
    rw [List.mapM_cons]
    exact OkT.bind (h a) fun b => OkT.bind (ok_mapM_list h l) fun bs => trivial
theorem ok_mapM {f : α → Sem β} (h : ∀ a, OkT P (f a)) (l : Array α) : OkT P (l.mapM f) := by
  rw [Array.mapM_eq_mapM_toList]
  exact OkT.map (ok_mapM_list h _)
theorem ok_foldlM {f : β → α → Sem β} (h : ∀ b a, OkT P (f b a)) : ∀ (l : List α) (b : β), OkT P (l.foldlM f b)
  | [], b => by simp [List.foldlM_nil]; exact trivial
  | a :: l, b => by
    rw [List.foldlM_cons]
    exact OkT.bind (h b a) fun b' => ok_foldlM h l b'
theorem ok_forIn_list {f : α → β → Sem (ForInStep β)} (h : ∀ a b, OkT P (f a b)) : ∀ (l : List α) (b : β), OkT P (forIn l b f)
  | [], b => by simp [List.forIn_nil]; exact trivial
  | a :: l, b => by
    rw [List.forIn_cons]
    refine OkT.bind (h a b) fun x => ?_
    cases x with
    | done b' => exact trivial
    | yield b' => exact ok_forIn_list h l b'
theorem ok_forIn {f : α → β → Sem (ForInStep β)} (h : ∀ a b, OkT P (f a b)) (l : Array α) (b : β) : OkT P (forIn l b f) := by
  rw [← Array.forIn_toList]
  exact ok_forIn_list h _ b
theorem ok_forIn_range {f : Nat → β → Sem (ForInStep β)} (h : ∀ a b, OkT P (f a b)) (r : Std.Legacy.Range) (b : β) : OkT P (forIn r b f) := by
  rw [Std.Legacy.Range.forIn_eq_forIn_range']
  exact ok_forIn_list h _ b
end
end Go.Proofs.YtpejmgellidhbaaGreatDoor
