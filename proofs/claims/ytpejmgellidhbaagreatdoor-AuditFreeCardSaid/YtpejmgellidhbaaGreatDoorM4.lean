/-
  One step of a goroutine whose frame holds good operations only, whatever lies beneath: 'Act1' says what it comes to.
-/
import Derived.Test.YtpejmgellidhbaaGreatDoorM3
import Derived.Conc.Own
set_option linter.all false
namespace Go.Proofs.YtpejmgellidhbaaGreatDoor
open Go Go.Conc

def goodItem (F : FuncId → Bool) : Item → Bool
  | .code c | .inLoop c => goodCode F c
  | .inBlock _ => true
  | .inRegion ops _ => ops.all fun o => goodOp F o.op
  | _ => false

/-- A frame, but for what it has still to do. -/
structure Plain0 (fr : Frame) : Prop where
  defers : fr.defers = []
  round : fr.roundOf = none
  kind : fr.kind = .normal ∨ fr.kind = .early

structure GoodF (F : FuncId → Bool) (fr : Frame) : Prop extends Plain0 fr where
  todo : ∀ it ∈ fr.todo, goodItem F it = true

def Silent (es : Array Event) : Prop := ∀ e ∈ es, NoDeaf e

theorem silent_seen {P : Program} {fn : FuncId} {es : Array Event} (h : Silent es) : Silent (seen P fn es) := by
  unfold seen
  refine (Array.foldl_induction (motive := fun _ (x : Bool × Array Event) => Silent x.2) (fun e he => by simp at he) ?_)
  intro i x hx
  dsimp only
  split
  · exact hx
  · split
    · exact hx
    · intro e he
      rcases Array.mem_push.1 he with he | rfl
      · exact hx e he
      · exact h _ (Array.getElem_mem _)

theorem grows_seen {P : Program} {fn : FuncId} {w w' : World} {es : Array Event} (h : Grows w w' es) : Grows w w' (seen P fn es) := by
  refine ⟨h.size, ?_⟩
  unfold seen
  refine (Array.foldl_induction (motive := fun _ (x : Bool × Array Event) => ∀ e ∈ x.2, e.loc.low w'.heap.size) (fun e he => by simp at he) ?_)
  intro i x hx
  dsimp only
  split
  · exact hx
  · split
    · exact hx
    · intro e he
      rcases Array.mem_push.1 he with he | rfl
      · exact hx e he
      · exact h.low _ (Array.getElem_mem _)

theorem Grows.bare {w w' : World} {es : Array Event} (h : Grows w w' es) : Grows w w' #[] := ⟨h.size, fun e he => by simp at he⟩

/-- What a step comes to, in a frame 'f' that has T ++ k to do. -/
inductive Act1
  | stay (T : List Item) (tmps : Array Value) (w : World) (es : Array Event)
  | mode (m : FrameMode) (w : World) (es : Array Event)
  | push (frs : List Frame) (fr : Frame) (w : World) (es : Array Event)
  | same (w : World) (es : Array Event)
  | jump
  | ended

def over (s : GStep) : Prop := ∃ o w es, s = .ended o w es
def noBlock (k : List Item) : Prop := ∀ id, exitTo id k = none

def Act1.fits (f : Frame) (T k : List Item) (cs : List Frame) (s : GStep) : Act1 → Prop
  | .stay T' tmps w es => s = .go (G { f with tmps, todo := T' ++ k } cs) w es
  | .mode m w es => s = .go (G { f with todo := T ++ k, mode := m } cs) w es
  | .push frs fr w es => s = .go (G fr (frs ++ { f with todo := T ++ k } :: cs)) w es
  | .same w es => s = .go (G { f with todo := T ++ k } cs) w es
  | .jump => noBlock k → over s
  | .ended => over s

def Act1.good (F : FuncId → Bool) (w0 : World) : Act1 → Prop
  | .stay T _ w es => (∀ it ∈ T, goodItem F it = true) ∧ Silent es ∧ Grows w0 w es
  | .mode m w es => (m = .returning ∨ ∃ c, m = .panicking c) ∧ Silent es ∧ Grows w0 w es
  | .push frs fr w es => (∀ x ∈ frs, GoodF F x ∧ x.mode = .run) ∧ GoodF F fr ∧ fr.mode = .run ∧ Silent es ∧ Grows w0 w es
  | .same w es => Silent es ∧ Grows w0 w es
  | .jump => True
  | .ended => True

section
variable {P : Program} {F : FuncId → Bool}

theorem silent_nil : Silent #[] := fun e he => by simp at he

theorem goodF_enter (hF : Listed P F) {f : FuncId} (h : F f = true) (args : Array Value) {kd : CallKind} (hk : kd = .normal ∨ kd = .early) : GoodF F (Frame.enter P f args kd) := by
  obtain ⟨fn, b, h1, h2, h3, _⟩ := hF.body f h
  refine ⟨⟨rfl, rfl, hk⟩, ?_⟩
  intro it hit
  simp only [Frame.enter, h1, h2, Option.bind_some, Option.getD_some, List.mem_singleton] at hit
  subst hit
  exact h3

theorem brought_steps (w : World) (f0 : FuncId) : ∀ (fuel : Nat) (todo seen : List FuncId), (∀ x ∈ todo, ∃ g, P.stepOf g = some x) → (∀ x ∈ seen, ∃ g, P.stepOf g = some x) → ∀ x ∈ P.brought w fuel todo seen, ∃ g, P.stepOf g = some x
  | 0, todo, seen, _, hs, x, hx => hs x (by simpa [Program.brought] using hx)
  | fuel + 1, [], seen, _, hs, x, hx => hs x (by simpa [Program.brought] using hx)
  | fuel + 1, f :: todo, seen, ht, hs, x, hx => by
    unfold Program.brought at hx
    have htl : ∀ y ∈ todo, ∃ g, P.stepOf g = some y := fun y hy => ht y (by simp [hy])
    split at hx
    · exact brought_steps w f0 fuel todo seen htl hs x hx
    · split at hx
      · exact brought_steps w f0 fuel todo seen htl hs x hx
      · refine brought_steps w f0 fuel _ _ ?_ ?_ x hx
        · intro y hy
          rcases List.mem_append.1 hy with hy | hy
          · exact htl y hy
          · have hy := (List.mem_filter.1 hy).1
            have hy := List.mem_eraseDups.1 hy
            obtain ⟨h, _, hh⟩ := List.mem_filterMap.1 hy
            exact ⟨h, (Option.filter_eq_some_iff.1 hh).1⟩
        · intro y hy
          rcases List.mem_append.1 hy with hy | hy
          · exact hs y hy
          · simp only [List.mem_singleton] at hy
            subst hy
            exact ht _ (by simp)

/-- .. at a package-level variable that is not there yet. -/
theorem early_act (hF : Listed P F) (f : Frame) (T : List Item) (g : Nat) (w0 w : World) (hw : w0.heap.size ≤ w.heap.size) : ∃ o : Act1, o.good F w0 ∧ ∀ k cs, o.fits f T k cs (early P { f with todo := T ++ k } cs none g w) := by
  have notYet : ∀ w : World, w0.heap.size ≤ w.heap.size → ∃ o : Act1, o.good F w0 ∧ ∀ k cs, o.fits f T k cs (match w.heap[g]? with
      | some (.pending c elem) => .go { frame := { f with todo := T ++ k }, callers := cs, status := .running, dying := none } { w with heap := w.heap.setIfInBounds g (.cells c elem) }
      | _ => .ended (.stuck "early: the variable does not wait" (Frame.pos P { f with todo := T ++ k })) w) := by
    intro w hw
    split
    · exact ⟨.same _ #[], ⟨silent_nil, by simpa using hw, fun e he => by simp at he⟩, fun k cs => rfl⟩
    · exact ⟨.ended, trivial, fun k cs => ⟨_, _, _, rfl⟩⟩
  have refuse : ∃ o : Act1, o.good F w0 ∧ ∀ k cs, o.fits f T k cs (.ended (.unsupported (.initOrder g) (Frame.pos P { f with todo := T ++ k })) w) := ⟨.ended, trivial, fun k cs => ⟨_, _, _, rfl⟩⟩
  unfold early
  dsimp only
  by_cases h1 : (!P.follows .staticDataAhead) = true
  · simp only [if_pos h1]; exact notYet w hw
  simp only [if_neg h1]
  cases hs : P.stepOf g with
  | none => exact refuse
  | some fe =>
    dsimp only
    have there : ∀ w : World, w0.heap.size ≤ w.heap.size → ∃ o : Act1, o.good F w0 ∧ ∀ k cs, o.fits f T k cs (.go { frame := Frame.enter P fe #[] .early, callers := (if (P.code? fe).any P.plainData then (P.brought w (2 * P.funcs.size + 1) [fe] []).drop 1 else []).map (Frame.enter P · #[] .early) ++ { f with todo := T ++ k } :: cs, status := .running, dying := none } w) := by
      intro w hw
      refine ⟨.push _ _ w #[], ⟨?_, goodF_enter hF (hF.early _ _ hs) _ (.inr rfl), rfl, silent_nil, hw, fun e he => by simp at he⟩, fun k cs => rfl⟩
      intro x hx
      obtain ⟨y, hy, rfl⟩ := List.mem_map.1 hx
      have hy' : ∃ g, P.stepOf g = some y := by
        split at hy
        · exact brought_steps w fe _ _ _ (by intro z hz; simp at hz; subst hz; exact ⟨g, hs⟩) (by simp) y (List.mem_of_mem_drop hy)
        · simp at hy
      obtain ⟨h, hh⟩ := hy'
      exact ⟨goodF_enter hF (hF.early _ _ hh) _ (.inr rfl), rfl⟩
    by_cases h2 : ((P.code? fe).any P.atRunTime) = true
    · simp only [if_pos h2]; exact notYet w hw
    simp only [if_neg h2]
    by_cases h3 : ((((P.code? fe).bind fun c => (readies c).getLast?).bind w.shape?).isSome) = true
    · simp only [if_pos h3]; exact notYet w hw
    simp only [if_neg h3]
    generalize P.found w P.funcs.size fe = fd
    cases fd <;> (try exact refuse) <;> cases (f.kind == CallKind.early) <;> dsimp only
    · exact notYet w hw
    · exact refuse
    · by_cases h4 : ((P.code? fe).any P.plainData) = true
      · simp only [h4, if_true]; have := there w hw; simp only [h4, if_true] at this; exact this
      · have th := fun w hw => there w hw
        simp only [h4, if_false, Bool.false_eq_true] at th ⊢
        by_cases h5 : (!(P.code? fe).any P.bareCopy) = true
        · simp only [if_pos h5]; exact notYet w hw
        simp only [if_neg h5]
        simp only [choose, Sem.run, Question.forced, Bool.false_eq_true, if_false]
        split
        · rename_i heq; simp only [Result.ok.injEq] at heq; obtain ⟨_, rfl⟩ := heq; exact notYet _ hw
        · rename_i heq; cases heq; exact th _ hw
        · rename_i heq; cases heq
    · exact there w hw

theorem after_nil (s : GStep) : GStep.after #[] s = s := by cases s <;> simp [GStep.after]
theorem seen_nil (P : Program) (fn : FuncId) : seen P fn #[] = #[] := by simp [seen]

theorem apply_act (hF : Listed P F) (f : Frame) (hf : Plain0 f) (hm : f.mode = .run) (ops : Array Oper) (i : Nat) (r : List Nat) (T : List Item) (hT : ∀ it ∈ T, goodItem F it = true) (hops : (ops.all fun o => goodOp F o.op) = true)
    {s : Sem Next} (hs : Ok P (goodNext F) s) (w : World) : ∃ o : Act1, o.good F w ∧ ∀ k cs, o.fits f (.inRegion ops (i :: r) :: T) k cs (stepG.apply P true { f with todo := .inRegion ops (i :: r) :: T ++ k } cs none s w) := by
  have hrun := hs.run w #[] silent_nil
  have hlow := hs.low w #[] (fun e he => by simp at he)
  unfold stepG.apply
  simp only [if_true]
  generalize s.runT P w #[] = q at hrun hlow
  obtain ⟨res, es⟩ := q
  obtain ⟨he, hv, hh⟩ := hrun
  dsimp only at he hv hh hlow ⊢
  have hgr : ∀ x : Bool, Grows w (wOf res) (seen P f.fn (if x = true then #[] else es)) := by
    intro x
    split
    · exact grows_seen hlow.bare
    · exact grows_seen hlow
  have hse : ∀ x : Bool, Silent (seen P f.fn (if x = true then #[] else es)) := by
    intro x
    split
    · exact silent_seen silent_nil
    · exact silent_seen he
  have hitem : ∀ l, ∀ it ∈ (.inRegion ops l :: T : List Item), goodItem F it = true := by
    intro l it hit
    rcases List.mem_cons.1 hit with rfl | h
    · exact hops
    · exact hT it h
  cases res with
  | ok nx w' =>
    have hn := hv nx w' rfl
    cases nx <;> first | exact hn.elim | skip
    · rename_i v
      exact ⟨.stay (.inRegion ops r :: T) (match (ops[i]?).bind (·.dst) with | some d => f.tmps.setIfInBounds d v | none => f.tmps) w' _, ⟨hitem r, hse _, hgr _⟩, fun k cs => rfl⟩
    · exact ⟨.stay (.inRegion ops r :: T) (match (ops[i]?).bind (·.dst) with | some d => f.tmps.setIfInBounds d undef | none => f.tmps) w' _, ⟨hitem r, hse _, hgr _⟩, fun k cs => rfl⟩
    · rename_i fe args
      exact ⟨.push [] (Frame.enter P fe args .normal) w' _, ⟨by simp, goodF_enter hF hn _ (.inl rfl), rfl, hse _, hgr _⟩, fun k cs => rfl⟩
  | halt h w' =>
    have hk := hh h w' rfl
    cases h <;> first | exact hk.elim | skip
    · rename_i v
      refine ⟨.mode (.panicking [{ v, recovered := false }]) w' _, ⟨.inr ⟨_, rfl⟩, hse (f.kind == .early), hgr (f.kind == .early)⟩, fun k cs => ?_⟩
      obtain ⟨_, _, _, _, m, _, _⟩ := f
      cases hm
      rfl
    · rename_i u
      cases u
      case initOrder g =>
        obtain ⟨o, ho, hfit⟩ := early_act hF f (.inRegion ops (i :: r) :: T) g w w' hlow.size
        refine ⟨o, ho, fun k cs => ?_⟩
        have := hfit k cs
        simp only [ite_self, seen_nil, after_nil]
        exact this
      all_goals exact ⟨.ended, trivial, fun k cs => ⟨_, _, _, rfl⟩⟩
    · exact ⟨.ended, trivial, fun k cs => ⟨_, _, _, rfl⟩⟩

theorem exitTo_append {id : Nat} : ∀ {T : List Item}, (∀ k, ∃ T', exitTo id T = some T' ∧ exitTo id (T ++ k) = some (T' ++ k)) ∨ (exitTo id T = none ∧ ∀ k, exitTo id (T ++ k) = exitTo id k)
  | [] => .inr ⟨rfl, fun k => rfl⟩
  | it :: T => by
    have ih := exitTo_append (id := id) (T := T)
    cases it <;> first
      | (rcases ih with h | h
         · left; intro k; simpa [exitTo] using h k
         · right; exact ⟨by simpa [exitTo] using h.1, fun k => by simpa [exitTo] using h.2 k⟩)
      | skip
    rename_i i
    by_cases hi : (i == id) = true
    · left; intro k; exact ⟨T, by simp [exitTo, hi], by simp [exitTo, hi]⟩
    · rcases ih with h | h
      · left; intro k; simpa [exitTo, hi] using h k
      · right; exact ⟨by simpa [exitTo, hi] using h.1, fun k => by simpa [exitTo, hi] using h.2 k⟩

theorem exitTo_mem {id : Nat} : ∀ {T T' : List Item}, exitTo id T = some T' → ∀ it ∈ T', it ∈ T
  | [], _, h => by simp [exitTo] at h
  | it :: T, T', h => by
    intro x hx
    cases it <;> first
      | (simp only [exitTo] at h; exact List.mem_cons_of_mem _ (exitTo_mem h x hx))
      | skip
    simp only [exitTo] at h
    split at h
    · cases h; exact List.mem_cons_of_mem _ hx
    · exact List.mem_cons_of_mem _ (exitTo_mem h x hx)

/-- A STEP OF A FRAME THAT RUNS. -/
theorem step_run (hF : Listed P F) (f : Frame) (hf : Plain0 f) (hm : f.mode = .run) (it : Item) (T : List Item) (hT : ∀ x ∈ it :: T, goodItem F x = true) (w : World) :
    ∃ o : Act1, o.good F w ∧ ∀ k cs, o.fits f (it :: T) k cs (stepG P true (G { f with todo := it :: T ++ k } cs) w) := by
  have hT' : ∀ x ∈ T, goodItem F x = true := fun x hx => hT x (List.mem_cons_of_mem _ hx)
  have h0 : goodItem F it = true := hT it (by simp)
  have hr := hf.round
  obtain ⟨fn, tmps, todo, defers, m, kind, round⟩ := f
  cases hm
  cases hr
  have stay : ∀ T' : List Item, (∀ x ∈ T', goodItem F x = true) → ∃ o : Act1, o.good F w ∧ ∀ k cs, o.fits ⟨fn, tmps, todo, defers, .run, kind, none⟩ (it :: T) k cs (.go { frame := ⟨fn, tmps, T' ++ k, defers, .run, kind, none⟩, callers := cs, status := .running, dying := none } w) :=
    fun T' h => ⟨.stay T' tmps w #[], ⟨h, silent_nil, .refl w⟩, fun k cs => rfl⟩
  unfold stepG
  simp only [G]
  unfold stepG.exec
  have cons : ∀ {x : Item} {L : List Item}, goodItem F x = true → (∀ y ∈ L, goodItem F y = true) → ∀ y ∈ x :: L, goodItem F y = true := by
    intro x L hx hL y hy
    rcases List.mem_cons.1 hy with rfl | h
    · exact hx
    · exact hL y h
  cases it with
  | inBlock id => exact stay T hT'
  | inLoop c => exact stay (.code c :: .inLoop c :: T) (cons h0 (cons h0 hT'))
  | inRegion ops l =>
    cases l with
    | nil => exact stay T hT'
    | cons i r =>
      have hreg : ∀ l : List Nat, goodItem F (.inRegion ops l) = true := fun _ => h0
      have skip : ∀ (tm : Array Value) (hx : ∀ k cs, (GStep.go { frame := (⟨fn, tmps, .inRegion ops (i :: r) :: T ++ k, defers, .run, kind, none⟩ : Frame).finish undef, callers := cs, status := .running, dying := none } w) = .go (G ⟨fn, tm, .inRegion ops r :: T ++ k, defers, .run, kind, none⟩ cs) w),
          ∃ o : Act1, o.good F w ∧ ∀ k cs, o.fits ⟨fn, tmps, todo, defers, .run, kind, none⟩ (.inRegion ops (i :: r) :: T) k cs (GStep.go { frame := (⟨fn, tmps, .inRegion ops (i :: r) :: T ++ k, defers, .run, kind, none⟩ : Frame).finish undef, callers := cs, status := .running, dying := none } w) :=
        fun tm hx => ⟨.stay (.inRegion ops r :: T) tm w #[], ⟨cons (hreg r) hT', silent_nil, .refl w⟩, fun k cs => hx k cs⟩
      have skip' := skip (match (ops[i]?).bind (·.dst) with | some d => tmps.setIfInBounds d undef | none => tmps) (fun k cs => rfl)
      cases ho : ops[i]? with
      | none =>
        simp only [List.cons_append, ho, Option.map_none, Option.getD_none, Bool.false_eq_true, if_false]
        exact skip'
      | some o =>
        simp only [List.cons_append, ho, Option.map_some, Option.getD_some]
        by_cases hw : Region.wanted o (yielded ops tmps) = true
        · simp only [hw, if_true]
          have hgo : goodOp F o.op = true := by
            have : (ops.all fun o => goodOp F o.op) = true := h0
            rw [Array.all_eq_true] at this
            obtain ⟨hlt, rfl⟩ := Array.getElem?_eq_some_iff.1 ho
            exact this i hlt
          obtain ⟨a, ha, hfit⟩ := apply_act hF ⟨fn, tmps, todo, defers, .run, kind, none⟩ hf rfl ops i r T hT' h0 (execOp_ok hF o hgo (Frame.eval ⟨fn, tmps, todo, defers, .run, kind, none⟩) (fun f => rfl)) w
          refine ⟨a, ha, fun k cs => ?_⟩
          have := hfit k cs
          simp only [stepG.oper, Frame.oper?, ho]
          exact this
        · simp only [hw, if_false, Bool.false_eq_true]
          exact skip'
  | code c =>
    cases c <;> first | (simp [goodItem, goodCode] at h0; done) | skip
    case skip => exact stay T hT'
    case label l => exact stay T hT'
    case ret => exact ⟨.mode .returning w #[], ⟨.inl rfl, silent_nil, .refl w⟩, fun k cs => rfl⟩
    case seq a b =>
      simp only [goodItem, goodCode, Bool.and_eq_true] at h0
      exact stay (.code a :: .code b :: T) (cons h0.1 (cons h0.2 hT'))
    case block id c => exact stay (.code c :: .inBlock id :: T) (cons h0 (cons rfl hT'))
    case loop c => exact stay (.code c :: .inLoop c :: T) (cons h0 (cons h0 hT'))
    case cond c a b =>
      simp only [goodItem, goodCode, Bool.and_eq_true] at h0
      obtain ⟨v, hv⟩ : ∃ v, ∀ L, Frame.eval ⟨fn, tmps, L, defers, .run, kind, none⟩ c = v := ⟨Frame.eval ⟨fn, tmps, [], defers, .run, kind, none⟩ c, fun L => rfl⟩
      simp only [List.cons_append, hv]
      cases v <;> first | exact ⟨.ended, trivial, fun k cs => ⟨_, _, _, rfl⟩⟩ | skip
      rename_i t
      cases t
      · exact stay (.code b :: T) (cons h0.2 hT')
      · exact stay (.code a :: T) (cons h0.1 hT')
    case exit id =>
      simp only [List.cons_append]
      rcases exitTo_append (id := id) (T := T) with h | ⟨h1, h2⟩
      · obtain ⟨T', e, _⟩ := h []
        obtain ⟨o, ho, hfit⟩ := stay T' (fun x hx => hT' x (exitTo_mem e x hx))
        refine ⟨o, ho, fun k cs => ?_⟩
        obtain ⟨T2, e1, e2⟩ := h k
        rw [e] at e1
        cases e1
        rw [e2]
        exact hfit k cs
      · refine ⟨.jump, trivial, fun k cs hk => ?_⟩
        rw [h2 k, hk id]
        exact ⟨_, _, _, rfl⟩
    case region id ops draw =>
      have hreg : ∀ l : List Nat, goodItem F (.inRegion ops l) = true := fun _ => h0
      cases draw
      · exact stay (.inRegion ops (List.range ops.size) :: T) (cons (hreg _) hT')
      · simp only [List.cons_append, Bool.not_true, Bool.false_eq_true, if_false, choose, Sem.run, Question.forced]
        exact ⟨.stay (.inRegion ops _ :: T) tmps { w with drawn := w.drawn + 1 } #[], ⟨cons (hreg _) hT', silent_nil, Nat.le_refl _, fun e he => by simp at he⟩, fun k cs => rfl⟩
  | _ => simp [goodItem] at h0
end
end Go.Proofs.YtpejmgellidhbaaGreatDoor
