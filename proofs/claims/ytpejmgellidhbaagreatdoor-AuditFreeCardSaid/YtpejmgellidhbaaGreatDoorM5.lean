/-
  From the lone walk to the listed one: a piece of code that holds good operations only, and of which the lone walk ('Code.wp') says that it ends normally, is walked in whatever frames it stands, and its steps say neither 'disable' nor 'enable'. By a run over a trap (a frame that ends the run as soon as it is come to), with which the run in question goes in lockstep.
-/
import Derived.Test.YtpejmgellidhbaaGreatDoorM4
import Derived.Conc.RingFork
set_option linter.all false
namespace Go.Proofs.YtpejmgellidhbaaGreatDoor
open Go Go.Conc

def trapK : List Item := [.code (.refuse "")]
def trap : Frame := { fn := 0, tmps := #[], todo := trapK, defers := [{ target := .nil, args := #[] }], mode := .run, kind := .normal }

section
variable {P : Program} {F : FuncId → Bool}

theorem noBlock_trapK : noBlock trapK := fun _ => rfl

theorem over_refuse (f : Frame) (hm : f.mode = .run) (ht : f.todo = trapK) (cs : List Frame) (w : World) : over (stepG P true (G f cs) w) := by
  obtain ⟨fn, tmps, todo, defers, m, kind, round⟩ := f
  cases hm
  cases ht
  exact ⟨_, _, _, rfl⟩

theorem over_trap_raise (chain : List PanicEntry) (cs : List Frame) (w : World) : over (stepG P true (G (trap.raise chain) cs) w) := ⟨_, _, _, rfl⟩

theorem over_trap_finish (v : Value) (cs : List Frame) (w : World) : over (stepG P true (G (trap.finish v) cs) w) := ⟨_, _, _, rfl⟩

instance k_results (fn : Func) (tmps : Array Value) : K P (results fn tmps) := ⟨by
  unfold results
  refine OkT.bind (ok_mapM (fun x => ?_) _) (fun _ => trivial)
  cases x
  · exact trivial
  · exact K.ok⟩

/-- A frame that returns, with another beneath it. -/
theorem step_back (f : Frame) (hf : Plain0 f) (hm : f.mode = .returning) (w : World) :
    (∃ (kk : Frame → Frame) (w' : World) (es : Array Event), (kk = id ∨ ∃ v, kk = (·.finish v)) ∧ Silent es ∧ Grows w w' es ∧ ∀ c rest, stepG P true (G f (c :: rest)) w = .go (G (kk c) rest) w' es) ∨ (∀ c rest, over (stepG P true (G f (c :: rest)) w)) := by
  obtain ⟨hd, hr, hk⟩ := hf
  obtain ⟨fn, tmps, todo, defers, m, kind, round⟩ := f
  cases hm; cases hd; cases hr
  have key : ∀ (v : Value) (w' : World), ∃ (kk : Frame → Frame), (kk = id ∨ ∃ v, kk = (·.finish v)) ∧ ∀ (c : Frame) (rest : List Frame), doReturn P true ⟨fn, tmps, todo, [], .returning, kind, none⟩ (c :: rest) none v w' = .go (G (kk c) rest) w' #[] := by
    intro v w'
    rcases hk with hk | hk <;> cases hk
    · exact ⟨(·.finish v), .inr ⟨v, rfl⟩, fun c rest => rfl⟩
    · exact ⟨id, .inl rfl, fun c rest => rfl⟩
  simp only [G]
  unfold stepG
  dsimp only
  unfold unwind
  dsimp only
  cases hfn : P.funcs[fn]? with
  | none =>
    obtain ⟨kk, h1, h2⟩ := key (tmps.getD 0 undef) w
    exact .inl ⟨kk, w, #[], h1, silent_nil, .refl w, fun c rest => h2 c rest⟩
  | some fnn =>
    dsimp only
    have hrun := (k_results (P := P) fnn tmps).ok.run w #[] silent_nil
    have hlow := (k_results (P := P) fnn tmps).ok.low w #[] (fun e he => by simp at he)
    generalize (results fnn tmps).runT P w #[] = q at hrun hlow
    obtain ⟨res, es⟩ := q
    cases res with
    | ok v w' =>
      obtain ⟨kk, h1, h2⟩ := key v w'
      refine .inl ⟨kk, w', seen P fn es, h1, silent_seen hrun.1, grows_seen hlow, fun c rest => ?_⟩
      have := h2 c rest
      dsimp only
      rw [this]
      simp [GStep.after, G]
    | halt h w' =>
      right
      intro c rest
      cases h <;> exact ⟨_, _, _, rfl⟩

theorem step_panic (f : Frame) (hf : Plain0 f) (chain : List PanicEntry) (hm : f.mode = .panicking chain) (w : World) :
    (∀ c rest, stepG P true (G f (c :: rest)) w = .go (G (c.raise chain) rest) w #[]) ∨ (∀ c rest, over (stepG P true (G f (c :: rest)) w)) := by
  obtain ⟨hd, hr, hk⟩ := hf
  obtain ⟨fn, tmps, todo, defers, m, kind, round⟩ := f
  cases hm; cases hd; cases hr
  by_cases hc : (Frame.catches P ⟨fn, tmps, todo, [], .panicking chain, kind, none⟩) = true
  · right
    intro c rest
    exact ⟨_, _, _, by simp only [G, stepG, unwind, hc, if_true]; rfl⟩
  · left
    intro c rest
    simp only [G, stepG, unwind, hc, if_false, Bool.false_eq_true]

abbrev botF (f : Frame) (T k : List Item) : Frame := { f with todo := T ++ k }

/-- The run over the trap, and the run in question. -/
inductive Twin (F : FuncId → Bool) (k : List Item) (cs : List Frame) : Goroutine → Goroutine → Prop
  | bot (f : Frame) (T : List Item) : Plain0 f → (∀ x ∈ T, goodItem F x = true) → Twin F k cs (G (botF f T trapK) [trap]) (G (botF f T k) cs)
  | mid (fr : Frame) (mids : List Frame) (f : Frame) (T : List Item) : GoodF F fr → (∀ m ∈ mids, GoodF F m ∧ m.mode = .run) → Plain0 f → f.mode = .run → T ≠ [] → (∀ x ∈ T, goodItem F x = true) →
      Twin F k cs (G fr (mids ++ [botF f T trapK, trap])) (G fr (mids ++ botF f T k :: cs))

/-- It has come to the trap. -/
def Dead (P : Program) (g : Goroutine) : Prop := g.callers = [] ∧ g.status = .running ∧ g.dying = none ∧ ∀ w, over (stepG P true g w)

theorem goodF_finish {c : Frame} (h : GoodF F c) (v : Value) : GoodF F (c.finish v) := by
  obtain ⟨⟨h1, h2, h3⟩, h4⟩ := h
  obtain ⟨fn, tmps, todo, defers, m, kind, round⟩ := c
  unfold Frame.finish
  split <;> first
    | exact ⟨⟨h1, h2, h3⟩, h4⟩
    | skip
  · rename_i ops i rest kk he
    dsimp only at he h4
    refine ⟨⟨h1, h2, h3⟩, fun it hit => ?_⟩
    rcases List.mem_cons.1 hit with rfl | h
    · have := h4 (.inRegion ops (i :: rest)) (by rw [he]; simp); exact this
    · exact h4 it (by rw [he]; simp [h])
  all_goals (rename_i he; dsimp only at he h4; exact absurd (h4 _ (by rw [he]; exact List.mem_cons_self)) (by simp [goodItem]))

theorem finish_mode (c : Frame) (v : Value) : (c.finish v).mode = c.mode := by
  unfold Frame.finish
  split <;> rfl

theorem finish_bot (f : Frame) (hf : Plain0 f) (T : List Item) (hT : T ≠ []) (hg : ∀ x ∈ T, goodItem F x = true) (v : Value) :
    ∃ (f' : Frame) (T' : List Item), Plain0 f' ∧ f'.mode = f.mode ∧ T' ≠ [] ∧ (∀ x ∈ T', goodItem F x = true) ∧ ∀ k, (botF f T k).finish v = botF f' T' k := by
  cases T with
  | nil => exact absurd rfl hT
  | cons it T =>
    have h0 := hg it (by simp)
    have hsame : ∀ (h : ∀ k, (botF f (it :: T) k).finish v = botF f (it :: T) k), ∃ (f' : Frame) (T' : List Item), Plain0 f' ∧ f'.mode = f.mode ∧ T' ≠ [] ∧ (∀ x ∈ T', goodItem F x = true) ∧ ∀ k, (botF f (it :: T) k).finish v = botF f' T' k :=
      fun h => ⟨f, it :: T, hf, rfl, hT, hg, h⟩
    cases it <;> first | (simp [goodItem] at h0; done) | exact hsame (fun k => rfl) | skip
    rename_i ops l
    cases l with
    | nil => exact hsame (fun k => rfl)
    | cons i r =>
      refine ⟨{ f with tmps := match (ops[i]?).bind (·.dst) with | some d => f.tmps.setIfInBounds d v | none => f.tmps }, .inRegion ops r :: T, ⟨hf.1, hf.2, hf.3⟩, rfl, by simp, ?_, fun k => rfl⟩
      intro x hx
      rcases List.mem_cons.1 hx with rfl | h
      · exact h0
      · exact hg x (by simp [h])

/-- ONE STEP OF BOTH. -/
theorem twin_step (hF : Listed P F) {k : List Item} {cs : List Frame} {g' g : Goroutine} (h : Twin F k cs g' g) (w : World) :
    over (stepG P true g' w) ∨ (∃ d w' es, stepG P true g' w = .go d w' es ∧ Dead P d) ∨
      ∃ h' h w' es, stepG P true g' w = .go h' w' es ∧ stepG P true g w = .go h w' es ∧ Silent es ∧ Grows w w' es ∧ Twin F k cs h' h := by
  have deadF : ∀ v, Dead P (G (trap.finish v) []) := fun v => ⟨rfl, rfl, rfl, fun w => over_trap_finish v [] w⟩
  have deadI : Dead P (G trap []) := ⟨rfl, rfl, rfl, fun w => ⟨_, _, _, rfl⟩⟩
  have deadR : ∀ c, Dead P (G (trap.raise c) []) := fun c => ⟨rfl, rfl, rfl, fun w => over_trap_raise c [] w⟩
  cases h with
  | bot f T hf hT =>
    cases hm : f.mode with
    | run =>
      cases T with
      | nil => exact .inl (over_refuse (botF f [] trapK) hm rfl _ _)
      | cons it T =>
        obtain ⟨o, ho, hfit⟩ := step_run hF f hf hm it T hT w
        have h1 := hfit trapK [trap]
        have h2 := hfit k cs
        cases o with
        | stay T' tmps w' es => exact .inr (.inr ⟨_, _, _, _, h1, h2, ho.2.1, ho.2.2, .bot { f with tmps } T' ⟨hf.1, hf.2, hf.3⟩ ho.1⟩)
        | mode m w' es => exact .inr (.inr ⟨_, _, _, _, h1, h2, ho.2.1, ho.2.2, .bot { f with mode := m } (it :: T) ⟨hf.1, hf.2, hf.3⟩ hT⟩)
        | push frs fr w' es =>
          exact .inr (.inr ⟨_, _, _, _, h1, h2, ho.2.2.2.1, ho.2.2.2.2, .mid fr frs f (it :: T) ho.2.1 ho.1 hf hm (by simp) hT⟩)
        | same w' es => exact .inr (.inr ⟨_, _, _, _, h1, h2, ho.1, ho.2, .bot f (it :: T) hf hT⟩)
        | jump => exact .inl (h1 noBlock_trapK)
        | ended => exact .inl h1
    | returning =>
      rcases step_back (P := P) (botF f T trapK) ⟨hf.1, hf.2, hf.3⟩ hm w with ⟨kk, w', es, hk, _, _, hs⟩ | hs
      · refine .inr (.inl ⟨_, _, _, hs trap [], ?_⟩)
        rcases hk with rfl | ⟨v, rfl⟩
        · exact deadI
        · exact deadF v
      · exact .inl (hs trap [])
    | panicking chain =>
      rcases step_panic (P := P) (botF f T trapK) ⟨hf.1, hf.2, hf.3⟩ chain hm w with hs | hs
      · exact .inr (.inl ⟨_, _, _, hs trap [], deadR chain⟩)
      · exact .inl (hs trap [])
  | mid fr mids f T hfr hmids hf hm hTn hT =>
    have back : ∀ (kk : Frame → Frame), (kk = id ∨ ∃ v, kk = (·.finish v)) → ∃ c' rest' c rest, mids ++ [botF f T trapK, trap] = c' :: rest' ∧ mids ++ botF f T k :: cs = c :: rest ∧ Twin F k cs (G (kk c') rest') (G (kk c) rest) := by
      intro kk hk
      cases mids with
      | nil =>
        refine ⟨_, _, _, _, rfl, rfl, ?_⟩
        rcases hk with rfl | ⟨v, rfl⟩
        · exact .bot f T hf hT
        · obtain ⟨f', T', h1, h2, h3, h4, h5⟩ := finish_bot f hf T hTn hT v
          dsimp only
          rw [h5, h5]
          exact .bot f' T' h1 h4
      | cons m mids =>
        refine ⟨_, _, _, _, rfl, rfl, ?_⟩
        have hm1 := hmids m (by simp)
        rcases hk with rfl | ⟨v, rfl⟩
        · exact .mid m mids f T hm1.1 (fun x hx => hmids x (by simp [hx])) hf hm hTn hT
        · exact .mid _ mids f T (goodF_finish hm1.1 v) (fun x hx => hmids x (by simp [hx])) hf hm hTn hT
    have up : ∀ (chain : List PanicEntry), ∃ c' rest' c rest, mids ++ [botF f T trapK, trap] = c' :: rest' ∧ mids ++ botF f T k :: cs = c :: rest ∧ Twin F k cs (G (c'.raise chain) rest') (G (c.raise chain) rest) := by
      intro chain
      cases mids with
      | nil =>
        refine ⟨_, _, _, _, rfl, rfl, ?_⟩
        have e : ∀ k, (botF f T k).raise chain = botF { f with mode := .panicking chain } T k := by
          intro k
          obtain ⟨_, _, _, _, m, _, _⟩ := f
          cases hm
          rfl
        rw [e, e]
        exact .bot { f with mode := .panicking chain } T ⟨hf.1, hf.2, hf.3⟩ hT
      | cons m mids =>
        refine ⟨_, _, _, _, rfl, rfl, ?_⟩
        have hm1 := hmids m (by simp)
        refine .mid _ mids f T ⟨⟨?_, ?_, ?_⟩, ?_⟩ (fun x hx => hmids x (by simp [hx])) hf hm hTn hT
        all_goals
          unfold Frame.raise
          split
          · first | exact hm1.1.1.1 | exact hm1.1.1.2 | exact hm1.1.1.3 | exact hm1.1.2
          · first | exact hm1.1.1.1 | exact hm1.1.1.2 | exact hm1.1.1.3 | exact hm1.1.2
    cases hmf : fr.mode with
    | run =>
      obtain ⟨fn, tmps, todo, defers, m, kind, round⟩ := fr
      cases hmf
      cases todo with
      | nil =>
        have hr := hfr.round
        cases hr
        refine .inr (.inr ⟨G ⟨fn, tmps, [], defers, .returning, kind, none⟩ (mids ++ [botF f T trapK, trap]), G ⟨fn, tmps, [], defers, .returning, kind, none⟩ (mids ++ botF f T k :: cs), w, #[], rfl, rfl, silent_nil, .refl w, .mid _ mids f T ⟨⟨hfr.1.1, rfl, hfr.1.3⟩, fun x hx => by simp at hx⟩ hmids hf hm hTn hT⟩)
      | cons it T0 =>
        obtain ⟨o, ho, hfit⟩ := step_run hF ⟨fn, tmps, it :: T0, defers, .run, kind, round⟩ hfr.1 rfl it T0 hfr.2 w
        have h1 := hfit [] (mids ++ [botF f T trapK, trap])
        have h2 := hfit [] (mids ++ botF f T k :: cs)
        simp only [List.append_nil] at h1 h2
        cases o with
        | stay T' tm w' es =>
          refine .inr (.inr ⟨_, _, _, _, h1, h2, ho.2.1, ho.2.2, ?_⟩)
          exact .mid _ mids f T ⟨⟨hfr.1.1, hfr.1.2, hfr.1.3⟩, by simpa using ho.1⟩ hmids hf hm hTn hT
        | mode m w' es =>
          refine .inr (.inr ⟨_, _, _, _, h1, h2, ho.2.1, ho.2.2, ?_⟩)
          exact .mid _ mids f T ⟨⟨hfr.1.1, hfr.1.2, hfr.1.3⟩, by simpa using hfr.2⟩ hmids hf hm hTn hT
        | push frs fr' w' es =>
          refine .inr (.inr ⟨_, _, _, _, h1, h2, ho.2.2.2.1, ho.2.2.2.2, ?_⟩)
          have := Twin.mid (k := k) (cs := cs) fr' (frs ++ ⟨fn, tmps, it :: T0 ++ [], defers, .run, kind, round⟩ :: mids) f T ho.2.1 (by
            intro x hx
            rcases List.mem_append.1 hx with hx | hx
            · exact ho.1 x hx
            · rcases List.mem_cons.1 hx with rfl | hx
              · exact ⟨⟨⟨hfr.1.1, hfr.1.2, hfr.1.3⟩, by simpa using hfr.2⟩, rfl⟩
              · exact hmids x hx) hf hm hTn hT
          simpa using this
        | same w' es =>
          refine .inr (.inr ⟨_, _, _, _, h1, h2, ho.1, ho.2, ?_⟩)
          exact .mid _ mids f T ⟨⟨hfr.1.1, hfr.1.2, hfr.1.3⟩, by simpa using hfr.2⟩ hmids hf hm hTn hT
        | jump => exact .inl (h1 (fun _ => rfl))
        | ended => exact .inl h1
    | returning =>
      rcases step_back (P := P) fr hfr.1 hmf w with ⟨kk, w', es, hk, hse, hgr, hs⟩ | hs
      · obtain ⟨c', rest', c, rest, e1, e2, ht⟩ := back kk hk
        rw [e1, e2]
        exact .inr (.inr ⟨_, _, _, _, hs _ _, hs _ _, hse, hgr, ht⟩)
      · obtain ⟨c', rest', c, rest, e1, e2, ht⟩ := back id (.inl rfl)
        rw [e1]
        exact .inl (hs _ _)
    | panicking chain =>
      obtain ⟨c', rest', c, rest, e1, e2, ht⟩ := up chain
      rw [e1, e2]
      rcases step_panic (P := P) fr hfr.1 chain hmf w with hs | hs
      · exact .inr (.inr ⟨_, _, _, _, hs _ _, hs _ _, silent_nil, .refl w, ht⟩)
      · exact .inl (hs _ _)
end
end Go.Proofs.YtpejmgellidhbaaGreatDoor
