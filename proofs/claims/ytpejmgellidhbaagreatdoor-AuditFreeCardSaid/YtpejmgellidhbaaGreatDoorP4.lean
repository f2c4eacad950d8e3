/-
  Phase B: the channel is closed. The machine beside a ghost machine, in which every worker that is still ahead of its receive stands behind it already: the ghost keeps the library's invariant of the crowd; from there to the return, on every tape.
-/
import Derived.Test.YtpejmgellidhbaaGreatDoorP3
set_option linter.all false
namespace Go.Proofs.YtpejmgellidhbaaGreatDoor
open Go Go.Conc Go.ConcN
open Go.ConcR (KK wgBlock WgAt stA smA rd wr mk Payload Aside2 DC0 Bk g_of_ofEvents loc_of_ofEvent)
variable [Payload]

omit [Payload] in
theorem crowd_inj {gs gs' : Array Goroutine} {w w' : World} {sl sl' : Option (Nat × Nat)} (h : crowd gs w sl = crowd gs' w' sl') : gs = gs' ∧ w = w' ∧ sl = sl' := by
  simp only [crowd, Machine.mk.injEq, Rest.mk.injEq] at h
  exact ⟨h.2.1, h.1, by simpa using h.2.2⟩

/-- Worker k has not released. -/
def Unreleased (Wg : Nat) (t : Trace) (k : Nat) : Prop := ∀ op ∈ t, op.g = k → op.act ≠ .mark (.releaseMerge (stA Wg))

omit [Payload] in
theorem Unreleased.app {Wg k : Nat} {t u : Trace} (h : Unreleased Wg t k) (hu : ∀ op ∈ u, op.g = k → op.act ≠ .mark (.releaseMerge (stA Wg))) : Unreleased Wg (t ++ u) k := fun op hop => (Array.mem_append.1 hop).elim (h op) (hu op)
omit [Payload] in
theorem Unreleased.not {Wg k r : Nat} {t : Trace} (h : Unreleased Wg t k) (hr : RelBy (stA Wg) t k r) : False := by
  obtain ⟨op, ho, hoa⟩ := Option.map_eq_some_iff.1 hr.act
  have hg := hr.g
  simp only [Trace.g?, ho, Option.map_some, Option.some.injEq] at hg
  exact h op (Array.mem_of_getElem? ho) hg hoa

/-- An entry of a worker's ahead of its release. -/
def IdleOp (Wg : Nat) (Own Rd : Nat → Loc → Prop) (k : Nat) (op : MemOp) : Prop :=
  OkW (ShN Wg) Own Rd k op ∧ op.act ≠ .mark .disable ∧ op.act ≠ .mark .enable ∧ op.act ≠ .mark (.release (stA Wg)) ∧ op.act ≠ .mark (.releaseMerge (stA Wg))

omit [Payload] in
theorem idleOp_of {Wg k : Nat} {Own Rd : Nat → Loc → Prop} {fn : FuncId} {pos : String} {es : Array Event} (h : ∀ e ∈ es, EvIdle Wg Own Rd e) : ∀ op ∈ MemOp.ofEvents k fn pos es, IdleOp Wg Own Rd k op := by
  intro op hop
  have h1 := okW_of_EvW (fn := fn) (pos := pos) (fun e he => (h e he).1 k) op hop
  rw [ofEvents_eq] at hop
  obtain ⟨e, he, rfl⟩ := Array.mem_map.1 hop
  obtain ⟨h2, h3, h4⟩ := ((h e he).1 k).2
  exact ⟨h1, fun x => h2 (loc_of_ofEvent x), fun x => h3 (loc_of_ofEvent x), fun x => h4 (loc_of_ofEvent x), fun x => (h e he).2 (loc_of_ofEvent x)⟩

section
variable {P : Program} {ty : TypeId} {Wg C n : Nat} {Own Rd : Nat → Loc → Prop} {Lw : Nat → Nat} {val : Nat → Value} {vals : List Value} {AnchW : Goroutine → World → Prop} {Post : Value → World → Prop}
  {K : World → Prop} {c : Nat} {z : Value} {h : Nat → Goroutine}

/-- The ghost, under a worker's entries ahead of its release. -/
theorem Com.idle (A : Apart (ShN Wg) Own Rd) {j d0 : Nat} {gh : Array Goroutine} {w : World} {t u : Trace} {D : Nat → WD} (hcom : Com P ty Wg C n Own Rd Lw val j gh w t D d0) {i : Nat} (hi : i < j) (hu : ∀ op ∈ u, IdleOp Wg Own Rd (i + 1) op) (hun : Unreleased Wg t (i + 1)) :
    Com P ty Wg C n Own Rd Lw val j gh w (t ++ u) D d0 := by
  have hg : ∀ op ∈ u, op.g = i + 1 := fun op hop => (hu op hop).1.1
  have hst : ∀ op ∈ u, op.act ≠ .mark .disable ∧ op.act ≠ .mark .enable := fun op hop => ⟨(hu op hop).2.1, (hu op hop).2.2.1⟩
  refine ⟨hcom.size, hcom.wk, hcom.ct.appW A (by omega) (by omega) fun op hop => (hu op hop).1, hcom.norel.app fun op hop => (hu op hop).2.2.2.1, by rw [Deaf_still t 0 u hst, hcom.deaf0], fun i' hi' => by rw [Deaf_still t _ u hst, hcom.deafW i' hi'], fun i' hi' hs => ?_, hcom.has, hcom.pay⟩
  obtain ⟨r, hr⟩ := hcom.rel i' hi' hs
  by_cases e : i' = i
  · subst e; exact (hun.not hr).elim
  · exact ⟨r, hr.appOther hg (by omega)⟩

variable (P K Wg Own Rd c z h n) in
/-- The machine and its ghost. -/
structure RelB (gs gh : Array Goroutine) (w : World) (t : Trace) (pre : Nat → Nat) : Prop where
  size : gs.size = n + 1
  sizeh : gh.size = n + 1
  main : gs[0]? = gh[0]?
  wk : ∀ i, i < n → (pre i = 0 ∧ gs[i + 1]? = gh[i + 1]?) ∨ (∃ m g, pre i = m + 1 ∧ gs[i + 1]? = some g ∧ OnWay P K (EvIdle Wg Own Rd) c z (h i) m g ∧ gh[i + 1]? = some (h i) ∧ (h i).status = .running ∧ Unreleased Wg t (i + 1))
  k : K w
  chan : ChanShut c w

variable (P ty Wg C n Own Rd Lw val vals AnchW Post K c z h) in
def InvB (μ : Nat × Nat) (m : Machine) (t : Trace) : Prop :=
  ∃ gs gh w sl ν pre, m = crowd gs w sl ∧ Inv P ty Wg C n Own Rd Lw val vals AnchW Post ν (crowd gh w sl) t ∧ (gs = gh ∨ RelB P Wg n Own Rd K c z h gs gh w t pre) ∧ μ = (ν.1, ν.2 + 2 * sumTo n pre)

omit [Payload] in
theorem lt2_add {ν ν' : Nat × Nat} (x : Nat) (h : Lt2 ν' ν) : Lt2 (ν'.1, ν'.2 + x) (ν.1, ν.2 + x) := by
  obtain ⟨a, b⟩ := ν
  obtain ⟨a', b'⟩ := ν'
  rcases Prod.lex_def.1 h with h | ⟨h1, h2⟩
  · exact Prod.Lex.left _ _ h
  · simp only at h1 h2 ⊢
    subst h1
    exact Prod.Lex.right _ (by omega)

theorem Com.reMain {j d0 : Nat} {gh : Array Goroutine} {w : World} {t : Trace} {D : Nat → WD} (hcom : Com P ty Wg C n Own Rd Lw val j gh w t D d0) (a : Goroutine) : Com P ty Wg C n Own Rd Lw val j (gh.setIfInBounds 0 a) w t D d0 :=
  ⟨by simp [hcom.size], fun i hi => let ⟨g, hg, hs⟩ := hcom.wk i hi; ⟨g, by rw [Array.getElem?_setIfInBounds_ne (by omega)]; exact hg, hs⟩, hcom.ct, hcom.norel, hcom.deaf0, hcom.deafW, hcom.rel, hcom.has, hcom.pay⟩

omit [Payload] in
theorem RelB.all {gs gh : Array Goroutine} {w : World} {t : Trace} {pre : Nat → Nat} (x : RelB P Wg n Own Rd K c z h gs gh w t pre) (h0 : ∀ i, i < n → pre i = 0) : gs = gh := by
  apply Array.ext_getElem?
  intro i
  cases i with
  | zero => exact x.main
  | succ i =>
    rcases Nat.lt_or_ge i n with hlt | hge
    · rcases x.wk i hlt with ⟨_, e⟩ | ⟨m, g, e, _⟩
      · exact e
      · have := h0 i hlt; omega
    · rw [Array.getElem?_eq_none (by rw [x.size]; omega), Array.getElem?_eq_none (by rw [x.sizeh]; omega)]

theorem csit_noSend {j f d : Nat} {tag : CTag} {a : Goroutine} {w : World} (hAr : ∀ g w, AnchW g w → g.status = .running) (hcs : CSit P ty Wg C n Own Rd Lw val vals AnchW Post tag j f d a w) (c : Nat) : offersAt a c true = [] := by
  cases hcs with
  | blk hb =>
    have := (hb w (.refl w)).2.1
    simp [offersAt, this]
  | skd _ hg => exact offersAt_of_not_blocked (by rw [Goes.running (fun _ _ x => x.1) w (RC.refl w) hg]; simp) _ _
  | sa1 _ hg => exact offersAt_of_not_blocked (by rw [Goes.running (fun _ _ x => x.1) w (RC.refl w) hg]; simp) _ _
  | ske _ hg => exact offersAt_of_not_blocked (by rw [Goes.running (fun _ _ x => x.1) w (RC.refl w) hg]; simp) _ _
  | sgo _ hg => exact offersAt_of_not_blocked (by rw [Goes.running (fun _ _ x => x.1) w (RC.refl w) hg]; simp) _ _
  | kd hg => exact offersAt_of_not_blocked (by rw [Goes.running (fun _ _ x => x.1) w (RC.refl w) hg]; simp) _ _
  | anch hg => exact offersAt_of_not_blocked (by rw [Goes.running hAr w (RC.refl w) hg]; simp) _ _
  | w1 hg => exact offersAt_of_not_blocked (by rw [Goes.running (fun _ _ x => x.1) w (RC.refl w) hg]; simp) _ _
  | w2 hg => exact offersAt_of_not_blocked (by rw [Goes.running (fun _ _ x => x.1) w (RC.refl w) hg]; simp) _ _
  | w3 hg => exact offersAt_of_not_blocked (by rw [Goes.running (fun _ _ x => x.1) w (RC.refl w) hg]; simp) _ _
  | w4 hg => exact offersAt_of_not_blocked (by rw [Goes.running (fun _ _ x => x.1) w (RC.refl w) hg]; simp) _ _
  | ke hg => exact offersAt_of_not_blocked (by rw [Goes.running (fun _ _ x => x.1) w (RC.refl w) hg]; simp) _ _
  | acq hg => exact offersAt_of_not_blocked (by rw [Goes.running (fun _ _ x => x.1) w (RC.refl w) hg]; simp) _ _
  | ret hg => exact offersAt_of_not_blocked (by rw [Goes.running (fun _ _ x => x.1) w (RC.refl w) hg]; simp) _ _

theorem stepB (A : Apart (ShN Wg) Own Rd) (G : Geo Wg C Lw) (hn : n < 2147483648) (hAr : ∀ g w, AnchW g w → g.status = .running)
    (hAn : ∀ g w, AnchW g w → ∃ m, Goes P true (RC ty Wg C) (DP Wg Own Rd n (Lw n)) (AtW1 P ty Wg C n Own Rd (Lw n) vals AnchW Post) m g w)
    (hl : vals.length = n) (hv : ∀ i, i < n → vals[i]? = some (val i)) (hKk : ∀ w w', Keeps Wg C (Lw n) w w' → K w → K w') (hcL : c < Lw n) (hcW : c ≠ Wg) (hcC : c ≠ C) :
    ∀ μ m t, InvB P ty Wg C n Own Rd Lw val vals AnchW Post K c z h μ m t →
    (∃ o w ops, stepT P m = (.ended o w, ops) ∧ Good P Post m o w (t ++ ops)) ∨ (∃ m' ops μ', stepT P m = (.next m', ops) ∧ Lt2 μ' μ ∧ InvB P ty Wg C n Own Rd Lw val vals AnchW Post K c z h μ' m' (t ++ ops)) := by
  have same : ∀ (gs : Array Goroutine) (w : World) (sl : Option (Nat × Nat)) (t : Trace) (ν : Nat × Nat) (pre : Nat → Nat), Inv P ty Wg C n Own Rd Lw val vals AnchW Post ν (crowd gs w sl) t →
      (∃ o w₁ ops, stepT P (crowd gs w sl) = (.ended o w₁, ops) ∧ Good P Post (crowd gs w sl) o w₁ (t ++ ops)) ∨ (∃ m' ops μ', stepT P (crowd gs w sl) = (.next m', ops) ∧ Lt2 μ' (ν.1, ν.2 + 2 * sumTo n pre) ∧ InvB P ty Wg C n Own Rd Lw val vals AnchW Post K c z h μ' m' (t ++ ops)) := by
    intro gs w sl t ν pre hI
    rcases crowd_step A G hn hAr hAn hl hv ν _ t hI with h1 | ⟨m', ops, ν', h1, h2, h3⟩
    · exact .inl h1
    · obtain ⟨gs', w', sl', j, D, tag, f0, d0, a, st, sm, rfl, hrest⟩ := id h3
      exact .inr ⟨_, ops, (ν'.1, ν'.2 + 2 * sumTo n pre), h1, lt2_add _ h2, gs', gs', w', sl', ν', pre, rfl, h3, .inl rfl, rfl⟩
  rintro μ m t ⟨gs, gh, w, sl, ν, pre, rfl, hI, hrel, rfl⟩
  rcases hrel with rfl | hR
  · exact same _ _ _ _ _ _ hI
  by_cases hall : ∀ i, i < n → pre i = 0
  · obtain rfl := hR.all hall
    exact same _ _ _ _ _ _ hI
  obtain ⟨p, hp, hpne⟩ : ∃ p, p < n ∧ pre p ≠ 0 := by
    simp only [Classical.not_forall] at hall
    obtain ⟨p, hp, hne⟩ := hall
    exact ⟨p, hp, hne⟩
  obtain ⟨mp, gp, hmp, hgp, honp, hghp, hhp, hunp⟩ : ∃ m g, pre p = m + 1 ∧ gs[p + 1]? = some g ∧ OnWay P K (EvIdle Wg Own Rd) c z (h p) m g ∧ gh[p + 1]? = some (h p) ∧ (h p).status = .running ∧ Unreleased Wg t (p + 1) := by
    rcases hR.wk p hp with ⟨e, _⟩ | x
    · exact absurd e hpne
    · exact x
  obtain ⟨gh', w', sl', j, D, tag, f0, d0, a, st, sm, e, ha, hcs, hcom, hwg, hmode, hacq, rfl⟩ := hI
  obtain ⟨rfl, rfl, rfl⟩ := crowd_inj e
  clear e
  have hjn : j = n := by have := hcom.size; rw [hR.sizeh] at this; omega
  subst hjn
  have ha' : gs[0]? = some a := hR.main.trans ha
  have hnret : tag ≠ .ret := fun e => by
    obtain ⟨q, _, _, _, hq⟩ := hacq e
    obtain ⟨r, hr, _⟩ := hq p hp
    exact hunp.not hr
  have hstat : ∀ (i : Nat) (g : Goroutine), gs[i + 1]? = some g → g.status = .running ∨ g.status = .finished := by
    intro i g hg
    have hi : i < j := by have := (Array.getElem?_eq_some_iff.1 hg).1; rw [hR.size] at this; omega
    rcases hR.wk i hi with ⟨_, e⟩ | ⟨m, g', _, hg', hon, _⟩
    · obtain ⟨x, hx, hsx⟩ := hcom.wk i hi
      rw [hg] at e
      rw [← e] at hx
      cases hx
      exact hsx.status
    · rw [hg] at hg'; cases hg'
      exact .inl hon.running
  have haw : ∀ g ∈ gs, awake g := by
    intro g hg tm
    obtain ⟨i, hi⟩ := Array.mem_iff_getElem?.1 hg
    cases i with
    | zero =>
      rw [ha'] at hi; cases hi
      rcases hcs.status hAr with ⟨hs, _⟩ | ⟨hs, _⟩ <;> rw [hs] <;> simp
    | succ i => rcases hstat i g hi with h | h <;> rw [h] <;> simp
  obtain ⟨i, g, dd, sl', hi, hg, hst⟩ := crowd_pick (P := P) (w := w) (sl := sl) haw ⟨p + 1, gp, hgp, honp.running⟩
  have hcs' := hcs.rely (RC.at w dd)
  have hcom' := hcom.at dd
  have hwg' : WgAt ty Wg (w.at dd) st sm := hwg
  have hk' : K (w.at dd) := hKk _ _ (.at _ _ _ w dd) hR.k
  have hch' : ChanShut c (w.at dd) := hR.chan
  -- how the two go alike
  have alike : ∀ {i : Nat} {g g' : Goroutine} {w' : World} {es : Array Event} {m₁ : Machine} {ops : Array MemOp} {μ' : Nat × Nat}, stepT P (crowd gs w sl) = runT P (crowd gs (w.at dd) sl') i → gs[i]? = some g → gh[i]? = some g → stepG P (i == 0) g (w.at dd) = .go g' w' es → Keeps Wg C (Lw j) (w.at dd) w' →
      runT P (crowd gh (w.at dd) sl') i = (.next m₁, ops) → Lt2 μ' (phi j (Vc j D) tag + Ssum j D, f0 + 2 * Fsum j D) → Inv P ty Wg C j Own Rd Lw val vals AnchW Post μ' m₁ (t ++ ops) → (∀ i', i = i' + 1 → pre i' = 0) → i < j + 1 →
      ∃ m' ops μ', stepT P (crowd gs w sl) = (.next m', ops) ∧ Lt2 μ' (phi j (Vc j D) tag + Ssum j D, f0 + 2 * Fsum j D + 2 * sumTo j pre) ∧ InvB P ty Wg C j Own Rd Lw val vals AnchW Post K c z h μ' m' (t ++ ops) := by
    intro i g g' w' es m₁ ops μ' hst hi hih hgo hkeep hrunh hlt hI' hpre hij
    have hr1 := runT_crowd_go (P := P) (sl := sl') hi hgo
    have hr2 := runT_crowd_go (P := P) (sl := sl') hih hgo
    rw [hr2] at hrunh
    simp only [Prod.mk.injEq, Stepped.next.injEq] at hrunh
    obtain ⟨rfl, rfl⟩ := hrunh
    refine ⟨_, _, (μ'.1, μ'.2 + 2 * sumTo j pre), hst.trans hr1, lt2_add _ hlt, _, _, w', sl', μ', pre, rfl, hI', .inr ⟨by simp [hR.size], by simp [hR.sizeh], ?_, fun i' hi' => ?_, hKk _ _ hkeep hk', ?_⟩, rfl⟩
    · by_cases e : i = 0
      · subst e; rw [get_map_set_same _ _ _ (by rw [hR.size]; omega), get_map_set_same _ _ _ (by rw [hR.sizeh]; omega)]
      · rw [get_map_set _ _ _ _ e, get_map_set _ _ _ _ e, hR.main]
    · by_cases e : i = i' + 1
      · subst e
        exact .inl ⟨hpre i' rfl, by rw [get_map_set_same _ _ _ (by rw [hR.size]; omega), get_map_set_same _ _ _ (by rw [hR.sizeh]; omega)]⟩
      · rcases hR.wk i' hi' with ⟨h0, e1⟩ | ⟨m, x, h0, hx, hon, hxh, hxr, hun⟩
        · exact .inl ⟨h0, by rw [get_map_set _ _ _ _ e, get_map_set _ _ _ _ e, e1]⟩
        · refine .inr ⟨m, x, h0, ?_, hon, ?_, hxr, hun.app fun op hop hg => absurd ((g_of_ofEvents op hop).symm.trans hg) e⟩
          · rw [get_map_set _ _ _ _ e, hx, Option.map_some, woken_run hon.running]
          · rw [get_map_set _ _ _ _ e, hxh, Option.map_some, woken_run hxr]
    · obtain ⟨cap, s, r, tm, hx⟩ := hch'
      exact ⟨cap, s, r, tm, (hkeep c hcL hcW hcC).trans hx⟩
  cases i with
  | zero =>
    obtain rfl : g = a := by rw [ha'] at hi; exact (Option.some.inj hi).symm
    obtain ⟨a', w', es, hgo, hkeep⟩ := caller_go hn hAn rfl hcs' hwg' hmode hg hnret
    rcases stepCaller (sl := sl') A G hn hAn hl hv ha hcs' hcom' hwg' hmode hacq hg with ⟨o, w₁, ops, h1, _⟩ | ⟨m₁, ops, μ', h1, h2, h3⟩
    · have hr2 := runT_crowd_go (P := P) (sl := sl') (i := 0) ha (by simpa using hgo)
      rw [hr2] at h1
      simp at h1
    · exact .inr (alike hst ha' ha (by simpa using hgo) hkeep h1 h2 h3 (fun i' e => by omega) (by omega))
  | succ i =>
    have hij : i < j := by have := (Array.getElem?_eq_some_iff.1 hi).1; rw [hR.size] at this; omega
    have h0i : ((i + 1 : Nat) == 0) = false := rfl
    rcases hR.wk i hij with ⟨h0, e1⟩ | ⟨m, x, h0, hx, hon, hxh, hxr, hun⟩
    · -- a worker behind its receive
      have hih : gh[i + 1]? = some g := by rw [← e1]; exact hi
      obtain ⟨x, hx, hsx⟩ := hcom'.wk i hij
      obtain rfl : g = x := by rw [hih] at hx; exact Option.some.inj hx
      obtain ⟨g', w', es, hgo, hkeep⟩ := worker_go (Low' := Lw j) hwg' hmode hij rfl (by have := hcs'.bound; omega) hsx hg
      obtain ⟨m₁, ops, μ', h1, h2, h3⟩ := stepWorker (sl := sl') A G hAr hn ha hcs' hcom' hwg' hmode hacq hij hih hg
      exact .inr (alike hst hi hih (by rw [h0i]; exact hgo) hkeep h1 h2 h3 (fun i' e => (by omega : i = i') ▸ h0) (by omega))
    · -- a worker ahead of its receive
      obtain rfl : g = x := by rw [hi] at hx; exact Option.some.inj hx
      have hlt' : i + 1 < gs.size := (Array.getElem?_eq_some_iff.1 hi).1
      have fin : ∀ {gs' : Array Goroutine} {u : Array MemOp} {k f₂ : Nat} {a₂ : Goroutine} {tag₂ : CTag}, runT P (crowd gs (w.at dd) sl') (i + 1) = (.next (crowd gs' (w.at dd) sl'), u) → (∀ op ∈ u, IdleOp Wg Own Rd (i + 1) op) → k < pre i → gs'.size = gs.size → gs'[0]? = some a₂ → (∀ i', i' < j → i' ≠ i → gs'[i' + 1]? = gs[i' + 1]?) →
          CSit P ty Wg C j Own Rd Lw val vals AnchW Post tag₂ j f₂ d0 a₂ (w.at dd) → f₂ ≤ f0 + 1 → (tag₂ = tag ∨ (tag = .blk ∧ tag₂ = .w3)) →
          ((k = 0 ∧ gs'[i + 1]? = some (h i)) ∨ (∃ m g', k = m + 1 ∧ gs'[i + 1]? = some g' ∧ OnWay P K (EvIdle Wg Own Rd) c z (h i) m g')) →
          ∃ m' ops μ', stepT P (crowd gs w sl) = (.next m', ops) ∧ Lt2 μ' (phi j (Vc j D) tag + Ssum j D, f0 + 2 * Fsum j D + 2 * sumTo j pre) ∧ InvB P ty Wg C j Own Rd Lw val vals AnchW Post K c z h μ' m' (t ++ ops) := by
        intro gs' u k f₂ a₂ tag₂ hrunT hu hk hsz h0 hoth hcs₂ hf₂ htag hnew
        have hsum : sumTo j (upd pre i k) + pre i = sumTo j pre + k := sumTo_upd pre k id hij
        have hgu : ∀ op ∈ u, op.g = i + 1 := fun op hop => (hu op hop).1.1
        have hret : tag₂ ≠ .ret := fun e => by
          rcases htag with e2 | ⟨_, e2⟩
          · exact hnret (e2 ▸ e)
          · rw [e] at e2; cases e2
        refine ⟨_, _, (phi j (Vc j D) tag₂ + Ssum j D, f₂ + 2 * Fsum j D + 2 * sumTo j (upd pre i k)), hst.trans hrunT, ?_, gs', gh.setIfInBounds 0 a₂, w.at dd, sl', (phi j (Vc j D) tag₂ + Ssum j D, f₂ + 2 * Fsum j D), upd pre i k, rfl,
          ⟨gh.setIfInBounds 0 a₂, w.at dd, sl', j, D, tag₂, f₂, d0, a₂, st, sm, rfl, by simp [hR.sizeh], hcs₂, Com.reMain (Com.idle A hcom' hij hu hun) a₂, hwg', hmode.retag htag, fun e => absurd e hret, rfl⟩, .inr ⟨hsz.trans hR.size, by simp [hR.sizeh], by rw [h0]; simp [hR.sizeh], fun i' hi' => ?_, hk', hch'⟩, rfl⟩
        · rw [phi_retag j _ htag]
          exact Prod.Lex.right _ (by omega)
        · by_cases e : i' = i
          · subst e
            rw [upd_same, Array.getElem?_setIfInBounds_ne (by omega)]
            rcases hnew with ⟨e1, e2⟩ | ⟨m, g', e1, e2, e3⟩
            · exact .inl ⟨e1, by rw [e2, hxh]⟩
            · exact .inr ⟨m, g', e1, e2, e3, hxh, hxr, hun.app fun op hop _ => (hu op hop).2.2.2.2⟩
          · rw [upd_ne pre _ e, hoth i' hi' e, Array.getElem?_setIfInBounds_ne (by omega)]
            rcases hR.wk i' hi' with x | ⟨m, x, h1, hx1, hon1, hxh1, hxr1, hun1⟩
            · exact .inl x
            · exact .inr ⟨m, x, h1, hx1, hon1, hxh1, hxr1, hun1.app fun op hop hg => absurd ((hgu op hop).symm.trans hg) (by omega)⟩
      cases m with
      | zero =>
        have hA : AtRecv P K (EvIdle Wg Own Rd) c z (h i) g := hon
        obtain ⟨_, sh, es, he, hstep, hfin⟩ := hA
        obtain ⟨cap, s, r, tm, hch⟩ := id hch'
        have hno : ∀ (jx : Nat) (y : Goroutine), (gs.setIfInBounds (i + 1) ph)[jx]? = some y → offersAt y c true = [] := by
          intro jx y hy
          rcases getElem?_stand gs (i + 1) jx y hy with ⟨_, rfl⟩ | ⟨hne, hy⟩
          · rfl
          · cases jx with
            | zero =>
              rw [ha'] at hy; cases hy
              exact csit_noSend hAr hcs c
            | succ jx => exact offersAt_of_not_blocked (by rcases hstat jx y hy with h | h <;> rw [h] <;> simp) _ _
        have hrunT := crowd_recv_closed (P := P) (sl := sl') hi (by rw [h0i]; exact hstep _ hk') hch (partners_nil hno)
        rw [hfin] at hrunT
        refine .inr (fin (k := 0) hrunT ?_ (by omega) (by simp) (by rw [Array.getElem?_setIfInBounds_ne (by omega)]; exact ha') (fun b _ hb => by rw [Array.getElem?_setIfInBounds_ne (by omega)]) hcs' (by omega) (.inl rfl) (.inl ⟨rfl, by simp [hlt']⟩))
        intro op hop
        rcases Array.mem_append.1 hop with hop | hop
        · exact idleOp_of he op hop
        · simp only [List.mem_toArray, List.mem_singleton] at hop
          subst hop
          exact ⟨⟨rfl, fun x hx => by simp [MemAct.touch?] at hx⟩, by simp, by simp, by simp, by simp⟩
      | succ m =>
        obtain ⟨_, g', es, he, hstep, hon'⟩ := (show OnWay P K (EvIdle Wg Own Rd) c z (h i) (m + 1) g from hon)
        have hrunT := runT_crowd_go (P := P) (sl := sl') hi (by rw [h0i]; exact hstep _ hk')
        obtain ⟨tag₂, f₂, hcs₂, hf₂, htag, _⟩ := hcs.wokenBy hAr (RC.at w dd) g g'
        refine .inr (fin (k := m + 1) hrunT (idleOp_of he) (by omega) (by simp) ?_ (fun i' hi' hne => ?_) hcs₂ hf₂ htag (.inr ⟨m, g', rfl, get_map_set_same _ _ _ hlt', hon'⟩))
        · rw [get_map_set _ _ _ _ (by omega), ha', Option.map_some]
        · rw [get_map_set _ _ _ _ (by omega)]
          cases hb : gs[i' + 1]? with
          | none => rfl
          | some b =>
            rw [Option.map_some]
            have : woken P g g' (w.at dd) b = b := by
              unfold Go.Conc.woken
              split
              · exact again_running _ (hstat i' b hb)
              · rfl
            rw [this]

theorem runsB (A : Apart (ShN Wg) Own Rd) (G : Geo Wg C Lw) (hn : n < 2147483648) (hAr : ∀ g w, AnchW g w → g.status = .running)
    (hAn : ∀ g w, AnchW g w → ∃ m, Goes P true (RC ty Wg C) (DP Wg Own Rd n (Lw n)) (AtW1 P ty Wg C n Own Rd (Lw n) vals AnchW Post) m g w)
    (hl : vals.length = n) (hv : ∀ i, i < n → vals[i]? = some (val i)) (hKk : ∀ w w', Keeps Wg C (Lw n) w w' → K w → K w') (hcL : c < Lw n) (hcW : c ≠ Wg) (hcC : c ≠ C)
    (μ : Nat × Nat) (m : Machine) (t : Trace) (hI : InvB P ty Wg C n Own Rd Lw val vals AnchW Post K c z h μ m t) :
    ∃ N last o w t', runNT P (N + 1) m t = (.ended o w, t') ∧ runN P N m = .next last ∧ step P last = .ended o w ∧ Good P Post last o w t' :=
  run_of_inv (r := Lt2) (Prod.lex Nat.lt_wfRel Nat.lt_wfRel).wf (InvB P ty Wg C n Own Rd Lw val vals AnchW Post K c z h) (Good P Post) (stepB A G hn hAr hAn hl hv hKk hcL hcW hcC) μ m t hI
end
end Go.Proofs.YtpejmgellidhbaaGreatDoor
