/-
  Phase A: the starter's walk beside workers that are ahead of their receive: one step, a walk, a go statement, the close.
-/
import Derived.Test.YtpejmgellidhbaaGreatDoorP1
import Derived.Conc.Beside
set_option linter.all false
namespace Go.Proofs.YtpejmgellidhbaaGreatDoor
open Go Go.Conc Go.ConcN
open Go.ConcR (KK wgBlock WgAt stA smA rd wr mk Payload Aside2 DC0 Bk g_of_ofEvents loc_of_ofEvent)

section
variable {P : Program} {K : World → Prop} {Wg : Nat} {Own Rd : Nat → Loc → Prop} {c : Nat} {z : Value} {h : Nat → Goroutine}
variable {j d d' : Nat} {gs : Array Goroutine} {w : World} {sl : Option (Nat × Nat)} {t : Trace} {q : Nat → Nat} {a : Goroutine} {Q : Goroutine → World → Prop}

/-- What the starter may list. -/
def Ev0s (Wg : Nat) (Own Rd : Nat → Loc → Prop) (j : Nat) (es : Array Event) : Prop := (∀ fn pos, ∀ op ∈ MemOp.ofEvents 0 fn pos es, Ok0 (ShN Wg) Own Rd j op) ∧ ∀ e ∈ es, e.loc ≠ .mark (.release (stA Wg))

theorem ev0s_of {es : Array Event} (h : ∀ e ∈ es, Ev0 Wg Own Rd j e) : Ev0s Wg Own Rd j es := ⟨fun _ _ => ok0_of_Ev0 h, fun e he => (h e he).2.2.2⟩
theorem ev0s_bk {es : Array Event} (h : ∀ e ∈ es, Bk Wg e) : Ev0s Wg Own Rd j es := ⟨fun _ _ => ok0_of_Bk h, norel_of_Bk h⟩

/-- ONE STEP OF THE STARTER's. -/
theorem oneA (A : Apart (ShN Wg) Own Rd) (hKd : ∀ w d, K w → K (w.at d)) (x : PhA P K Wg Own Rd c z h j d gs w t q) (ha : gs[0]? = some a) (hr : a.status = .running)
    (hstep : ∀ dd, ∃ a' w' es, stepG P true a (w.at dd) = .go a' w' es ∧ K w' ∧ ChanOpen c w' ∧ Ev0s Wg Own Rd j es ∧ deafBehind d es = d' ∧ Q a' w') :
    ∃ N gs' a' w' sl' t' q', runNT P N (crowd gs w sl) t = (.next (crowd gs' w' sl'), t') ∧ PhA P K Wg Own Rd c z h j d' gs' w' t' q' ∧ gs'[0]? = some a' ∧ Q a' w' := by
  obtain ⟨N, gs₁, w₁, sl₁, sl₂, t₁, q₁, dd, r1, r2, r3, r4⟩ := turn0 A hKd _ gs w sl t q (Nat.le_refl _) x ha hr
  obtain ⟨a', w', es, hgo, hk, hc, hev, hd, hQ⟩ := hstep dd
  have hrunT := runT_crowd_go (P := P) (sl := sl₂) (i := 0) r4 (by simpa using hgo)
  subst hd
  refine ⟨N + 1, _, a', w', sl₂, _, q₁, ?_, r3.step0 A (a := a) (a' := a') (fn := a.frame.fn) (pos := a.frame.place) (hev.1 _ _) hev.2 hk hc, get_map_set_same _ _ _ (by rw [r3.size]; omega), hQ⟩
  rw [runNT_add, r1]
  simp only [runNT, r2, hrunT]

/-- A WALK OF THE STARTER's. -/
theorem walkA (A : Apart (ShN Wg) Own Rd) (hKd : ∀ w d, K w → K (w.at d)) {D : World → World → Array Event → Prop}
    (hD : ∀ w w' es, D w w' es → K w → ChanOpen c w → K w' ∧ ChanOpen c w' ∧ ∀ e ∈ es, Ev0 Wg Own Rd j e) :
    ∀ (n : Nat) (gs : Array Goroutine) (a : Goroutine) (w : World) (sl : Option (Nat × Nat)) (t : Trace) (q : Nat → Nat), PhA P K Wg Own Rd c z h j d gs w t q → gs[0]? = some a → Goes P true AtRel D Q n a w →
    ∃ N gs' a' w' sl' t' q', runNT P N (crowd gs w sl) t = (.next (crowd gs' w' sl'), t') ∧ PhA P K Wg Own Rd c z h j d gs' w' t' q' ∧ gs'[0]? = some a' ∧ Q a' w' := by
  intro n
  induction n with
  | zero => intro gs a w sl t q x ha hg; exact ⟨0, gs, a, w, sl, t, q, rfl, x, ha, hg w (atRel_refl w)⟩
  | succ n ih =>
    intro gs a w sl t q x ha hg
    rcases hg with hstop | ⟨hrun, hstep⟩
    · exact ⟨0, gs, a, w, sl, t, q, rfl, x, ha, hstop w (atRel_refl w)⟩
    obtain ⟨N, gs₁, a₁, w₁, sl₁, t₁, q₁, r1, r2, r3, r4⟩ := oneA (sl := sl) (d' := d) (Q := Goes P true AtRel D Q n) A hKd x ha hrun fun dd => by
      obtain ⟨a', w', es, hgo, hd, hg'⟩ := goes_elim (hstep (w.at dd) ⟨dd, rfl⟩)
      obtain ⟨k1, k2, k3⟩ := hD _ _ _ hd (hKd w dd x.k) (x.chan.at dd)
      exact ⟨a', w', es, hgo, k1, k2, ev0s_of k3, deafBehind_idle (fun e he => ⟨(k3 e he).2.1, (k3 e he).2.2.1⟩) d, hg'⟩
    obtain ⟨N₂, gs₂, a₂, w₂, sl₂, t₂, q₂, s1, s2, s3, s4⟩ := ih gs₁ a₁ w₁ sl₁ t₁ q₁ r2 r3 r4
    refine ⟨N + N₂, gs₂, a₂, w₂, sl₂, t₂, q₂, ?_, s2, s3, s4⟩
    rw [runNT_add, r1]
    exact s1

/-- A go STATEMENT. -/
theorem spawnA (A : Apart (ShN Wg) Own Rd) (hKd : ∀ w d, K w → K (w.at d)) (x : PhA P K Wg Own Rd c z h j 0 gs w t q) (ha : gs[0]? = some a) (hr : a.status = .running)
    (hstep : ∀ dd, ∃ a' child n, stepG P true a (w.at dd) = .spawn a' child (w.at dd) #[] ∧ OnWay P K (EvIdle Wg Own Rd) c z (h j) n child ∧ Q a' (w.at dd)) :
    ∃ N gs' a' w' sl' t' q', runNT P N (crowd gs w sl) t = (.next (crowd gs' w' sl'), t') ∧ PhA P K Wg Own Rd c z h (j + 1) 0 gs' w' t' q' ∧ gs'[0]? = some a' ∧ Q a' w' := by
  obtain ⟨N, gs₁, w₁, sl₁, sl₂, t₁, q₁, dd, r1, r2, r3, r4⟩ := turn0 A hKd _ gs w sl t q (Nat.le_refl _) x ha hr
  obtain ⟨a', child, n, hsp, hon, hQ⟩ := hstep dd
  have hrunT := runT_crowd_spawn (P := P) (sl := sl₂) (i := 0) r4 (by simpa using hsp)
  rw [r3.size] at hrunT
  have e0 : ∀ (fn : FuncId) (pos : String), MemOp.ofEvents 0 fn pos #[] = #[] := fun _ _ => by simp [MemOp.ofEvents]
  have hsz : (gs₁.setIfInBounds 0 a').size = j + 1 := by simp [r3.size]
  have y : PhA P K Wg Own Rd c z h (j + 1) 0 ((gs₁.setIfInBounds 0 a').push child) (w.at dd) (t₁ ++ #[{ g := 0, fn := a.frame.fn, pos := a.frame.place, act := .go (j + 1) }, { g := j + 1, fn := child.frame.fn, pos := a.frame.place, act := .start }]) (upd q₁ j (n + 1)) := by
    refine ⟨by simp [r3.size], fun i hi => ?_, r3.ti.fork A ⟨rfl, rfl⟩ ⟨rfl, rfl⟩, r3.k, r3.chan⟩
    rcases Nat.lt_or_ge i j with hlt | hge
    · obtain ⟨g, hg, hs⟩ := r3.wk i hlt
      refine ⟨g, ?_, by rw [upd_ne q₁ _ (by omega)]; exact hs⟩
      rw [Array.getElem?_push_lt (by rw [hsz]; omega), ← Array.getElem?_eq_getElem, Array.getElem?_setIfInBounds_ne (by omega)]
      exact hg
    · obtain rfl : i = j := by omega
      refine ⟨child, ?_, by rw [upd_same]; exact hon⟩
      rw [← hsz, Array.getElem?_push_size]
  refine ⟨N + 1, _, a', w.at dd, sl₂, _, _, ?_, y, ?_, hQ⟩
  · rw [runNT_add, r1]
    simp only [runNT, r2, hrunT, e0]
    simp
  · rw [Array.getElem?_push_lt (by rw [hsz]; omega), ← Array.getElem?_eq_getElem]
    simp [r3.size]

/-- A worker ahead of its receive, once the channel is closed. -/
theorem Idler.shut {E : Event → Prop} {hh : Goroutine} {n : Nat} {g : Goroutine} (x : Idler P K E c z hh n g) {a a' : Goroutine} {w : World} (hc : ChanShut c w) (hmw : mayWake P a = true) (hs : a'.status = .running) :
    ∃ m, OnWay P K E c z hh m (Go.Conc.woken P a a' w g) := by
  obtain ⟨cap, s, r, tm, hc⟩ := hc
  cases n with
  | zero =>
    obtain ⟨g₀, sh, rfl, hA⟩ := x
    refine ⟨0, ?_⟩
    have : Go.Conc.woken P a a' w (parked (core g₀) #[rcase c z] sh) = { parked (core g₀) #[rcase c z] sh with status := .running } := by
      unfold Go.Conc.woken
      rw [if_pos (by simp [hmw, hs])]
      exact again_recv_closed hc
    rw [this]
    exact hA.again
  | succ n => exact ⟨n, by rw [woken_run (OnWay.running x)]; exact x⟩

/-- THE CLOSE. -/
theorem closeA (A : Apart (ShN Wg) Own Rd) (hKd : ∀ w d, K w → K (w.at d)) (x : PhA P K Wg Own Rd c z h j d gs w t q) (ha : gs[0]? = some a) (hr : a.status = .running) (hmw : mayWake P a = true)
    (hstep : ∀ dd, ∃ a' w' es, stepG P true a (w.at dd) = .go a' w' es ∧ a'.status = .running ∧ K w' ∧ ChanShut c w' ∧ Ev0s Wg Own Rd j es ∧ deafBehind d es = d' ∧ Q a' w') :
    ∃ N gs' a' w' sl' t', runNT P N (crowd gs w sl) t = (.next (crowd gs' w' sl'), t') ∧ gs'.size = j + 1 ∧ gs'[0]? = some a' ∧ (∀ i, i < j → ∃ m g, gs'[i + 1]? = some g ∧ OnWay P K (EvIdle Wg Own Rd) c z (h i) m g) ∧ TI Wg Own Rd j d' t' ∧ K w' ∧ ChanShut c w' ∧ Q a' w' := by
  obtain ⟨N, gs₁, w₁, sl₁, sl₂, t₁, q₁, dd, r1, r2, r3, r4⟩ := turn0 A hKd _ gs w sl t q (Nat.le_refl _) x ha hr
  obtain ⟨a', w', es, hgo, hs', hk, hc, hev, hd, hQ⟩ := hstep dd
  have hrunT := runT_crowd_go (P := P) (sl := sl₂) (i := 0) r4 (by simpa using hgo)
  subst hd
  refine ⟨N + 1, (gs₁.map (Go.Conc.woken P a a' w')).setIfInBounds 0 a', a', w', sl₂, t₁ ++ MemOp.ofEvents 0 a.frame.fn a.frame.place es, ?_, by simp [r3.size], get_map_set_same _ _ _ (by rw [r3.size]; omega), fun i hi => ?_, r3.ti.own (fn := a.frame.fn) (pos := a.frame.place) A (hev.1 _ _) hev.2, hk, hc, hQ⟩
  · rw [runNT_add, r1]
    simp only [runNT, r2, hrunT]
  · obtain ⟨g, hg, hid⟩ := r3.wk i hi
    obtain ⟨m, hm⟩ := hid.shut (a := a) (a' := a') hc hmw hs'
    exact ⟨m, _, by rw [get_map_set _ _ _ _ (by omega), hg, Option.map_some], hm⟩
end
end Go.Proofs.YtpejmgellidhbaaGreatDoor
