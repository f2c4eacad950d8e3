/-
  Workers on their way to a receive at one channel, which is open and empty: the machine of many goroutines comes to goroutine 0's turn, whoever is picked; the workers only read, and park. ('PhA'.)
-/
import Derived.Conc.CrowdComm
import Derived.Conc.CrowdMono
set_option linter.all false
namespace Go.Proofs.YtpejmgellidhbaaGreatDoor
open Go Go.Conc Go.ConcN
open Go.ConcR (KK wgBlock WgAt stA smA rd wr mk Payload Aside2 DC0 Bk g_of_ofEvents loc_of_ofEvent)

def ChanOpen (c : Nat) (w : World) : Prop := ∃ cap s r tm, w.heap[c]? = some (.chan cap #[] false s r tm)
def ChanShut (c : Nat) (w : World) : Prop := ∃ cap s r tm, w.heap[c]? = some (.chan cap #[] true s r tm)

/-- What a worker may list ahead of its release. -/
def EvIdle (Wg : Nat) (Own Rd : Nat → Loc → Prop) (e : Event) : Prop := (∀ k, EvW Wg Own Rd k e) ∧ e.loc ≠ .mark (.releaseMerge (stA Wg))

section
variable (P : Program) (K : World → Prop) (E : Event → Prop) (c : Nat) (z : Value)

/-- It stands at the receive; 'h': its record behind it, where the channel is closed. -/
def AtRecv (h g : Goroutine) : Prop :=
  g.status = .running ∧ ∃ sh es, (∀ e ∈ es, E e) ∧ (∀ w, K w → stepG P false g w = .comm (core g) #[rcase c z] true sh w es) ∧ (core g).finishComm P #[rcase c z] sh 0 z false = h

/-- .. within n steps. -/
def OnWay (h : Goroutine) : Nat → Goroutine → Prop
  | 0, g => AtRecv P K E c z h g
  | n + 1, g => g.status = .running ∧ ∃ g' es, (∀ e ∈ es, E e) ∧ (∀ w, K w → stepG P false g w = .go g' w es) ∧ OnWay h n g'

/-- A worker ahead of its receive: 0: it is parked; n + 1: within n steps of the receive. -/
def Idler (h : Goroutine) : Nat → Goroutine → Prop
  | 0, g => ∃ g₀ sh, g = parked (core g₀) #[rcase c z] sh ∧ AtRecv P K E c z h g₀
  | n + 1, g => OnWay P K E c z h n g

variable {P K E c z}
theorem OnWay.running {h : Goroutine} : ∀ {n : Nat} {g : Goroutine}, OnWay P K E c z h n g → g.status = .running
  | 0, _, x => x.1
  | _ + 1, _, x => x.1

/-- Let try again, it stands where it stood. -/
theorem AtRecv.again {h g₀ : Goroutine} {sh : CommShape} (x : AtRecv P K E c z h g₀) : AtRecv P K E c z h { parked (core g₀) #[rcase c z] sh with status := .running } := by
  obtain ⟨hs, sh', es, h1, h2, h3⟩ := x
  exact ⟨rfl, sh', es, h1, fun w hw => (stepG_same (h := g₀) rfl rfl rfl w).trans (h2 w hw), h3⟩

theorem AtRecv.fin {h g₀ : Goroutine} (x : AtRecv P K E c z h g₀) : h.status = .running := by
  obtain ⟨_, _, _, _, _, rfl⟩ := x
  rfl

theorem Idler.status {h : Goroutine} {n : Nat} {g : Goroutine} (x : Idler P K E c z h n g) : g.status = .running ∨ g.status = .blocked := by
  cases n with
  | zero => obtain ⟨_, _, rfl, _⟩ := x; exact .inr rfl
  | succ n => exact .inl (OnWay.running x)

/-- The others' steps leave it, while the channel is open. -/
theorem Idler.woken {h : Goroutine} {n : Nat} {g : Goroutine} (x : Idler P K E c z h n g) (a a' : Goroutine) {w : World} (hc : ChanOpen c w) : woken P a a' w g = g := by
  obtain ⟨_, _, _, _, hc⟩ := hc
  cases n with
  | zero => obtain ⟨_, _, rfl, _⟩ := x; exact woken_recv_open a a' hc
  | succ n => exact woken_run (OnWay.running x)

theorem Idler.noSend {h : Goroutine} {n : Nat} {g : Goroutine} (x : Idler P K E c z h n g) : offersAt g c true = [] := by
  cases n with
  | zero => obtain ⟨_, _, rfl, _⟩ := x; exact offersAt_parked_recv' _ _ _ _ _
  | succ n => exact offersAt_of_not_blocked (by rw [OnWay.running x]; simp) _ _
end

/-! ### the trace -/
/-- j workers are started, none has released; the starter is so deaf. -/
structure TI (Wg : Nat) (Own Rd : Nat → Loc → Prop) (j d : Nat) (t : Trace) : Prop where
  ct : CT (ShN Wg) Own Rd t j
  norel : NoRelease (stA Wg) t
  deaf0 : Deaf t 0 = d
  deafW : ∀ i, i < j → Deaf t (i + 1) = 0
  quiet : ∀ op ∈ t, op.g ≠ 0 → op.act ≠ .mark (.releaseMerge (stA Wg))

section
variable {Wg : Nat} {Own Rd : Nat → Loc → Prop} {j d : Nat} {t : Trace} {fn : FuncId} {pos : String} {es : Array Event}

theorem idle_deaf {Wg : Nat} {Own Rd : Nat → Loc → Prop} {es : Array Event} (h : ∀ e ∈ es, EvIdle Wg Own Rd e) (d : Nat) : deafBehind d es = d :=
  deafBehind_idle (fun e he => ⟨((h e he).1 0).2.1, ((h e he).1 0).2.2.1⟩) d

theorem TI.worker (A : Apart (ShN Wg) Own Rd) (h : TI Wg Own Rd j d t) {i : Nat} (hi : i < j) (hes : ∀ e ∈ es, EvIdle Wg Own Rd e) : TI Wg Own Rd j d (t ++ MemOp.ofEvents (i + 1) fn pos es) := by
  refine ⟨h.ct.appW A (by omega) (by omega) (okW_of_EvW fun e he => (hes e he).1 _), h.norel.app (norel_of fun e he => ((hes e he).1 0).2.2.2), ?_, fun i' hi' => ?_, fun op hop hg => ?_⟩
  · rw [Deaf_other t (by omega) _ g_of_ofEvents, h.deaf0]
  · by_cases e : i' = i
    · subst e; rw [Deaf_own, h.deafW i' hi']; exact idle_deaf hes 0
    · rw [Deaf_other t (by omega) _ g_of_ofEvents, h.deafW i' hi']
  · rcases Array.mem_append.1 hop with hop | hop
    · exact h.quiet op hop hg
    · rw [ofEvents_eq] at hop
      obtain ⟨e, he, rfl⟩ := Array.mem_map.1 hop
      exact fun hx => (hes e he).2 (loc_of_ofEvent hx)

theorem TI.own (A : Apart (ShN Wg) Own Rd) (h : TI Wg Own Rd j d t) (hok : ∀ op ∈ MemOp.ofEvents 0 fn pos es, Ok0 (ShN Wg) Own Rd j op) (hnr : ∀ e ∈ es, e.loc ≠ .mark (.release (stA Wg))) : TI Wg Own Rd j (deafBehind d es) (t ++ MemOp.ofEvents 0 fn pos es) := by
  refine ⟨h.ct.app0 A hok, h.norel.app (norel_of hnr), by rw [Deaf_own, h.deaf0], fun i hi => by rw [Deaf_other t (by omega) _ g_of_ofEvents, h.deafW i hi], fun op hop hg => ?_⟩
  rcases Array.mem_append.1 hop with hop | hop
  · exact h.quiet op hop hg
  · exact absurd (g_of_ofEvents op hop) hg

theorem TI.fork (A : Apart (ShN Wg) Own Rd) (h : TI Wg Own Rd j 0 t) {x y : MemOp} (hx : x.g = 0 ∧ x.act = .go (j + 1)) (hy : y.g = j + 1 ∧ y.act = .start) : TI Wg Own Rd (j + 1) 0 (t ++ #[x, y]) := by
  have hm : ∀ op ∈ #[x, y], op = x ∨ op = y := by intro op hop; simpa using hop
  have hst : ∀ op ∈ #[x, y], op.act ≠ .mark .disable ∧ op.act ≠ .mark .enable := by
    intro op hop
    rcases hm op hop with rfl | rfl
    · rw [hx.2]; exact ⟨by simp, by simp⟩
    · rw [hy.2]; exact ⟨by simp, by simp⟩
  refine ⟨h.ct.fork A hx hy h.deaf0, h.norel.app fun op hop => ?_, by rw [Deaf_still t 0 _ hst, h.deaf0], fun i hi => ?_, fun op hop hg => ?_⟩
  · rcases hm op hop with rfl | rfl
    · rw [hx.2]; simp
    · rw [hy.2]; simp
  · rw [Deaf_still t _ _ hst]
    rcases Nat.lt_or_ge i j with hlt | hge
    · exact h.deafW i hlt
    · obtain rfl : i = j := by omega
      exact Deaf_absent fun a op ha e => by have := h.ct.gs a op ha; omega
  · rcases Array.mem_append.1 hop with hop | hop
    · exact h.quiet op hop hg
    · rcases hm op hop with rfl | rfl
      · rw [hx.2]; simp
      · rw [hy.2]; simp
end

/-! ### the machine -/
section
variable (P : Program) (K : World → Prop) (Wg : Nat) (Own Rd : Nat → Loc → Prop) (c : Nat) (z : Value) (h : Nat → Goroutine)

structure PhA (j d : Nat) (gs : Array Goroutine) (w : World) (t : Trace) (q : Nat → Nat) : Prop where
  size : gs.size = j + 1
  wk : ∀ i, i < j → ∃ g, gs[i + 1]? = some g ∧ Idler P K (EvIdle Wg Own Rd) c z (h i) (q i) g
  ti : TI Wg Own Rd j d t
  k : K w
  chan : ChanOpen c w

variable {P K Wg Own Rd c z h}
variable {j d : Nat} {gs : Array Goroutine} {w w' : World} {t : Trace} {q : Nat → Nat}

theorem ChanOpen.at {c : Nat} {w : World} (x : ChanOpen c w) (d : Nat) : ChanOpen c (w.at d) := x

theorem PhA.at (hKd : ∀ w d, K w → K (w.at d)) (x : PhA P K Wg Own Rd c z h j d gs w t q) (dd : Nat) : PhA P K Wg Own Rd c z h j d gs (w.at dd) t q :=
  ⟨x.size, x.wk, x.ti, hKd w dd x.k, x.chan.at dd⟩

theorem PhA.awake (x : PhA P K Wg Own Rd c z h j d gs w t q) {a : Goroutine} (ha : gs[0]? = some a) (hr : a.status = .running) : ∀ g ∈ gs, awake g := by
  intro g hg tm
  obtain ⟨i, hi⟩ := Array.mem_iff_getElem?.1 hg
  cases i with
  | zero => rw [ha] at hi; cases hi; rw [hr]; simp
  | succ i =>
    have hlt : i < j := by have := (Array.getElem?_eq_some_iff.1 hi).1; rw [x.size] at this; omega
    obtain ⟨g', hg', hs⟩ := x.wk i hlt
    rw [hi] at hg'; cases hg'
    rcases hs.status with h | h <;> rw [h] <;> simp

/-- A STEP OF THE STARTER's. -/
theorem PhA.step0 (A : Apart (ShN Wg) Own Rd) (x : PhA P K Wg Own Rd c z h j d gs w t q) {a a' : Goroutine} {fn : FuncId} {pos : String} {es : Array Event}
    (hok : ∀ op ∈ MemOp.ofEvents 0 fn pos es, Ok0 (ShN Wg) Own Rd j op) (hnr : ∀ e ∈ es, e.loc ≠ .mark (.release (stA Wg))) (hk : K w') (hc : ChanOpen c w') :
    PhA P K Wg Own Rd c z h j (deafBehind d es) ((gs.map (woken P a a' w')).setIfInBounds 0 a') w' (t ++ MemOp.ofEvents 0 fn pos es) q := by
  refine ⟨by simp [x.size], fun i hi => ?_, x.ti.own A hok hnr, hk, hc⟩
  obtain ⟨g, hg, hs⟩ := x.wk i hi
  exact ⟨g, by rw [get_map_set _ _ _ _ (by omega), hg, Option.map_some, hs.woken a a' hc], hs⟩

/-- TO THE STARTER's TURN. -/
theorem turn0 (A : Apart (ShN Wg) Own Rd) (hKd : ∀ w d, K w → K (w.at d)) {a : Goroutine} : ∀ (M : Nat) (gs : Array Goroutine) (w : World) (sl : Option (Nat × Nat)) (t : Trace) (q : Nat → Nat), sumTo j q ≤ M → PhA P K Wg Own Rd c z h j d gs w t q → gs[0]? = some a → a.status = .running →
    ∃ N gs' w₀ sl' sl'' t' q' dd, runNT P N (crowd gs w sl) t = (.next (crowd gs' w₀ sl'), t') ∧ stepT P (crowd gs' w₀ sl') = runT P (crowd gs' (w.at dd) sl'') 0 ∧
      PhA P K Wg Own Rd c z h j d gs' (w.at dd) t' q' ∧ gs'[0]? = some a := by
  intro M
  induction M with
  | zero =>
    intro gs w sl t q hM x ha hr
    obtain ⟨i, g, dd, sl', hi, hg, hst⟩ := crowd_pick (P := P) (w := w) (sl := sl) (x.awake ha hr) ⟨0, a, ha, hr⟩
    cases i with
    | zero => exact ⟨0, gs, w, sl, sl', t, q, dd, rfl, hst, x.at hKd dd, ha⟩
    | succ i =>
      have hlt : i < j := by have := (Array.getElem?_eq_some_iff.1 hi).1; rw [x.size] at this; omega
      obtain ⟨g', hg', hs⟩ := x.wk i hlt
      rw [hi] at hg'; cases hg'
      have hq : q i = 0 := by have := le_sumTo (f := q) hlt; omega
      rw [hq] at hs
      obtain ⟨_, _, rfl, _⟩ := hs
      cases hg
  | succ M ih =>
    intro gs w sl t q hM x ha hr
    obtain ⟨i, g, dd, sl', hi, hg, hst⟩ := crowd_pick (P := P) (w := w) (sl := sl) (x.awake ha hr) ⟨0, a, ha, hr⟩
    cases i with
    | zero => exact ⟨0, gs, w, sl, sl', t, q, dd, rfl, hst, x.at hKd dd, ha⟩
    | succ i =>
      have hlt : i < j := by have := (Array.getElem?_eq_some_iff.1 hi).1; rw [x.size] at this; omega
      obtain ⟨g', hg', hs⟩ := x.wk i hlt
      rw [hi] at hg'; cases hg'
      have x' := x.at hKd dd
      have fin : ∀ {m : Nat} {g' : Goroutine} {gs' : Array Goroutine} {es : Array Event}, q i = m + 1 → (∀ e ∈ es, EvIdle Wg Own Rd e) → Idler P K (EvIdle Wg Own Rd) c z (h i) m g' →
          gs'.size = gs.size → gs'[0]? = some a → gs'[i + 1]? = some g' → (∀ i', i' < j → i' ≠ i → gs'[i' + 1]? = gs[i' + 1]?) →
          runT P (crowd gs (w.at dd) sl') (i + 1) = (.next (crowd gs' (w.at dd) sl'), MemOp.ofEvents (i + 1) g.frame.fn g.frame.place es) →
          ∃ N gs' w₀ sl' sl'' t' q' dd, runNT P N (crowd gs w sl) t = (.next (crowd gs' w₀ sl'), t') ∧ stepT P (crowd gs' w₀ sl') = runT P (crowd gs' (w.at dd) sl'') 0 ∧
            PhA P K Wg Own Rd c z h j d gs' (w.at dd) t' q' ∧ gs'[0]? = some a := by
        intro m g' gs' es hq hes hid hsz h0 hi' hoth hrunT
        have hsum : sumTo j (upd q i m) + (m + 1) = sumTo j q + m := by
          have := sumTo_upd q m id hlt
          simpa [hq] using this
        have y : PhA P K Wg Own Rd c z h j d gs' (w.at dd) (t ++ MemOp.ofEvents (i + 1) g.frame.fn g.frame.place es) (upd q i m) := by
          refine ⟨hsz.trans x.size, fun i' hi2 => ?_, x.ti.worker A hlt hes, x'.k, x'.chan⟩
          by_cases e : i' = i
          · subst e; exact ⟨g', hi', by rw [upd_same]; exact hid⟩
          · obtain ⟨b, hb, hbs⟩ := x.wk i' hi2
            exact ⟨b, by rw [hoth i' hi2 e, hb], by rw [upd_ne q m e]; exact hbs⟩
        obtain ⟨N, gs₂, w₂, sl₂, sl₃, t₂, q₂, d₂, r1, r2, r3, r4⟩ := ih gs' (w.at dd) sl' _ (upd q i m) (by omega) y h0 hr
        refine ⟨N + 1, gs₂, w₂, sl₂, sl₃, t₂, q₂, d₂, ?_, r2, r3, r4⟩
        rw [runNT_succ_next (hst.trans hrunT)]
        exact r1
      cases hq : q i with
      | zero =>
        rw [hq] at hs
        obtain ⟨_, _, rfl, _⟩ := hs
        cases hg
      | succ m =>
        rw [hq] at hs
        have h0i : ((i + 1 : Nat) == 0) = false := rfl
        cases m with
        | zero =>
          have hA : AtRecv P K (EvIdle Wg Own Rd) c z (h i) g := hs
          obtain ⟨_, sh, es, he, hstep, _⟩ := hA
          obtain ⟨cap, s, r, tm, hch⟩ := x'.chan
          have hno : ∀ (jx : Nat) (y : Goroutine), (gs.setIfInBounds (i + 1) ph)[jx]? = some y → offersAt y c true = [] := by
            intro jx y hy
            rcases getElem?_stand gs (i + 1) jx y hy with ⟨_, rfl⟩ | ⟨hne, hy⟩
            · rfl
            · cases jx with
              | zero => rw [ha] at hy; cases hy; exact offersAt_of_not_blocked (by rw [hr]; simp) _ _
              | succ jx =>
                have hjl : jx < j := by have := (Array.getElem?_eq_some_iff.1 hy).1; rw [x.size] at this; omega
                obtain ⟨b, hb, hbs⟩ := x.wk jx hjl
                rw [hy] at hb; cases hb
                exact hbs.noSend
          have hrunT := crowd_waits (P := P) (sl := sl') hi (by rw [h0i]; exact hstep _ x'.k) (fun cc hcc => by
            simp only [List.mem_toArray, List.mem_singleton] at hcc
            subst hcc
            exact ways_recv_none hch (partners_nil hno))
          have hlt' : i + 1 < gs.size := (Array.getElem?_eq_some_iff.1 hi).1
          exact fin (m := 0) hq he ⟨g, sh, rfl, hs⟩ (by simp) (by rw [Array.getElem?_setIfInBounds_ne (by omega)]; exact ha) (by simp [hlt']) (fun i' _ hne => by rw [Array.getElem?_setIfInBounds_ne (by omega)]) hrunT
        | succ m =>
          obtain ⟨_, g', es, he, hstep, hon⟩ := (show OnWay P K (EvIdle Wg Own Rd) c z (h i) (m + 1) g from hs)
          have hrunT := runT_crowd_go (P := P) (sl := sl') hi (by rw [h0i]; exact hstep _ x'.k)
          have hlt' : i + 1 < gs.size := (Array.getElem?_eq_some_iff.1 hi).1
          refine fin hq he (show Idler P K (EvIdle Wg Own Rd) c z (h i) (m + 1) g' from hon) (by simp) ?_ (get_map_set_same _ _ _ hlt') (fun i' hi' hne => ?_) hrunT
          · rw [get_map_set _ _ _ _ (by omega), ha, Option.map_some, woken_run hr]
          · obtain ⟨b, hb, hbs⟩ := x.wk i' hi'
            rw [get_map_set _ _ _ _ (by omega), hb, Option.map_some, hbs.woken g g' x'.chan]
end
end Go.Proofs.YtpejmgellidhbaaGreatDoor
