/-
  From the entry to the return, on every tape: goroutine 0 alone; n workers started (Add, go), each on its way to a receive; the close; Wait; the rest ('crowd_phase').
-/
import Derived.Test.YtpejmgellidhbaaGreatDoorP4
import Derived.Conc.RingFork
set_option linter.all false
namespace Go.Proofs.YtpejmgellidhbaaGreatDoor
open Go Go.Conc Go.ConcN
open Go.ConcR (KK wgBlock WgAt stA smA rd wr mk Payload Aside2 DC0 Bk g_of_ofEvents loc_of_ofEvent)
variable [Payload]

section
variable (P : Program) (ty : TypeId) (Wg C n : Nat) (Own Rd : Nat → Loc → Prop) (Low : Nat) (val : Nat → Value) (vals : List Value) (AnchW : Goroutine → World → Prop) (Post : Value → World → Prop)
  (K : World → Prop) (c : Nat) (z : Value) (h : Nat → Goroutine)

abbrev GA (j : Nat) : (Goroutine → World → Prop) → Nat → Goroutine → World → Prop := Goes P true AtRel (DP Wg Own Rd j Low)

def AtGoX (j : Nat) (Next : Goroutine → World → Prop) (g : Goroutine) (w : World) : Prop :=
  g.status = .running ∧ ∀ dd, ∃ a' child m, stepG P true g (w.at dd) = .spawn a' child (w.at dd) #[] ∧ OnWay P K (EvIdle Wg Own Rd) c z (h j) m child ∧ Next a' (w.at dd)
def AtEnX (j : Nat) (Next : Goroutine → World → Prop) (g : Goroutine) (w : World) : Prop :=
  g.status = .running ∧ ∀ dd, ∃ g', stepG P true g (w.at dd) = .go g' (w.at dd) #[mk .enable] ∧ ∃ m, GA P Wg Own Rd Low j (AtGoX P Wg Own Rd K c z h j Next) m g' (w.at dd)
def AtAddX (j : Nat) (Next : Goroutine → World → Prop) (g : Goroutine) (w : World) : Prop :=
  g.status = .running ∧ ∀ dd, ∃ g' v, stepG P true g (w.at dd) = .go g' ((w.at dd).setCell (stA Wg) v) #[rd (stA Wg), wr (stA Wg)] ∧ ∃ m, GA P Wg Own Rd Low j (AtEnX P Wg Own Rd Low K c z h j Next) m g' ((w.at dd).setCell (stA Wg) v)
def AtDisX (j : Nat) (Next : Goroutine → World → Prop) (g : Goroutine) (w : World) : Prop :=
  g.status = .running ∧ ∀ dd, ∃ g', stepG P true g (w.at dd) = .go g' (w.at dd) #[mk .disable] ∧ ∃ m, GA P Wg Own Rd Low j (AtAddX P Wg Own Rd Low K c z h j Next) m g' (w.at dd)
/-- The starter's script: r workers are still to be started. -/
def SpawnsX (Fin : Goroutine → World → Prop) : Nat → Goroutine → World → Prop
  | 0, g, w => Fin g w
  | r + 1, g, w => ∃ m, GA P Wg Own Rd Low (n - (r + 1)) (AtDisX P Wg Own Rd Low K c z h (n - (r + 1)) (SpawnsX Fin r)) m g w
/-- Behind the close. -/
def BStart (g : Goroutine) (w : World) : Prop :=
  WgAt ty Wg w ((n : Int) * KK) 0 ∧ PayAt C n w ∧ (∀ i, i < n → ∃ m, Goes P false (RW ty Wg C n Low (i + 1 - 1)) (DWs Wg Own Rd C n (i + 1)) (AtR0 P ty Wg C n Low (i + 1) (val i)) m (h i) w) ∧
    ∃ m, Goes P true (RC ty Wg C) (DP Wg Own Rd n Low) (AtKd P ty Wg C n Own Rd Low AnchW) m g w
def AtCloseX (g : Goroutine) (w : World) : Prop :=
  g.status = .running ∧ mayWake P g = true ∧ ∀ dd, ∃ a' w' es, stepG P true g (w.at dd) = .go a' w' es ∧ a'.status = .running ∧ K w' ∧ ChanShut c w' ∧ (∀ e ∈ es, Ev0 Wg Own Rd n e) ∧ BStart P ty Wg C n Own Rd Low val AnchW h a' w'
def FinX (g : Goroutine) (w : World) : Prop := ∃ m, GA P Wg Own Rd Low n (AtCloseX P ty Wg C n Own Rd Low val AnchW K c h) m g w
end

section
variable {P : Program} {ty : TypeId} {Wg C n : Nat} {Own Rd : Nat → Loc → Prop} {Low : Nat} {val : Nat → Value} {vals : List Value} {AnchW : Goroutine → World → Prop} {Post : Value → World → Prop}
  {K : World → Prop} {c : Nat} {z : Value} {h : Nat → Goroutine}

omit [Payload] in
theorem ChanOpen.keeps {w w' : World} (hcL : c < Low) (hcW : c ≠ Wg) (hcC : c ≠ C) (hk : Keeps Wg C Low w w') (x : ChanOpen c w) : ChanOpen c w' := by
  obtain ⟨cap, s, r, tm, hx⟩ := x
  exact ⟨cap, s, r, tm, (hk c hcL hcW hcC).trans hx⟩

omit [Payload] in
theorem roundA (A : Apart (ShN Wg) Own Rd) (hKk : ∀ w w', Keeps Wg C Low w w' → K w → K w') (hcL : c < Low) (hcW : c ≠ Wg) (hcC : c ≠ C)
    {j : Nat} {gs : Array Goroutine} {a : Goroutine} {w : World} {sl : Option (Nat × Nat)} {t : Trace} {q : Nat → Nat} {Next : Goroutine → World → Prop} {m : Nat}
    (x : PhA P K Wg Own Rd c z h j 0 gs w t q) (ha : gs[0]? = some a) (hg : GA P Wg Own Rd Low j (AtDisX P Wg Own Rd Low K c z h j Next) m a w) :
    ∃ N gs' a' w' sl' t' q', runNT P N (crowd gs w sl) t = (.next (crowd gs' w' sl'), t') ∧ PhA P K Wg Own Rd c z h (j + 1) 0 gs' w' t' q' ∧ gs'[0]? = some a' ∧ Next a' w' := by
  have hKd : ∀ w d, K w → K (w.at d) := fun w d => hKk _ _ (.at _ _ _ w d)
  have hD : ∀ w w' es, DP Wg Own Rd j Low w w' es → K w → ChanOpen c w → K w' ∧ ChanOpen c w' ∧ ∀ e ∈ es, Ev0 Wg Own Rd j e := fun w w' es hd k o => by
    have hk : Keeps Wg C Low w w' := fun b hb _ _ => hd.1 b hb
    exact ⟨hKk _ _ hk k, o.keeps hcL hcW hcC hk, hd.2⟩
  obtain ⟨N1, gs1, a1, w1, sl1, t1, q1, r1, x1, ha1, hs1⟩ := walkA A hKd hD m gs a w sl t q x ha hg
  obtain ⟨hr1, hst1⟩ := hs1
  obtain ⟨N2, gs2, a2, w2, sl2, t2, q2, r2, x2, ha2, m2, hs2⟩ := oneA (sl := sl1) (d' := 1) (Q := fun g w => ∃ m, GA P Wg Own Rd Low j (AtAddX P Wg Own Rd Low K c z h j Next) m g w) A hKd x1 ha1 hr1 fun dd => by
    obtain ⟨g', e, hm⟩ := hst1 dd
    exact ⟨g', _, _, e, hKd _ _ x1.k, x1.chan.at dd, ev0s_bk bk_dis, rfl, hm⟩
  obtain ⟨N3, gs3, a3, w3, sl3, t3, q3, r3, x3, ha3, hs3⟩ := walkA A hKd hD m2 gs2 a2 w2 sl2 t2 q2 x2 ha2 hs2
  obtain ⟨hr3, hst3⟩ := hs3
  obtain ⟨N4, gs4, a4, w4, sl4, t4, q4, r4, x4, ha4, m4, hs4⟩ := oneA (sl := sl3) (d' := 1) (Q := fun g w => ∃ m, GA P Wg Own Rd Low j (AtEnX P Wg Own Rd Low K c z h j Next) m g w) A hKd x3 ha3 hr3 fun dd => by
    obtain ⟨g', v, e, hm⟩ := hst3 dd
    have hk : Keeps Wg C Low (w3.at dd) ((w3.at dd).setCell (stA Wg) v) := .aside (aside_setCell _ (stA Wg) v)
    exact ⟨g', _, _, e, hKk _ _ hk (hKd _ _ x3.k), (x3.chan.at dd).keeps hcL hcW hcC hk, ev0s_bk bk_rw, rfl, hm⟩
  obtain ⟨N5, gs5, a5, w5, sl5, t5, q5, r5, x5, ha5, hs5⟩ := walkA A hKd hD m4 gs4 a4 w4 sl4 t4 q4 x4 ha4 hs4
  obtain ⟨hr5, hst5⟩ := hs5
  obtain ⟨N6, gs6, a6, w6, sl6, t6, q6, r6, x6, ha6, m6, hs6⟩ := oneA (sl := sl5) (d' := 0) (Q := fun g w => ∃ m, GA P Wg Own Rd Low j (AtGoX P Wg Own Rd K c z h j Next) m g w) A hKd x5 ha5 hr5 fun dd => by
    obtain ⟨g', e, hm⟩ := hst5 dd
    exact ⟨g', _, _, e, hKd _ _ x5.k, x5.chan.at dd, ev0s_bk bk_en, rfl, hm⟩
  obtain ⟨N7, gs7, a7, w7, sl7, t7, q7, r7, x7, ha7, hs7⟩ := walkA A hKd hD m6 gs6 a6 w6 sl6 t6 q6 x6 ha6 hs6
  obtain ⟨hr7, hst7⟩ := hs7
  obtain ⟨N8, gs8, a8, w8, sl8, t8, q8, r8, x8, ha8, hs8⟩ := spawnA (sl := sl7) (Q := Next) A hKd x7 ha7 hr7 hst7
  refine ⟨N1 + (N2 + (N3 + (N4 + (N5 + (N6 + (N7 + N8)))))), gs8, a8, w8, sl8, t8, q8, ?_, x8, ha8, hs8⟩
  rw [runNT_add, r1]; dsimp only
  rw [runNT_add, r2]; dsimp only
  rw [runNT_add, r3]; dsimp only
  rw [runNT_add, r4]; dsimp only
  rw [runNT_add, r5]; dsimp only
  rw [runNT_add, r6]; dsimp only
  rw [runNT_add, r7]; dsimp only
  exact r8

omit [Payload] in
theorem roundsA (A : Apart (ShN Wg) Own Rd) (hKk : ∀ w w', Keeps Wg C Low w w' → K w → K w') (hcL : c < Low) (hcW : c ≠ Wg) (hcC : c ≠ C) {Fin : Goroutine → World → Prop} :
    ∀ (r j : Nat) (gs : Array Goroutine) (a : Goroutine) (w : World) (sl : Option (Nat × Nat)) (t : Trace) (q : Nat → Nat), j + r = n → PhA P K Wg Own Rd c z h j 0 gs w t q → gs[0]? = some a → SpawnsX P Wg n Own Rd Low K c z h Fin r a w →
    ∃ N gs' a' w' sl' t' q', runNT P N (crowd gs w sl) t = (.next (crowd gs' w' sl'), t') ∧ PhA P K Wg Own Rd c z h n 0 gs' w' t' q' ∧ gs'[0]? = some a' ∧ Fin a' w' := by
  intro r
  induction r with
  | zero =>
    intro j gs a w sl t q hj x ha hg
    obtain rfl : j = n := by omega
    exact ⟨0, gs, a, w, sl, t, q, rfl, x, ha, hg⟩
  | succ r ih =>
    intro j gs a w sl t q hj x ha hg
    obtain ⟨m, hg⟩ := hg
    have e : n - (r + 1) = j := by omega
    rw [e] at hg
    obtain ⟨N1, gs1, a1, w1, sl1, t1, q1, r1, x1, ha1, hs1⟩ := roundA (sl := sl) A hKk hcL hcW hcC x ha hg
    obtain ⟨N2, gs2, a2, w2, sl2, t2, q2, r2, x2, ha2, hs2⟩ := ih (j + 1) gs1 a1 w1 sl1 t1 q1 (by omega) x1 ha1 hs1
    refine ⟨N1 + N2, gs2, a2, w2, sl2, t2, q2, ?_, x2, ha2, hs2⟩
    rw [runNT_add, r1]
    exact r2

omit [Payload] in
theorem sum_one (n : Nat) (f : Nat → Nat) (hf : ∀ i, i < n → f i = 1) : sumTo n f = n := by
  induction n with
  | zero => rfl
  | succ n ih => rw [sumTo, ih fun i hi => hf i (by omega), hf n (by omega)]

/-- THE GHOST IS RAISED. -/
theorem beginB {gs : Array Goroutine} {a : Goroutine} {w : World} {sl : Option (Nat × Nat)} {t : Trace} (hsz : gs.size = n + 1) (ha : gs[0]? = some a)
    (hw : ∀ i, i < n → ∃ m g, gs[i + 1]? = some g ∧ OnWay P K (EvIdle Wg Own Rd) c z (h i) m g) (hti : TI Wg Own Rd n 0 t) (hk : K w) (hch : ChanShut c w) (hb : BStart P ty Wg C n Own Rd Low val AnchW h a w) :
    ∃ μ, InvB P ty Wg C n Own Rd (fun _ => Low) val vals AnchW Post K c z h μ (crowd gs w sl) t := by
  obtain ⟨hwg, hpay, hgh, mk, hkd⟩ := hb
  let M : Nat → Nat := fun i => if hi : i < n then (hgh i hi).choose else 0
  let q : Nat → Nat := fun i => if hi : i < n then (hw i hi).choose else 0
  let gh : Array Goroutine := Array.ofFn (n := n + 1) fun i => if i.1 = 0 then a else h (i.1 - 1)
  let D : Nat → WD := fun i => ⟨7, M i, 0⟩
  have hgz : gh.size = n + 1 := by simp [gh]
  have h0 : gh[0]? = some a := by simp [gh]
  have hs : ∀ i, i < n → gh[i + 1]? = some (h i) := fun i hi => by simp [gh, hi]
  have hV : Vc n D = n := sum_one n _ fun i _ => rfl
  have hcom : Com P ty Wg C n Own Rd (fun _ => Low) val n gh w t D 0 := by
    refine ⟨hgz, fun i hi => ⟨h i, hs i hi, ?_⟩, hti.ct, hti.norel, hti.deaf0, fun i hi => hti.deafW i hi, fun i hi h7 => absurd h7 (by simp [D]), fun i hi h7 => absurd h7 (by simp [D]), hpay⟩
    refine .r0 ?_
    have := (hgh i hi).choose_spec
    simp only [D, M, hi, dite_true]
    exact this
  have hrun : ∀ i, i < n → (h i).status = .running := by
    intro i hi
    obtain ⟨m, hm⟩ := hgh i hi
    exact Goes.running (fun _ _ x => x.1) w (RW.refl w) hm
  refine ⟨_, gs, gh, w, sl, _, fun i => q i + 1, rfl, ⟨gh, w, sl, n, D, .kd, mk, 0, a, (n : Int) * KK, 0, rfl, h0, .kd hkd, hcom, hwg, ?_, by simp, rfl⟩, .inr ⟨hsz, hgz, by rw [ha, h0], fun i hi => .inr ?_, hk, hch⟩, rfl⟩
  · have := Mode.opn (j := n) (D := D) (tag := .kd) trivial (fun i _ => .inl rfl) (by simp)
    simpa [hV, pend] using this
  · have hq := (hw i hi).choose_spec
    obtain ⟨g, hg, hon⟩ := hq
    refine ⟨q i, g, rfl, hg, ?_, hs i hi, hrun i hi, fun op hop hgo => hti.quiet op hop (by omega)⟩
    simp only [q, hi, dite_true]
    exact hon

/-- ████ FROM THE ENTRY TO THE RETURN, ON EVERY TAPE. ████ -/
theorem crowd_phase (A : Apart (ShN Wg) Own Rd) (hn : n < 2147483648) (hW : Wg < Low) (hC : C < Low) (hCW : C ≠ Wg) (hAr : ∀ g w, AnchW g w → g.status = .running)
    (hAn : ∀ g w, AnchW g w → ∃ m, Goes P true (RC ty Wg C) (DP Wg Own Rd n Low) (AtW1 P ty Wg C n Own Rd Low vals AnchW Post) m g w)
    (hl : vals.length = n) (hv : ∀ i, i < n → vals[i]? = some (val i)) (hKk : ∀ w w', Keeps Wg C Low w w' → K w → K w') (hcL : c < Low) (hcW : c ≠ Wg) (hcC : c ≠ C) {a : Goroutine} {w : World} {n0 : Nat}
    (hg : Goes P true Eq (DE (ConcN.EvL Wg)) (fun a' w' => SpawnsX P Wg n Own Rd Low K c z h (FinX P ty Wg C n Own Rd Low val AnchW K c h) n a' w' ∧ K w' ∧ ChanOpen c w') n0 a w) :
    ∃ N last o w' t', runNT P (N + 1) (solo a w) #[] = (.ended o w', t') ∧ runN P N (solo a w) = .next last ∧ step P last = .ended o w' ∧ Good P Post last o w' t' := by
  obtain ⟨k0, a0, w0, u, r0, ⟨hsp, hk, hop⟩, hu⟩ := solo_goesE #[] hg
  have hact : ∀ op ∈ u, ∀ m, op.act = .mark m → ∃ e, ConcN.EvL Wg e ∧ e.loc = .mark m := fun op hop m hm => by
    obtain ⟨_, e, he, hoe⟩ := hu op hop
    exact ⟨e, he, loc_of_ofEvent (hoe ▸ hm)⟩
  have x0 : PhA P K Wg Own Rd c z h 0 0 #[a0] w0 (#[] ++ u) (fun _ => 0) := by
    have hct : CT (ShN Wg) Own Rd (#[] ++ u) 0 := by
      have := CT.lone (Sh := ShN Wg) (Own := Own) (Rd := Rd) (fun op hop => (hu op hop).1) (fun op hop x hx => by
        obtain ⟨_, e, he, hoe⟩ := hu op hop
        exact he.1 x (hoe ▸ hx))
      simpa using this
    refine ⟨rfl, fun i hi => by omega, ⟨hct, NoRelease.app (fun i hi => by simp [Trace.act?] at hi) (fun op hop hm => ?_), ?_, fun i hi => by omega, fun op hop hne => absurd (hu op (by simpa using hop)).1 hne⟩, hk, hop⟩
    · obtain ⟨e, he, hl'⟩ := hact op hop _ hm
      exact he.2.2.2 hl'
    · rw [Deaf_still #[] 0 u fun op hop => ⟨fun hm => ?_, fun hm => ?_⟩]
      · rfl
      · obtain ⟨e, he, hl'⟩ := hact op hop _ hm
        exact he.2.1 hl'
      · obtain ⟨e, he, hl'⟩ := hact op hop _ hm
        exact he.2.2.1 hl'
  obtain ⟨N1, gs1, a1, w1, sl1, t1, q1, r1, x1, ha1, mf, hf⟩ := roundsA A hKk hcL hcW hcC n 0 #[a0] a0 w0 none _ _ (by omega) x0 rfl hsp
  have hKd : ∀ w d, K w → K (w.at d) := fun w d => hKk _ _ (.at _ _ _ w d)
  have hD : ∀ w w' es, DP Wg Own Rd n Low w w' es → K w → ChanOpen c w → K w' ∧ ChanOpen c w' ∧ ∀ e ∈ es, Ev0 Wg Own Rd n e := fun w w' es hd k o => by
    have hk : Keeps Wg C Low w w' := fun b hb _ _ => hd.1 b hb
    exact ⟨hKk _ _ hk k, o.keeps hcL hcW hcC hk, hd.2⟩
  obtain ⟨N2, gs2, a2, w2, sl2, t2, q2, r2, x2, ha2, hr2, hmw, hst2⟩ := walkA A hKd hD mf gs1 a1 w1 sl1 t1 q1 x1 ha1 hf
  obtain ⟨N3, gs3, a3, w3, sl3, t3, r3, hsz3, ha3, hw3, hti3, hk3, hch3, hb3⟩ := closeA (sl := sl2) (d' := 0) (Q := BStart P ty Wg C n Own Rd Low val AnchW h) A hKd x2 ha2 hr2 hmw fun dd => by
    obtain ⟨a', w', es, e, h1, h2, h3, h4, h5⟩ := hst2 dd
    exact ⟨a', w', es, e, h1, h2, h3, ev0s_of h4, deafBehind_idle (fun e he => ⟨(h4 e he).2.1, (h4 e he).2.2.1⟩) 0, h5⟩
  obtain ⟨μ, hI⟩ := beginB (vals := vals) (Post := Post) (sl := sl3) hsz3 ha3 hw3 hti3 hk3 hch3 hb3
  obtain ⟨N4, last, o, w4, t4, e1, e2, e3, e4⟩ := runsB A ⟨fun _ _ _ => Nat.le_refl _, hW, hC, hCW⟩ hn hAr hAn hl hv hKk hcL hcW hcC μ _ _ hI
  have hall : runNT P (k0 + (N1 + (N2 + N3))) (solo a w) #[] = (.next (crowd gs3 w3 sl3), t3) := by
    rw [runNT_add, r0]; dsimp only
    rw [solo_eq_crowd, runNT_add, r1]; dsimp only
    rw [runNT_add, r2]; dsimp only
    exact r3
  refine ⟨k0 + (N1 + (N2 + N3)) + N4, last, o, w4, t4, ?_, ?_, e3, e4⟩
  · rw [Nat.add_assoc _ N4 1, runNT_add, hall]
    exact e1
  · rw [runN_add, ← runNT_fst P _ _ #[], hall]
    exact e2
end
end Go.Proofs.YtpejmgellidhbaaGreatDoor
