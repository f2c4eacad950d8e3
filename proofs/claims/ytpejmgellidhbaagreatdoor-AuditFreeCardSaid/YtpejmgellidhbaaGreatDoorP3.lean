/-
  In the crowd's invariant (the library's 'CSit', 'WSit', 'Mode') a step of the starter's, behind the last go statement, and a step of a worker's, is an own step ('.go'), and leaves all blocks but the group's and the payload's.
-/
import Derived.Test.YtpejmgellidhbaaGreatDoorP2
set_option linter.all false
namespace Go.Proofs.YtpejmgellidhbaaGreatDoor
open Go Go.Conc Go.ConcN
open Go.ConcR (KK wgBlock WgAt stA smA rd wr mk Payload Aside2 DC0 Bk g_of_ofEvents loc_of_ofEvent)
variable [Payload]

def Keeps (Wg C Low : Nat) (w w' : World) : Prop := ∀ b, b < Low → b ≠ Wg → b ≠ C → w'.heap[b]? = w.heap[b]?

omit [Payload] in
theorem Keeps.refl (Wg C Low : Nat) (w : World) : Keeps Wg C Low w w := fun _ _ _ _ => rfl
omit [Payload] in
theorem Keeps.aside {Wg C Low : Nat} {w w' : World} (h : Aside Wg w w') : Keeps Wg C Low w w' := fun b _ hb _ => h.block b hb
omit [Payload] in
theorem Keeps.at (Wg C Low : Nat) (w : World) (d : Nat) : Keeps Wg C Low w (w.at d) := fun _ _ _ _ => rfl

section
variable {P : Program} {ty : TypeId} {Wg C n : Nat} {Own Rd : Nat → Loc → Prop} {Lw : Nat → Nat} {val : Nat → Value} {vals : List Value} {AnchW : Goroutine → World → Prop} {Post : Value → World → Prop}
  {w : World} {j : Nat} {D : Nat → WD} {tag : CTag} {f0 d0 : Nat} {a : Goroutine} {st sm : Int}

theorem w1_go {m : Nat} (hn : n < 2147483648) (hwg : WgAt ty Wg w st sm) (hmode : ConcN.Mode n D .w1 st sm)
    (h : Goes P true (RC ty Wg C) (DP Wg Own Rd n (Lw n)) (AtW1 P ty Wg C n Own Rd (Lw n) vals AnchW Post) m a w) :
    ∃ a' w' es, stepG P true a w = .go a' w' es ∧ Keeps Wg C (Lw n) w w' := by
  rcases Goes.cases h with hstop | ⟨m', rfl, hstep⟩
  · obtain ⟨_, hall⟩ := hstop w (.refl w)
    obtain ⟨ho, rfl, rfl, _⟩ := hmode.open_inv trivial
    have hV := Vc_le n D
    obtain ⟨a', hgo, _⟩ := hall (Vc n D) (by omega) (by simpa [pend] using hwg)
    exact ⟨a', w, _, hgo, .refl _ _ _ _⟩
  · obtain ⟨a', w', es, hgo, hD, _⟩ := hstep w (.refl w)
    exact ⟨a', w', es, hgo, fun b hb _ _ => hD.1 b hb⟩

theorem caller_go (hn : n < 2147483648)
    (hAn : ∀ g w, AnchW g w → ∃ m, Goes P true (RC ty Wg C) (DP Wg Own Rd n (Lw n)) (AtW1 P ty Wg C n Own Rd (Lw n) vals AnchW Post) m g w)
    (hj : j = n) (hcs : CSit P ty Wg C n Own Rd Lw val vals AnchW Post tag j f0 d0 a w) (hwg : WgAt ty Wg w st sm) (hmode : ConcN.Mode j D tag st sm) (hrun : a.status = .running) (hne : tag ≠ .ret) :
    ∃ a' w' es, stepG P true a w = .go a' w' es ∧ Keeps Wg C (Lw n) w w' := by
  cases hcs with
  | skd hr h => omega
  | sa1 hr h => omega
  | ske hr h => omega
  | sgo hr h => omega
  | kd h =>
    rcases Goes.cases h with hstop | ⟨m', rfl, hstep⟩
    · obtain ⟨_, a', hgo, _⟩ := hstop w (.refl w)
      exact ⟨a', w, _, hgo, .refl _ _ _ _⟩
    · obtain ⟨a', w', es, hgo, hD, _⟩ := hstep w (.refl w)
      exact ⟨a', w', es, hgo, fun b hb _ _ => hD.1 b hb⟩
  | anch h =>
    rcases Goes.cases h with hstop | ⟨m', rfl, hstep⟩
    · obtain ⟨m₂, hk⟩ := hAn a w (hstop w (.refl w))
      exact w1_go hn hwg (hmode.reopen trivial trivial rfl (by simp)) hk
    · obtain ⟨a', w', es, hgo, hD, _⟩ := hstep w (.refl w)
      exact ⟨a', w', es, hgo, fun b hb _ _ => hD.1 b hb⟩
  | w1 h => exact w1_go hn hwg hmode h
  | w2 h =>
    rename_i vs
    rcases Goes.cases h with hstop | ⟨m', rfl, hstep⟩
    · obtain ⟨_, hall⟩ := hstop w (.refl w)
      obtain ⟨ho, rfl, rfl, hw2⟩ := hmode.open_inv trivial
      have hV := Vc_le n D
      obtain ⟨hhit, hmiss⟩ := hall (Vc n D) (by omega) (by simpa [pend] using hwg)
      by_cases e : Vc n D = vs
      · obtain ⟨a', hgo, _⟩ := hhit e
        exact ⟨a', _, _, hgo, .aside (aside_setCell w (stA Wg) _)⟩
      · obtain ⟨a', hgo, _⟩ := hmiss e
        exact ⟨a', w, _, hgo, .refl _ _ _ _⟩
    · obtain ⟨a', w', es, hgo, hD, _⟩ := hstep w (.refl w)
      exact ⟨a', w', es, hgo, fun b hb _ _ => hD.1 b hb⟩
  | w3 h =>
    rcases Goes.cases h with hstop | ⟨m', rfl, hstep⟩
    · obtain ⟨_, hoff, hblk, htake⟩ := hstop w (.refl w)
      have blk : sm = 0 → ∃ a' w' es, stepG P true a w = .go a' w' es ∧ Keeps Wg C (Lw n) w w' := fun e => ⟨_, w, _, hblk ⟨st, by rw [← e]; exact hwg⟩, .refl _ _ _ _⟩
      cases hmode with
      | opn h1 _ _ => exact h1.elim
      | reg _ _ _ => exact blk rfl
      | last L _ _ _ _ => exact blk rfl
      | sema _ =>
        obtain ⟨a', hgo, _⟩ := htake hwg
        exact ⟨a', _, _, hgo, .aside (aside_setCell w (smA Wg) _)⟩
      | fin h1 _ => exact h1.elim
    · obtain ⟨a', w', es, hgo, hD, _⟩ := hstep w (.refl w)
      exact ⟨a', w', es, hgo, fun b hb _ _ => hD.1 b hb⟩
  | blk h => cases hrun
  | w4 h =>
    rcases Goes.cases h with hstop | ⟨m', rfl, hstep⟩
    · obtain ⟨_, hx⟩ := hstop w (.refl w)
      obtain ⟨_, rfl, rfl⟩ := hmode.fin_inv trivial
      obtain ⟨a', hgo, _⟩ := hx hwg
      exact ⟨a', w, _, hgo, .refl _ _ _ _⟩
    · obtain ⟨a', w', es, hgo, hD, _⟩ := hstep w (.refl w)
      exact ⟨a', w', es, hgo, fun b hb _ _ => hD.1 b hb⟩
  | ke h =>
    rcases Goes.cases h with hstop | ⟨m', rfl, hstep⟩
    · obtain ⟨_, a', hgo, _⟩ := hstop w (.refl w)
      exact ⟨a', w, _, hgo, .refl _ _ _ _⟩
    · obtain ⟨a', w', es, hgo, hD, _⟩ := hstep w (.refl w)
      exact ⟨a', w', es, hgo, fun b hb _ _ => hD.1 b hb⟩
  | acq h =>
    rcases Goes.cases h with hstop | ⟨m', rfl, hstep⟩
    · obtain ⟨_, a', hgo, _⟩ := hstop w (.refl w)
      exact ⟨a', w, _, hgo, .refl _ _ _ _⟩
    · obtain ⟨a', w', es, hgo, hD, _⟩ := hstep w (.refl w)
      exact ⟨a', w', es, hgo, fun b hb _ _ => hD.1 b hb⟩
  | ret h => exact absurd rfl hne

theorem worker_go {Low Low' k : Nat} {v : Value} {s m d i : Nat} {g : Goroutine} (hwg : WgAt ty Wg w st sm) (hmode : ConcN.Mode j D tag st sm) (hi : i < j) (hst : (D i).stage = s) (hb : j + pend tag < 2147483648)
    (hs : WSit P ty Wg C n Own Rd Low k v s m d g w) (hrun : g.status = .running) : ∃ g' w' es, stepG P false g w = .go g' w' es ∧ Keeps Wg C Low' w w' := by
  have hVj := Vc_le j D
  have idle : ∀ {m : Nat} {S : Goroutine → World → Prop}, (∀ w₁, RW ty Wg C n Low (k - 1) w w₁ → (stepG P false g w₁).goes fun g' w' es => DC0 w₁ w' es ∧ Goes P false (RW ty Wg C n Low (k - 1)) DC0 S m g' w') → ∃ g' w' es, stepG P false g w = .go g' w' es ∧ Keeps Wg C Low' w w' := by
    intro m S h
    obtain ⟨g', w', es, hgo, ⟨rfl, rfl⟩, _⟩ := goes_elim (h w (RW.refl w))
    exact ⟨g', _, _, hgo, .refl _ _ _ _⟩
  cases hs with
  | r0 h =>
    rcases Goes.cases h with hstop | ⟨m', rfl, hstep⟩
    · obtain ⟨_, _, g', hgo, _⟩ := hstop w (RW.refl w)
      exact ⟨g', w, _, hgo, .refl _ _ _ _⟩
    · obtain ⟨g', w', es, hgo, ⟨hac, _⟩, _⟩ := hstep w (RW.refl w)
      exact ⟨g', w', es, hgo, fun b _ _ hC => hac.block b hC⟩
  | k1 h =>
    rcases Goes.cases h with hstop | ⟨m', rfl, hstep⟩
    · obtain ⟨_, g', hgo, _⟩ := hstop w (RW.refl w)
      exact ⟨g', w, _, hgo, .refl _ _ _ _⟩
    · obtain ⟨g', w', es, hgo, ⟨rfl, rfl⟩, _⟩ := hstep w (RW.refl w)
      exact ⟨g', _, _, hgo, .refl _ _ _ _⟩
  | d1 h =>
    rcases Goes.cases h with hstop | ⟨m', rfl, hstep⟩
    · obtain ⟨_, hall⟩ := hstop w (RW.refl w)
      have hc1 : cnt (D i) = 1 := by simp [cnt, hst]
      have hV1 : 1 ≤ Vc j D := by have := le_sumTo (f := fun x => cnt (D x)) hi; simp only [Vc]; omega
      cases hmode with
      | opn h1 h2 h3 =>
        obtain ⟨v, hv⟩ : ∃ v, Vc j D + pend tag = v + 1 := ⟨Vc j D + pend tag - 1, by omega⟩
        rw [hv] at hwg
        have hw1 : WgAt ty Wg w (((v : Nat) + 1) * KK + ((0 : Nat) : Int)) 0 := by simpa using hwg
        obtain ⟨g', hgo, _⟩ := hall v 0 (by omega) (by omega) hw1
        exact ⟨g', _, _, hgo, .aside (aside_setCell w (stA Wg) _)⟩
      | reg h1 h2 h3 =>
        obtain ⟨v, hv⟩ : ∃ v, Vc j D = v + 1 := ⟨Vc j D - 1, by omega⟩
        rw [hv] at hwg
        have hw1 : WgAt ty Wg w (((v : Nat) + 1) * KK + ((1 : Nat) : Int)) 0 := by simpa using hwg
        obtain ⟨g', hgo, _⟩ := hall v 1 (by omega) (by omega) hw1
        exact ⟨g', _, _, hgo, .aside (aside_setCell w (stA Wg) _)⟩
      | last L _ h2 h3 h4 =>
        by_cases e : i = L
        · subst e; omega
        · have := h4 i hi e; omega
      | sema h2 => have := h2 i hi; omega
      | fin _ h2 => have := h2 i hi; omega
    · obtain ⟨g', w', es, hgo, ⟨rfl, rfl⟩, _⟩ := hstep w (RW.refl w)
      exact ⟨g', _, _, hgo, .refl _ _ _ _⟩
  | d2 h =>
    rcases Goes.cases h with hstop | ⟨m', rfl, hstep⟩
    · obtain ⟨_, hx⟩ := hstop w (RW.refl w)
      obtain ⟨hW3, hoth, rfl, rfl⟩ := hmode.isLast hi (by omega)
      simp only [hst] at hwg
      obtain ⟨g', hgo, _⟩ := hx (by simpa using hwg)
      exact ⟨g', w, _, hgo, .refl _ _ _ _⟩
    · obtain ⟨g', w', es, hgo, ⟨rfl, rfl⟩, _⟩ := hstep w (RW.refl w)
      exact ⟨g', _, _, hgo, .refl _ _ _ _⟩
  | d3 h =>
    rcases Goes.cases h with hstop | ⟨m', rfl, hstep⟩
    · obtain ⟨_, hx⟩ := hstop w (RW.refl w)
      obtain ⟨hW3, hoth, rfl, rfl⟩ := hmode.isLast hi (by omega)
      simp only [hst] at hwg
      obtain ⟨g', hgo, _⟩ := hx (by simpa using hwg)
      exact ⟨g', _, _, hgo, .aside (aside_setCell w (stA Wg) _)⟩
    · obtain ⟨g', w', es, hgo, ⟨rfl, rfl⟩, _⟩ := hstep w (RW.refl w)
      exact ⟨g', _, _, hgo, .refl _ _ _ _⟩
  | d4 h =>
    rcases Goes.cases h with hstop | ⟨m', rfl, hstep⟩
    · obtain ⟨_, _, hx⟩ := hstop w (RW.refl w)
      obtain ⟨hW3, hoth, rfl, rfl⟩ := hmode.isLast hi (by omega)
      simp only [hst] at hwg
      obtain ⟨g', hgo, _⟩ := hx (by simpa using hwg)
      exact ⟨g', _, _, hgo, .aside (aside_setCell w (smA Wg) _)⟩
    · obtain ⟨g', w', es, hgo, ⟨rfl, rfl⟩, _⟩ := hstep w (RW.refl w)
      exact ⟨g', _, _, hgo, .refl _ _ _ _⟩
  | quit h =>
    cases m with
    | zero => rw [h.1] at hrun; cases hrun
    | succ q =>
      rcases h with ⟨hf, _⟩ | ⟨_, g', es, _, hstep, _⟩
      · rw [hf] at hrun; cases hrun
      · exact ⟨g', w, es, hstep w, .refl _ _ _ _⟩
end
end Go.Proofs.YtpejmgellidhbaaGreatDoor
