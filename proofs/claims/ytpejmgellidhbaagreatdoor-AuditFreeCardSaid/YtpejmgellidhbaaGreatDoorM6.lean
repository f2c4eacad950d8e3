/-
  The two runs in lockstep, to the end of the piece: 'goes_piece'.
-/
import Derived.Test.YtpejmgellidhbaaGreatDoorM5
set_option linter.all false
namespace Go.Proofs.YtpejmgellidhbaaGreatDoor
open Go Go.Conc

section
variable {P : Program} {F : FuncId → Bool}

theorem step_over {g : Goroutine} {w : World} (hs : g.status = .running) (h : over (stepG P true g w)) : ∃ o w', step P (solo g w) = .ended o w' := by
  obtain ⟨o, w', es, h⟩ := h
  exact ⟨o, w', by rw [step, stepT_solo hs]; simp [runT, solo, Array.swapAt!, Array.swapAt, h, GStep.es]⟩

theorem step_go {g g' : Goroutine} {w w' : World} {es : Array Event} (hs : g.status = .running) (h : stepG P true g w = .go g' w' es) : step P (solo g w) = .next (solo g' w') := by
  rw [step, stepT_solo hs, runT_solo_go h]

theorem solo_inj {g g' : Goroutine} {w w' : World} (h : solo g w = solo g' w') : g = g' ∧ w = w' := by
  simp only [solo, Machine.mk.injEq, Array.mk.injEq, List.cons.injEq] at h
  exact ⟨h.2.1.1, h.1⟩

/-- What a step of such a piece may list, where the heap is of size B at its end. -/
def EvP (B : Nat) (e : Event) : Prop := NoDeaf e ∧ e.loc.low B

theorem lockstep (hF : Listed P F) {k : List Item} {cs : List Frame} {b : Frame} {a' : Act} {w' : World} :
    ∀ (n : Nat) (g' g : Goroutine) (w : World), Twin F k cs g' g → runN P n (solo g' w) = .next (solo (G (b.at a' trapK) [trap]) w') →
      w.heap.size ≤ w'.heap.size ∧ Goes P true Eq (DE (EvP w'.heap.size)) (fun x y => x = G (b.at a' k) cs ∧ y = w') n g w := by
  intro n
  induction n with
  | zero =>
    intro g' g w ht hr
    simp only [runN, Stepped.next.injEq] at hr
    obtain ⟨e, rfl⟩ := solo_inj hr
    refine ⟨Nat.le_refl _, fun w₁ e1 => ?_⟩
    subst e1
    refine ⟨?_, rfl⟩
    cases ht with
    | bot f T hf hT =>
      simp only [G, Goroutine.mk.injEq, and_true] at e
      have et : T ++ trapK = trapK := congrArg Frame.todo e
      have hT0 : T = [] := by
        cases T with
        | nil => rfl
        | cons x T => simp [trapK] at et
      subst hT0
      have h1 := congrArg (fun x : Frame => { x with todo := k }) e
      show G (botF f [] k) cs = _
      have h2 : botF f [] k = b.at a' k := h1
      rw [h2]
    | mid fr mids f T =>
      simp only [G, Goroutine.mk.injEq, and_true] at e
      have := congrArg List.length e.2
      simp at this
  | succ n ih =>
    intro g' g w ht hr
    have hs' : g'.status = .running := by cases ht <;> rfl
    have hs : g.status = .running := by cases ht <;> rfl
    rcases twin_step hF ht w with h | ⟨d, w₁, es, h, hd⟩ | ⟨h', h, w₁, es, h1, h2, hse, hgr, ht'⟩
    · obtain ⟨o, w₁, he⟩ := step_over hs' h
      simp [runN, he] at hr
    · simp only [runN, step_go hs' h] at hr
      cases n with
      | zero =>
        simp only [runN, Stepped.next.injEq] at hr
        obtain ⟨e, _⟩ := solo_inj hr
        have := hd.1
        rw [e] at this
        simp [G] at this
      | succ n =>
        obtain ⟨o, w₂, he⟩ := step_over hd.2.1 (hd.2.2.2 w₁)
        simp [runN, he] at hr
    · simp only [runN, step_go hs' h1] at hr
      obtain ⟨hsz, hg⟩ := ih _ _ _ ht' hr
      refine ⟨Nat.le_trans hgr.size hsz, Goes.step hs fun w₂ e => ?_⟩
      subst e
      rw [h2, goes_go]
      exact ⟨fun e he => ⟨hse e he, Loc.low_mono hsz (hgr.low e he)⟩, hg⟩

/-- ████ A PIECE OF CODE. ████ -/
theorem goes_piece (hF : Listed P F) {c : Code} (hc : goodCode F c = true) {a : Act} {w : World} {Q : Act → World → Prop}
    (h : c.wp P (fun e a' w' => e = .normal ∧ Q a' w') a w) (b : Frame) (hb : b.kind = .normal) (ha : a.defers = []) (k : List Item) (cs : List Frame) :
    ∃ (n : Nat) (a' : Act) (w' : World), Q a' w' ∧ w.heap.size ≤ w'.heap.size ∧ Goes P true Eq (DE (EvP w'.heap.size)) (fun x y => x = G (b.at a' k) cs ∧ y = w') n (G (b.at a (.code c :: k)) cs) w := by
  obtain ⟨e, a', w', ⟨rfl, hq⟩, harr⟩ := h b trapK [trap]
  obtain ⟨n, hn⟩ := harr
  have h0 := Twin.bot (F := F) (k := k) (cs := cs) (b.at a (.code c :: k)) [.code c] ⟨ha, rfl, .inl hb⟩ (by simpa [goodItem] using hc)
  obtain ⟨h1, h2⟩ := lockstep hF n (G (b.at a (.code c :: trapK)) [trap]) _ w h0 hn
  exact ⟨n, a', w', hq, h1, h2⟩
end
end Go.Proofs.YtpejmgellidhbaaGreatDoor
