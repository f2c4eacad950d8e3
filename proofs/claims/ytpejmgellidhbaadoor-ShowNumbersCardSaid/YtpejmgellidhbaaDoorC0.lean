/- What the proof of look speaks of. -/
import Derived.Test.YtpejmgellidhbaaDoorB6
import Derived.Deep.QuietTactic
import Derived.BigQuiet
import Derived.Deep.RegionHeld3
import Derived.Deep.RegionLaw
import Derived.StillTailTactics
import Derived.Deep.DeepCutAuto
namespace Go.Proofs.YtpejmgellidhbaaDoor
open Go.RowKit

/-- What look hands back, and what it leaves. -/
def LookPost (w0 : World) (B p m : Nat) (hv : Value) (r : LRes) (e : Ending) (w' : World) : Prop :=
  Below B w0 w' ∧ match r with
    | .large => e = .returned (.tuple #[.bool false, .agg #[.int .i64 0, .int .i64 0]])
    | .err k => e = .returned (.tuple #[.bool false, .agg #[.int .i64 k, .int .i64 0]])
    | .ok ms => e = .returned (.tuple #[.bool true, .agg #[.int .i64 0, .int .i64 0]]) ∧ ∃ ov c bs, WalkAt w0 w' B p m hv ov c ms bs

theorem eql_ptrOf (q : Option Nat) (w : World) : (binOp .eql 80 (ptrOf q) (.pointer none)).run Tryd.prog w = .ok (.bool q.isNone) w := by
  cases q with
  | none => simp only [ptrOf, Option.isNone_none]; go_simp
  | some b => simp only [ptrOf, Option.isNone_some]; go_simp
theorem eqg_ptrOf (q : Option Nat) (w : World) : (eqGuard .eql 80 (.tmp 57) (.const (.pointer none)) (ptrOf q) (.pointer none)).run Tryd.prog w = .ok () w := by
  cases q with
  | none => simp only [ptrOf]; go_simp
  | some b => simp only [ptrOf]; go_simp
/-- What a call of Node leaves in the variables n and f of look. -/
def NodeGot (w0 W : World) (r : Option Nd) (s10 s11 : Value) (wc : World) : Prop :=
  ∃ nb fb a0 a1 a2 a3 a4 f0 f1, s10 = .pointer (some ⟨nb, 0, none⟩) ∧ s11 = .pointer (some ⟨fb, 0, none⟩) ∧ Got W wc nb fb a0 a1 a2 a3 a4 f0 f1 ∧ match r with
    | some nd => a0 = .int .i64 nd.id ∧ a1 = .int .i64 nd.kind ∧ f0 = .int .i64 0 ∧ f1 = .int .i64 0 ∧ NV w0 nd a2 a3 a4
    | none => f0 = .int .i64 30 ∧ f1 = .int .i64 0
theorem nodeGot_none {w0 W wc : World} {nb fb : Nat} {a0 a1 a2 a3 a4 : Value} (h : Got W wc nb fb a0 a1 a2 a3 a4 (.int .i64 30) (.int .i64 0)) : NodeGot w0 W none (.pointer (some ⟨nb, 0, none⟩)) (.pointer (some ⟨fb, 0, none⟩)) wc := ⟨_, _, _, _, _, _, _, _, _, rfl, rfl, h, rfl, rfl⟩
theorem nodeGot_some {w0 W wc : World} {nb fb : Nat} {nd : Nd} {a2 a3 a4 : Value} (h : Got W wc nb fb (.int .i64 nd.id) (.int .i64 nd.kind) a2 a3 a4 (.int .i64 0) (.int .i64 0)) (hn : NV w0 nd a2 a3 a4) : NodeGot w0 W (some nd) (.pointer (some ⟨nb, 0, none⟩)) (.pointer (some ⟨fb, 0, none⟩)) wc := ⟨_, _, _, _, _, _, _, _, _, rfl, rfl, h, rfl, rfl, rfl, rfl, hn⟩
/-- What Node tells, both ways in one. -/
def NodeRes (w0 : World) (r : Option Nd) (i k f : Int) (rv fv ev : Value) : Prop := match r with
  | some nd => i = nd.id ∧ k = nd.kind ∧ f = 0 ∧ NV w0 nd rv fv ev
  | none => f = 30
def NodeGen (w00 w0 : World) (r : Option Nd) (e : Ending) (w' : World) : Prop :=
  Below w0.heap.size w0 w' ∧ ∃ (i k f : Int) (A1 : Option Addr) (n1 c1 : Nat) (A2 : Option Addr) (n2 c2 : Nat) (A3 : Option Addr) (n3 c3 : Nat),
    e = .returned (.tuple #[.agg #[.int .i64 i, .int .i64 k, .slice A1 n1 c1, .slice A2 n2 c2, .slice A3 n3 c3], .agg #[.int .i64 f, .int .i64 0]]) ∧ NodeRes w00 r i k f (.slice A1 n1 c1) (.slice A2 n2 c2) (.slice A3 n3 c3)
theorem node_gen (w00 : World) (nv rv : Value) (xs : List Nd) (vk vn : Int) (w : World) (h : RdNodes w00 nv xs) (h00 : Below w00.heap.size w00 w) (hr : ∃ A n c, rv = .slice A n c) :
    Calls Tryd.prog 112 #[.agg #[nv, rv], .agg #[.int .i64 vk, .int .i64 vn]] w (NodeGen w00 w (findN xs vn)) := by
  refine (node_any w00 nv rv xs vk vn w h h00 hr).mono fun e w' hp => ?_
  obtain ⟨hb, hm⟩ := hp
  cases hf : findN xs vn with
  | none =>
    rw [hf] at hm
    obtain ⟨v, rfl, rfl⟩ := hm
    exact ⟨hb, 0, 0, 30, none, 0, 0, none, 0, 0, none, 0, 0, rfl, rfl⟩
  | some nd =>
    rw [hf] at hm
    obtain ⟨rv', fv', ev', rfl, hn⟩ := hm
    obtain ⟨A1, n1, c1, rfl⟩ := hn.rawForm
    obtain ⟨A2, n2, c2, rfl⟩ := hn.fieldsForm
    obtain ⟨A3, n3, c3, rfl⟩ := hn.ev
    exact ⟨hb, nd.id, nd.kind, 0, A1, n1, c1, A2, n2, c2, A3, n3, c3, rfl, rfl, rfl, rfl, hn⟩
theorem nodeGot_res {w0 W wc : World} {nb fb : Nat} {r : Option Nd} {i k f : Int} {a2 a3 a4 : Value} (h : Got W wc nb fb (.int .i64 i) (.int .i64 k) a2 a3 a4 (.int .i64 f) (.int .i64 0)) (hr : NodeRes w0 r i k f a2 a3 a4) : NodeGot w0 W r (.pointer (some ⟨nb, 0, none⟩)) (.pointer (some ⟨fb, 0, none⟩)) wc := by
  refine ⟨_, _, _, _, _, _, _, _, _, rfl, rfl, h, ?_⟩
  cases r with
  | none => exact ⟨congrArg _ hr, rfl⟩
  | some nd =>
    obtain ⟨rfl, rfl, rfl, hn⟩ := hr
    exact ⟨rfl, rfl, rfl, rfl, hn⟩
/-- How often objects were met, and how many there are. -/
def Few (c d : Int) (ms : List (Int × Met)) : Prop := (∀ x ∈ ms, 0 ≤ x.2.times ∧ x.2.times ≤ c) ∧ (ms.length : Int) ≤ d
theorem Few.mono {c d c' d' : Int} {ms : List (Int × Met)} (h : Few c d ms) (hc : c ≤ c') (hd : d ≤ d') : Few c' d' ms := ⟨fun x hx => ⟨(h.1 x hx).1, Int.le_trans (h.1 x hx).2 hc⟩, Int.le_trans h.2 hd⟩
theorem times_once {c : Int} {n : Int} : ∀ {ms : List (Int × Met)}, (∀ x ∈ ms, 0 ≤ x.2.times ∧ x.2.times ≤ c) → ∀ x ∈ metMod once n ms, 0 ≤ x.2.times ∧ x.2.times ≤ c + 1
  | [], _ => fun x hx => by simp [metMod] at hx
  | y :: r, h => fun x hx => by
    have h0 := h y (by simp)
    unfold metMod at hx
    split at hx
    · rcases List.mem_cons.1 hx with rfl | hx
      · simp only [once]
        omega
      · have := h x (by simp [hx])
        omega
    · rcases List.mem_cons.1 hx with rfl | hx
      · omega
      · exact times_once (fun x hx => h x (by simp [hx])) x hx
theorem Few.once {c d : Int} {n : Int} {ms : List (Int × Met)} (h : Few c d ms) : Few (c + 1) d (metMod once n ms) := ⟨times_once h.1, by rw [metMod_length]; exact h.2⟩
theorem Few.new {c d : Int} {n : Int} {mm : Met} {ms : List (Int × Met)} (h : Few c d ms) (h0 : mm.times = 0) (hc : 0 ≤ c) : Few c (d + 1) (ms ++ [(n, mm)]) := by
  refine ⟨fun x hx => ?_, by simp; exact h.2⟩
  rcases List.mem_append.1 hx with hx | hx
  · exact h.1 x hx
  · simp only [List.mem_singleton] at hx
    subst hx
    simp only [h0]
    omega
/-- What a round of look has behind the look-up: the object's block, and what is still to be reckoned; fr: the object is a new one. -/
def LookMid (w0 wc : World) (B p m rb : Nat) (hv : Value) (nodes : List Nd) (R : LRes) (k : Nat) (c : Int) (sv : Value) (rest : List (Int × Int)) (fr : Bool) (s8 : Value) : Prop :=
  ∃ (b : Nat) (ms : List (Int × Met)) (bs : List Nat) (ov : Value) (i : Nat) (n : Int) (mm : Met), s8 = .pointer (some ⟨b, 0, none⟩) ∧ WalkAt w0 wc B p m hv ov c ms bs ∧ bs[i]? = some b ∧ ms[i]? = some (n, mm) ∧ StackAt wc B sv rest ∧
    wc.heap[rb]? = some (.cells #[.int .i64 0, .int .i64 0] 38 (0, 0)) ∧ Few (c - 1) c ms ∧ (fr = true → mm.nd.fields.length ≤ 20000) ∧
    (if mm.nd.kind = 4 ∧ 500 < c + mm.nd.raw.length then .large else lookM nodes k (if (fr && kBox mm.nd.kind) = true then partsM mm.nd.kind mm.nd.fields ++ rest else rest) (metMod once n ms) (c + grows mm.nd)) = R

/-- What a round of look begins with. -/
def LookAt (w0 wr : World) (B p m rb : Nat) (hv : Value) (nodes : List Nd) (R : LRes) (gk : Nat) (sv : Value) : Prop :=
  ∃ stk ms bs ov c, WalkAt w0 wr B p m hv ov c ms bs ∧ StackAt wr B sv stk ∧ Few c c ms ∧ lookM nodes gk stk ms c = R ∧ 0 ≤ c ∧ c ≤ 500 ∧ 501 ≤ gk + c ∧ (stk.length : Int) ≤ 1 + 20000 * c ∧
    wr.heap[rb]? = some (.cells #[.int .i64 0, .int .i64 0] 38 (0, 0)) ∧ B ≤ rb

end Go.Proofs.YtpejmgellidhbaaDoor
