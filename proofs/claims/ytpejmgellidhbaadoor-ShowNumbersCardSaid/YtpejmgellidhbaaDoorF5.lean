/- The method tell of show.walk. -/
import Derived.Test.YtpejmgellidhbaaDoorD3
namespace Go.Proofs.YtpejmgellidhbaaDoor
open Go.RowKit

/-- The piece at the top of a stack of pieces. -/
theorem pcs_top {w : World} {B : Nat} {sv : Value} {x : Pc} {rest : List Pc} (h : w.ownsRow B 87 4 sv (rest.length + 1) (pcsCells (x :: rest).reverse)) :
    ∃ g cap, sv = .slice (some ⟨g, 0, none⟩) (rest.length + 1) cap ∧ (∀ j u, (pcCells x)[j]? = some u → w.cell? ⟨g, rest.length * 4 + j, none⟩ = some u) ∧ w.ownsRow B 87 4 (.slice (some ⟨g, 0, none⟩) rest.length cap) rest.length (pcsCells rest.reverse) ∧ rest.length + 1 ≤ cap ∧ cap ≤ maxLen := by
  have h' := h
  obtain ⟨hl, h2⟩ := h
  rcases h2 with ⟨_, h0⟩ | ⟨g, cap, cur, rfl, hB, hg, hn, hcap, hsz, ht⟩
  · simp at h0
  · have e : pcsCells (x :: rest).reverse = pcsCells rest.reverse ++ pcCells x := by
      rw [List.reverse_cons, pcsCells_append]
      simp [pcsCells]
    have hlen : (pcsCells rest.reverse).length = rest.length * 4 := by rw [pcsCells_len, List.length_reverse]
    have hc := h'.cells (g := g) rfl
    refine ⟨g, cap, rfl, fun j u hu => ?_, ?_, hn, hcap⟩
    · have := hc (rest.length * 4 + j) u (by rw [e, List.getElem?_append_right (by omega), hlen]; simpa using hu)
      rwa [show (⟨g, 0, none⟩ : Addr).add (rest.length * 4 + j) = ⟨g, rest.length * 4 + j, none⟩ from by unfold Addr.add; split <;> simp_all] at this
    · refine ownsRow_pop (last := pcCells x) hlen ?_
      rw [← e]
      exact h'
theorem row87_lower {w : World} {b1 b2 n : Nat} {v : Value} {xs : List Value} (h : w.ownsRow b1 87 4 v n xs) (hb : b2 ≤ b1) : w.ownsRow b2 87 4 v n xs := by
  refine ⟨h.1, ?_⟩
  rcases h.2 with hn | ⟨g, cap, cur, rfl, hB, rest⟩
  · exact .inl hn
  · exact .inr ⟨g, cap, cur, rfl, Nat.le_trans hb hB, rest⟩
theorem row87_new {w w' : World} {B n n' : Nat} {v v' : Value} {xs ys : List Value} (h : w'.ownsRow w.heap.size 87 4 v n xs) (h' : w.ownsRow B 87 4 v' n' ys) : ∀ k, v.ownBlock = some k → v'.ownBlock ≠ some k := by
  intro k hk e
  have h1 := (row87 h k hk).1
  obtain ⟨_, cs, hcs⟩ := row87 h' k e
  have := blk_lt hcs
  omega
theorem pcsCells_get : ∀ (l : List Pc) (j i : Nat) (h : j < l.length), i < 4 → (pcsCells l)[j * 4 + i]? = (pcCells l[j])[i]?
  | [], j, i, h, _ => by simp at h
  | x :: r, 0, i, _, hi => by
    have e : pcsCells (x :: r) = pcCells x ++ pcsCells r := by simp [pcsCells]
    rw [e, Nat.zero_mul, Nat.zero_add, List.getElem?_append_left (by rw [pcCells_len]; exact hi)]
    rfl
  | x :: r, j + 1, i, h, hi => by
    have e : pcsCells (x :: r) = pcCells x ++ pcsCells r := by simp [pcsCells]
    rw [e, List.getElem?_append_right (by rw [pcCells_len]; omega), pcCells_len, show (j + 1) * 4 + i - 4 = j * 4 + i by omega]
    exact pcsCells_get r j i (by simpa using h) hi
/-- Pieces in a row, cell by cell. -/
theorem pcs_at {w : World} {B : Nat} {mA : Option Addr} {mc : Nat} {l : List Pc} (h : w.ownsRow B 87 4 (.slice mA l.length mc) l.length (pcsCells l)) (hl : 0 < l.length) :
    ∃ b, mA = some ⟨b, 0, none⟩ ∧ ∀ j (hj : j < l.length) i u, (pcCells l[j])[i]? = some u → w.cell? ⟨b, j * 4 + i, none⟩ = some u := by
  obtain ⟨g, cap, hv, _, _⟩ := h.form hl
  rw [Value.slice.injEq] at hv
  obtain ⟨rfl, -, rfl⟩ := hv
  refine ⟨g, rfl, fun j hj i u hu => ?_⟩
  have hi : i < 4 := by
    have := (List.getElem?_eq_some_iff.1 hu).1
    rwa [pcCells_len] at this
  have := h.cells (g := g) rfl (j * 4 + i) u (by rw [pcsCells_get l j i hj hi]; exact hu)
  rwa [show (⟨g, 0, none⟩ : Addr).add (j * 4 + i) = ⟨g, j * 4 + i, none⟩ from by unfold Addr.add; split <;> simp_all] at this
/-- What the pushing of pieces has come to. -/
structure PushPc (w0 wr : World) (B p m ob : Nat) (hv ov : Value) (c : Int) (ms : List (Int × Met)) (bs : List Nat) (out : List UInt8) (mv : Value) (l rest : List Pc) (j : Nat) (sv iv : Value) : Prop where
  i : iv = .int .i64 ((j : Int) - 1)
  le : j ≤ l.length
  walk : WalkAt w0 wr B p m hv ov c ms bs
  built : Lib.IsBuilderF 74 5 B ob (Lib.byteCells out) wr
  stack : wr.ownsRow B 87 4 sv (l.drop j ++ rest).length (pcsCells (l.drop j ++ rest).reverse)
  more : wr.ownsRow B 87 4 mv l.length (pcsCells l)
  apart : ∀ k, mv.ownBlock = some k → sv.ownBlock ≠ some k
theorem PushPc.next {w0 wr w' : World} {B p m ob : Nat} {hv ov mv sv sv' iv iv' : Value} {c : Int} {ms : List (Int × Met)} {bs : List Nat} {out : List UInt8} {l rest : List Pc} {j : Nat} {x : Pc} (h : PushPc w0 wr B p m ob hv ov c ms bs out mv l rest (j + 1) sv iv) (hx : l[j]? = some x)
    (hown : w'.ownsRow B 87 4 sv' ((l.drop (j + 1) ++ rest).reverse ++ [x]).length (pcsCells ((l.drop (j + 1) ++ rest).reverse ++ [x]))) (hg : wr.grownBy w' sv.ownBlock) (hat : sv'.ownBlock = sv.ownBlock ∨ sv'.ownBlock = some (wr.heap.size + 1)) (hi : iv' = .int .i64 ((j : Int) - 1)) :
    PushPc w0 w' B p m ob hv ov c ms bs out mv l rest j sv' iv' := by
  have hlt : j < l.length := by have := h.le; omega
  have hx2 : l[j] = x := by simpa [List.getElem?_eq_getElem hlt] using hx
  have he : l.drop j ++ rest = x :: (l.drop (j + 1) ++ rest) := by rw [List.drop_eq_getElem_cons hlt, hx2, List.cons_append]
  refine ⟨hi, by omega, h.walk.grown87 h.stack (Nat.le_refl _) hg, grown_builder h.built h.stack hg, ?_, ?_, fun k hk => ?_⟩
  · rw [he, List.reverse_cons]
    have e : ((l.drop (j + 1) ++ rest).reverse ++ [x]).length = (x :: (l.drop (j + 1) ++ rest)).length := by
      rw [List.length_append, List.length_reverse]
      rfl
    rw [e] at hown
    exact hown
  · exact h.more.kept hg (by
      by_cases hq : mv.ownBlock = none
      · exact .inl hq
      · refine .inr fun e => ?_
        obtain ⟨k, hk⟩ := Option.ne_none_iff_exists'.1 hq
        exact h.apart k hk (by rw [← e]; exact hk))
  · rcases hat with e | e
    · rw [e]
      exact h.apart k hk
    · rw [e]
      have := (h.more.lt k hk).2
      simp
      omega
/-- What a round of tell begins with. -/
def TellAt (w0 wr : World) (B p m ob : Nat) (hv ov : Value) (c : Int) (bs : List Nat) (R : List UInt8) (gk : Nat) (sv : Value) : Prop :=
  ∃ todo ms out, WalkAt w0 wr B p m hv ov c ms bs ∧ Lib.IsBuilderF 74 5 B ob (Lib.byteCells out) wr ∧ wr.ownsRow B 87 4 sv todo.length (pcsCells todo.reverse) ∧ EachOk ms ∧ tellM goTells gk todo ms out = some R ∧ gk ≤ 200000000
/-- What a round of tell has behind the switch. -/
def MoreAt (w0 wr : World) (B p m ob : Nat) (hv ov : Value) (c : Int) (bs : List Nat) (R : List UInt8) (k : Nat) (sv : Value) (rest : List Pc) (s8 : Value) : Prop :=
  ∃ l ms out, WalkAt w0 wr B p m hv ov c ms bs ∧ Lib.IsBuilderF 74 5 B ob (Lib.byteCells out) wr ∧ wr.ownsRow B 87 4 sv rest.length (pcsCells rest.reverse) ∧ wr.ownsRow B 87 4 s8 l.length (pcsCells l) ∧ (∀ k, s8.ownBlock = some k → sv.ownBlock ≠ some k) ∧
    EachOk ms ∧ tellM goTells k (l ++ rest) ms out = some R
set_option maxRecDepth 100000 in
set_option maxHeartbeats 4000000 in
theorem tell_any (w0 w : World) (B p m ob : Nat) (hv ov : Value) (c : Int) (ms : List (Int × Met)) (bs : List Nat) (v : Int × Int) (F : Nat) (R : List UInt8) (hT0 : Tabs w0) (hW : WalkAt w0 w B p m hv ov c ms bs) (hI : Lib.IsBuilderF 74 5 B ob (Lib.byteCells []) w)
    (hE : EachOk ms) (ht : tellM goTells F [.val v] ms [] = some R) (hF : F ≤ 200000000) (hR : R.length ≤ 140737488355328) :
    Calls Tryd.prog 31 #[.pointer (some ⟨p, 0, none⟩), .pointer (some ⟨ob, 0, none⟩), .agg #[.int .i64 v.1, .int .i64 v.2]] w fun e w' => e = .returned (.tuple #[]) ∧ Lib.IsBuilderF 74 5 B ob (Lib.byteCells R) w' ∧ Below B w0 w' := by
  have hBs : B ≤ w.heap.size := Nat.le_of_lt (Nat.lt_of_le_of_lt (hW.lt (.inl rfl)).1 (hW.lt (.inl rfl)).2)
  have hb0 : Below w.heap.size w ((w.alloc (.cells #[.int .i64 v.1, .int .i64 v.2] 27)).alloc (.cells #[.string ⟨#[]⟩, .int .i64 v.1, .int .i64 v.2, .int .i64 1] 87)) := ((Below.refl _ _).alloc (Nat.le_refl _) _).alloc (by simp) _
  have hA : TellAt w0 ((w.alloc (.cells #[.int .i64 v.1, .int .i64 v.2] 27)).alloc (.cells #[.string ⟨#[]⟩, .int .i64 v.1, .int .i64 v.2, .int .i64 1] 87)) B p m ob hv ov c bs R F (.slice (some ⟨w.heap.size + 1, 0, none⟩) 1 1) :=
    ⟨[.val v], ms, [], hW.below hb0, isBuilder_below hI hb0, pcs_row (by omega) (by have := ha_new (w.alloc (.cells #[.int .i64 v.1, .int .i64 v.2] 27)) (.cells #[.string ⟨#[]⟩, .int .i64 v.1, .int .i64 v.2, .int .i64 1] 87); simpa using this) rfl rfl rfl (by simp), hE, ht, hF⟩
  have HA := hid hA
  have HR := hid hR
  clear hb0 hA hE ht hW hI hR
  go_enter Tryd.func31, Tryd.ntmps31
  go_wp2_with fail
  go_loopg [6] F (fun gk sv wr => TellAt w0 wr B p m ob hv ov c bs R gk sv)
  case atStart => exact HA.out
  case round =>
    obtain ⟨todo, ms', out, hW, hI, hrow, hE, ht, hgk⟩ := hrel
    clear HA
    obtain ⟨k, rfl⟩ : ∃ k, gk = k + 1 := by
      cases gk with
      | zero => simp [tellM] at ht
      | succ k => exact ⟨k, rfl⟩
    cases todo with
    | nil =>
      obtain ⟨A, cc, rfl⟩ := ownsRow_slice hrow
      simp only [tellM, Option.some.injEq] at ht
      subst ht
      have HF := hid (And.intro hW hI)
      clear hW hI hrow
      go_wp2_with fail
      go_end0
      exact ⟨rfl, HF.out.2, HF.out.1.elder.1⟩
    | cons x rest =>
      obtain ⟨hlt, -⟩ := tellM_facts _ _ _ _ _ ht
      obtain ⟨g, cap, rfl, hcells, hrest, hcap, hcm⟩ := pcs_top hrow
      simp only [List.length_cons] at hlt
      have hB1 : B ≤ wr.heap.size := Nat.le_of_lt (Nat.lt_of_le_of_lt (hW.lt (.inl rfl)).1 (hW.lt (.inl rfl)).2)
      obtain ⟨s', k', n', i', hpc⟩ : ∃ (s' : ByteArray) (k' n' i' : Int), pcCells x = [.string s', .int .i64 k', .int .i64 n', .int .i64 i'] := by
        cases x
        · exact ⟨_, _, _, _, rfl⟩
        · exact ⟨_, _, _, _, rfl⟩
        · exact ⟨_, _, _, _, rfl⟩
      rw [hpc] at hcells
      have c0 : wr.cell? ⟨g, rest.length * 4, none⟩ = some (.string s') := hcells 0 _ rfl
      have c1 := hcells 1 (.int .i64 k') rfl
      have c2 := hcells 2 (.int .i64 n') rfl
      have c3 := hcells 3 (.int .i64 i') rfl
      have hb0 : Below wr.heap.size wr (wr.alloc (.cells #[.string s', .int .i64 k', .int .i64 n', .int .i64 i'] 87)) := (Below.refl _ _).alloc (Nat.le_refl _) _
      have hW1 := hW.below hb0
      have hI1 := isBuilder_below hI hb0
      have hr1 := hrest.alloc (.cells #[.string s', .int .i64 k', .int .i64 n', .int .i64 i'] 87)
      have hxb := ha_new wr (.cells #[.string s', .int .i64 k', .int .i64 n', .int .i64 i'] 87)
      have HF := hid (And.intro hW1 (And.intro hI1 (And.intro hr1 (And.intro hE (And.intro ht (And.intro hxb hpc))))))
      clear hcells hrow hW hI hrest hE ht hpc hb0 hW1 hI1 hr1 hxb
      go_upto_block 2 with (fail)
      clear c0 c1 c2 c3
      generalize World.alloc wr _ = W1 at *
      go_cut [8] (fun s8 wc => MoreAt w0 wc B p m ob hv ov c bs R k (.slice (some ⟨g, 0, none⟩) rest.length cap) rest s8)
      case first =>
        have hB2 : B ≤ W1.heap.size := Nat.le_of_lt (Nat.lt_of_le_of_lt (HF.out.1.lt (.inl rfl)).1 (HF.out.1.lt (.inl rfl)).2)
        cases x with
        | text s =>
          have hp := HF.out.2.2.2.2.2.2
          simp only [pcCells, List.cons.injEq, Value.string.injEq, Value.int.injEq, true_and, and_true] at hp
          obtain ⟨rfl, rfl, rfl, rfl⟩ := hp
          have cx0 : W1.cell? ⟨wr.heap.size, 0, none⟩ = some (.string s) := bc HF.out.2.2.2.2.2.1 0
          have ht := HF.out.2.2.2.2.1
          simp only [tellM] at ht
          have hle := (tellM_facts _ _ _ _ _ ht).2
          have hS : Calls Tryd.prog 38 #[.pointer (some ⟨ob, 0, none⟩), .slice (some ⟨W1.heap.size, 0, none⟩) 1 1] (W1.alloc (.cells #[.string s] 9)) fun e w' => e = .returned (.tuple #[]) ∧ Lib.IsBuilderF 74 5 B ob (Lib.byteCells (out ++ s.data.toList)) w' ∧ Below B (W1.alloc (.cells #[.string s] 9)) w' ∧ Lib.OthersKept 5 (some ob) (W1.alloc (.cells #[.string s] 9)) w' := by
            have h := say_any B ob out (.slice (some ⟨W1.heap.size, 0, none⟩) 1 1) [s] (W1.alloc (.cells #[.string s] 9)) (isBuilder_below HF.out.2.1 ((Below.refl _ _).alloc (Nat.le_refl _) _)) (by simp; omega) ⟨_, 1, rfl, _, ha_new W1 _, fun j hj => by
              simp only [List.length_cons, List.length_nil] at hj
              match j, hj with
              | 0, _ => rfl⟩ (by simp) (by
              have := HR.out
              simp only [joinS, List.flatMap_cons, List.flatMap_nil, List.append_nil]
              rw [List.length_append] at hle
              omega)
            simpa [joinS] using h
          have HS := hid (And.intro hS ht)
          clear hS ht hle
          go_wp2_with (go_at_call 38; refine HS.out.1.mono ?_; rintro e w2 ⟨rfl, hI2, hb2, ho2⟩)
          go_meet
          case rel =>
            have hba : Below W1.heap.size W1 (W1.alloc (.cells #[.string s] 9)) := (Below.refl _ _).alloc (Nat.le_refl _) _
            have hIa := isBuilder_below HF.out.2.1 hba
            exact ⟨[], ms', out ++ s.data.toList, said_walk hIa ho2 hb2 (HF.out.1.below hba), hI2, said_row hIa ho2 (HF.out.2.2.1.alloc _), ⟨rfl, .inl ⟨rfl, rfl⟩⟩, by simp [Value.ownBlock], HF.out.2.2.2.1, HS.out.2⟩
        | val y =>
          have hp := HF.out.2.2.2.2.2.2
          simp only [pcCells, List.cons.injEq, Value.string.injEq, Value.int.injEq, true_and, and_true] at hp
          obtain ⟨rfl, rfl, rfl, rfl⟩ := hp
          have cx1 : W1.cell? ⟨wr.heap.size, 1, none⟩ = some (.int .i64 y.1) := bc HF.out.2.2.2.2.2.1 1
          have cx2 : W1.cell? ⟨wr.heap.size, 2, none⟩ = some (.int .i64 y.2) := bc HF.out.2.2.2.2.2.1 2
          have ht := HF.out.2.2.2.2.1
          simp only [tellM] at ht
          cases hf : formM goTells ms' y with
          | none => simp [hf] at ht
          | some z =>
            obtain ⟨l, ms2⟩ := z
            simp only [hf] at ht
            have hC := form_any w0 W1 B p m hv ov c ms' bs y l ms2 (hT0.below HF.out.1.elder.1 HF.out.1.elder.2) HF.out.1 HF.out.2.2.2.1 hf
            have HC := hid (And.intro hC (And.intro ht hf))
            clear hC ht hf
            go_wp2_with (go_at_call 39; refine HC.out.1.mono ?_; rintro e w2 ⟨⟨v2, rfl, hown2⟩, hW2, hF2⟩)
            go_meet
            case rel =>
              refine ⟨l, ms2, out, hW2, hF2.builder HF.out.2.1, hF2.row HF.out.2.2.1, ?_, ?_, form_keeps HF.out.2.2.2.1 HC.out.2.2, HC.out.2.1⟩
              · exact row87_lower hown2 hB2
              · exact row87_new hown2 HF.out.2.2.1
        | tail y =>
          have hp := HF.out.2.2.2.2.2.2
          simp only [pcCells, List.cons.injEq, Value.string.injEq, Value.int.injEq, true_and, and_true] at hp
          obtain ⟨rfl, rfl, rfl, rfl⟩ := hp
          have cx1 : W1.cell? ⟨wr.heap.size, 1, none⟩ = some (.int .i64 y.1) := bc HF.out.2.2.2.2.2.1 1
          have cx2 : W1.cell? ⟨wr.heap.size, 2, none⟩ = some (.int .i64 y.2) := bc HF.out.2.2.2.2.2.1 2
          have ht := HF.out.2.2.2.2.1
          simp only [tellM] at ht
          cases hf : tailM ms' y with
          | none => simp [hf] at ht
          | some l =>
            simp only [hf] at ht
            have hC := tail_any w0 W1 B p m hv ov c ms' bs y l HF.out.1 hf
            have HC := hid (And.intro hC (And.intro ht hf))
            clear hC ht hf
            go_wp2_with (go_at_call 40; refine HC.out.1.mono ?_; rintro e w2 ⟨⟨v2, rfl, hown2⟩, hb2⟩)
            go_meet
            case rel =>
              refine ⟨l, ms', out, HF.out.1.below hb2, isBuilder_below HF.out.2.1 hb2, ownsRow_same HF.out.2.2.1 fun g' cs _ hg' => blk_below hb2 hg' (blk_lt hg'), ?_, ?_, HF.out.2.2.2.1, HC.out.2.1⟩
              · exact row87_lower hown2 hB2
              · exact row87_new hown2 HF.out.2.2.1
      case rest =>
        obtain ⟨l, ms2, out2, hW2, hI2, hr2, hm2, hap, hE2, ht2⟩ := hcut
        have hll := (tellM_facts _ _ _ _ _ ht2).1
        rw [List.length_append] at hll
        obtain ⟨mA, mc, rfl⟩ := ownsRow_slice hm2
        clear HF
        have HF := hid (And.intro hW2 (And.intro hI2 (And.intro hr2 (And.intro hm2 (And.intro hap (And.intro hE2 ht2))))))
        clear hW2 hI2 hr2 hm2 hap hE2 ht2
        have hwrap : IntKind.i64.wrap ((l.length : Int) - 1) = (l.length : Int) - 1 := IntWalk.i64_in _ (by omega)
        have hP : PushPc w0 wc B p m ob hv ov c ms2 bs out2 (.slice mA l.length mc) l rest l.length (.slice (some ⟨g, 0, none⟩) rest.length cap) (.int .i64 ((l.length : Int) - 1)) :=
          ⟨rfl, Nat.le_refl _, HF.out.1, HF.out.2.1, by simpa using HF.out.2.2.1, HF.out.2.2.2.1, HF.out.2.2.2.2.1⟩
        have HP := hid hP
        have HE := hid HF.out.2.2.2.2.2
        clear hP HF
        go_wp2_with (fail)
        go_loopg [6, 9] l.length (fun j sv iv w' => PushPc w0 w' B p m ob hv ov c ms2 bs out2 (.slice mA l.length mc) l rest j sv iv)
        case atStart => exact HP.out
        case round =>
          have hwi : u9 = .int .i64 ((gk : Int) - 1) := hrel.i
          subst hwi
          have hle := hrel.le
          have HR2 := hid hrel
          clear hrel HP
          cases gk with
          | zero =>
            rw [show (((0 : Nat) : Int) - 1) = -1 from rfl] at *
            go_wp2_with (fail)
            go_roundg k
            case measure => omega
            case rel =>
              have hS := HR2.out.stack
              rw [List.drop_zero] at hS
              exact ⟨l ++ rest, ms2, out2, HR2.out.walk, HR2.out.built, hS, HE.out.1, HE.out.2, by omega⟩
          | succ j =>
            have hjl : j < l.length := by omega
            rw [show (((j + 1 : Nat) : Int) - 1) = (j : Int) by omega] at *
            obtain ⟨mb, rfl, hmc⟩ := pcs_at HR2.out.more (by omega)
            obtain ⟨x2, hx2⟩ : ∃ x2, x2 = l[j] := ⟨_, rfl⟩
            obtain ⟨s2, k2, n2, i2, hpc2⟩ : ∃ (s' : ByteArray) (k' n' i' : Int), pcCells x2 = [.string s', .int .i64 k', .int .i64 n', .int .i64 i'] := by
              cases x2
              · exact ⟨_, _, _, _, rfl⟩
              · exact ⟨_, _, _, _, rfl⟩
              · exact ⟨_, _, _, _, rfl⟩
            have hm2 := hmc j hjl
            rw [← hx2, hpc2] at hm2
            have c0 : wr.cell? ⟨mb, j * 4, none⟩ = some (.string s2) := hm2 0 _ rfl
            have c1 := hm2 1 (.int .i64 k2) rfl
            have c2 := hm2 2 (.int .i64 n2) rfl
            have c3 := hm2 3 (.int .i64 i2) rfl
            have hsub : IntKind.i64.wrap ((j : Int) - 1) = (j : Int) - 1 := IntWalk.i64_in _ (by omega)
            have hxj : l[j]? = some x2 := by rw [List.getElem?_eq_getElem hjl, hx2]
            have hN : #[Value.string s2, .int .i64 k2, .int .i64 n2, .int .i64 i2] = (pcsCells [x2]).toArray := by simp [pcsCells, hpc2]
            have hnl : (l.drop (j + 1) ++ rest).reverse.length + [x2].length ≤ 1000000000 := by
              simp only [List.length_reverse, List.length_append, List.length_drop, List.length_cons, List.length_nil]
              omega
            have hbase : B ≤ wr.heap.size := Nat.le_of_lt (Nat.lt_of_le_of_lt (HR2.out.walk.lt (.inl rfl)).1 (HR2.out.walk.lt (.inl rfl)).2)
            have HN := hid (And.intro hN hxj)
            have hst := HR2.out.stack
            have hst2 : wr.ownsRow B 87 4 u6 (l.drop (j + 1) ++ rest).reverse.length (pcsCells (l.drop (j + 1) ++ rest).reverse) := by rw [List.length_reverse]; exact hst
            have HST := hid hst2
            clear hmc hm2 hx2 hpc2 hN hxj hst hst2
            go_wp2_with (at_builtin; refine wpList_pcs wr rfl (.tmp 55) (.tmp 60) rfl B u6 (l.drop (j + 1) ++ rest).reverse [x2] rfl (by rw [← HN.out.1]) HST.out rfl rfl hbase hnl ?_; intro v1 w1 hown1 hg1 hat1)
            go_roundg j
            case measure => omega
            case rel => exact HR2.out.next HN.out.2 hown1 hg1 hat1 rfl
end Go.Proofs.YtpejmgellidhbaaDoor
