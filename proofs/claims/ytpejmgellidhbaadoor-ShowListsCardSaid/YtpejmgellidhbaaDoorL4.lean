/- The statement ShowLists: its walk. -/
import Derived.Test.YtpejmgellidhbaaDoorL3
import Derived.Test.YtpejmgellidhbaaDoorG5
import Derived.Test.YtpejmgellidhbaaDoorG2
namespace Go.Proofs.YtpejmgellidhbaaDoor
open Go.RowKit

theorem node_info : (Tryd.prog.info? 34).map (fun i => (i.zero, i.size, i.bytes)) = some (some (.agg #[.int .i64 0, .int .i64 0, .slice none 0 0, .slice none 0 0, .slice none 0 0]), 5, 88) := by kernel_rfl
set_option maxHeartbeats 400000 in
theorem null_any (w : World) : Calls Tryd.prog 18 #[] w fun e w' => e = .returned (.agg #[.int .i64 3, .int .i64 0]) ∧ Below w.heap.size w w' := by
  go_enter Tryd.func18, Tryd.ntmps18
  go_wp2
  exact bodyPost_ret (v := .agg #[.int .i64 3, .int .i64 0]) (by simp [results, Tryd.results18, go_sem]) rfl ⟨rfl, (Below.refl _ _).alloc (Nat.le_refl _) _⟩
set_option maxRecDepth 100000 in
set_option maxHeartbeats 1000000 in
theorem lists_none (n : Int) (w : World) (hT : Tabs w) (h : n < 1 ∨ 600 < n) :
    Calls Tryd.prog 5 #[.int .i64 n] w fun e w' => e = .returned (.bool true) ∧ Below w.heap.size w w' := by
  have HT := Lib.hid hT
  clear hT
  rcases h with h | h
  all_goals
    go_enter Tryd.func5, Tryd.ntmps5
    go_wp2_with (go_at_call 8; refine (alive_any _ HT.out).mono ?_; rintro e w1 ⟨rfl, hb1⟩)
    go_ret
    exact ⟨rfl, hb1⟩
/-- What the loop of ShowLists has come to: k nodes are made. -/
structure ListsAt (w wr : World) (g1 g2 g3 n k : Nat) (sv1 sv2 sv3 : Value) (ps1 ps2 ps3 : List (Nd × Nat)) : Prop where
  below : Below w.heap.size w wr
  h1 : GraphIn w.heap.size wr g1 sv1 ps1
  h2 : GraphIn w.heap.size wr g2 sv2 ps2
  h3 : GraphIn w.heap.size wr g3 sv3 ps3
  e1 : ps1.map (·.1) = linkG 1 (3, 0) n k
  e2 : ps2.map (·.1) = linkG 1 (2, 1) n k
  e3 : ps3.map (·.1) = linkG 2 (3, 0) n k
  ne12 : ∀ b, sv1.ownBlock = some b → sv2.ownBlock ≠ some b
  ne13 : ∀ b, sv1.ownBlock = some b → sv3.ownBlock ≠ some b
  ne23 : ∀ b, sv2.ownBlock = some b → sv3.ownBlock ≠ some b
  d12 : g1 ≠ g2
  d13 : g1 ≠ g3
  d23 : g2 ≠ g3
theorem ListsAt.later {w wr w' : World} {g1 g2 g3 n k : Nat} {sv1 sv2 sv3 : Value} {ps1 ps2 ps3 : List (Nd × Nat)} (h : ListsAt w wr g1 g2 g3 n k sv1 sv2 sv3 ps1 ps2 ps3) (hb : Below wr.heap.size wr w') : ListsAt w w' g1 g2 g3 n k sv1 sv2 sv3 ps1 ps2 ps3 :=
  ⟨h.below.trans (hb.mono h.below.size), h.h1.below hb, h.h2.below hb, h.h3.below hb, h.e1, h.e2, h.e3, h.ne12, h.ne13, h.ne23, h.d12, h.d13, h.d23⟩
theorem two_stores {w : World} {b b' : Nat} {x0 x1 : Value} {o : Obj} (h : w.heap[b]? = some (.cells #[x0, x1] 27 (0, 0))) (h' : w.heap[b']? = some o) (hne : b' ≠ b) (c d : Value) :
    ((w.setCell ⟨b, 0, none⟩ c).setCell ⟨b, 1, none⟩ d).heap[b]? = some (.cells #[c, d] 27 (0, 0)) ∧ ((w.setCell ⟨b, 0, none⟩ c).setCell ⟨b, 1, none⟩ d).heap[b']? = some o :=
  ⟨(hs_same (hs_same h)).trans rfl, hs_ne (a := ⟨b, 1, none⟩) hne (hs_ne (a := ⟨b, 0, none⟩) hne h')⟩
theorem list_node (last : Int × Int) (n k f : Nat) : ndCells (linkNd 1 last n (k + 1)) f = [.int .i64 ((k : Int) + 1), .int .i64 1, .slice none 0 0, .slice (some ⟨f, 0, none⟩) 2 2, .slice none 0 0] := rfl
theorem tmod10 (k : Nat) : ((k : Int) + 1).tmod 10 = (((k + 1) % 10 : Nat) : Int) := by
  rw [Int.tmod_eq_emod_of_nonneg (by omega)]
  omega
theorem list_fields (last : Int × Int) (n k : Nat) {x1 x2 : Int} (h : linkV last n (k + 1) = (x1, x2)) : (valCells (linkNd 1 last n (k + 1)).fields).toArray = #[.int .i64 1, .int .i64 (((k : Int) + 1).tmod 10), .int .i64 x1, .int .i64 x2] := by
  rw [tmod10]
  simp [linkNd, valCells, h]
/-- One node more in a graph of pairs. -/
theorem list_add {B : Nat} {wc w2 w3 : World} {g : Nat} {sv v1 : Value} {ps : List (Nd × Nat)} {last : Int × Int} {n k : Nat} {x1 x2 : Int} (h : GraphIn B wc g sv ps) (hl : ps.length = k) (hx : linkV last n (k + 1) = (x1, x2)) (hB : B ≤ wc.heap.size) (hb2 : Below wc.heap.size wc w2)
    (hown : w3.ownsRow B 34 5 v1 (k + 1) (rowC ps ++ [.int .i64 ((k : Int) + 1), .int .i64 1, .slice none 0 0, .slice (some ⟨w2.heap.size, 0, none⟩) 2 2, .slice none 0 0]))
    (hg : ((w2.alloc (.cells #[.int .i64 1, .int .i64 (((k : Int) + 1).tmod 10), .int .i64 x1, .int .i64 x2] 27)).alloc (.cells #[.int .i64 ((k : Int) + 1), .int .i64 1, .slice none 0 0, .slice (some ⟨w2.heap.size, 0, none⟩) 2 2, .slice none 0 0] 34)).grownBy w3 sv.ownBlock)
    (hat : v1.ownBlock = sv.ownBlock ∨ v1.ownBlock = some ((w2.alloc (.cells #[.int .i64 1, .int .i64 (((k : Int) + 1).tmod 10), .int .i64 x1, .int .i64 x2] 27)).alloc (.cells #[.int .i64 ((k : Int) + 1), .int .i64 1, .slice none 0 0, .slice (some ⟨w2.heap.size, 0, none⟩) 2 2, .slice none 0 0] 34)).heap.size) :
    ∃ v f, GraphIn B (w3.setCell ⟨g, 0, none⟩ v1) g v (ps ++ [(linkNd 1 last n (k + 1), f)]) ∧ Turned wc (w3.setCell ⟨g, 0, none⟩ v1) g sv.ownBlock ∧ Below B wc (w3.setCell ⟨g, 0, none⟩ v1) ∧ (v.ownBlock = sv.ownBlock ∨ ∃ b, v.ownBlock = some b ∧ wc.heap.size ≤ b) := by
  have hs := hb2.size
  refine ⟨v1, w2.heap.size, ?_⟩
  rw [← list_node last n k w2.heap.size] at hown
  obtain ⟨a1, a2, a3⟩ := h.add hB ((hb2.alloc hs _).alloc (by simp; omega) _) (nd := linkNd 1 last n (k + 1)) (f := w2.heap.size) (by rw [list_fields last n k hx]; exact ha_old (ha_new w2 _)) (by omega) (n := k + 1) (by omega) hown hg
  refine ⟨a1, a2, a3, ?_⟩
  rcases hat with e | e
  · exact .inl e
  · exact .inr ⟨_, e, by simp; omega⟩
theorem box_node (last : Int × Int) (n k f : Nat) : ndCells (linkNd 2 last n (k + 1)) f = [.int .i64 ((k : Int) + 1), .int .i64 2, .slice none 0 0, .slice (some ⟨f, 0, none⟩) 1 1, .slice none 0 0] := rfl
theorem box_fields (last : Int × Int) (n k : Nat) {x1 x2 : Int} (h : linkV last n (k + 1) = (x1, x2)) : (valCells (linkNd 2 last n (k + 1)).fields).toArray = #[.int .i64 x1, .int .i64 x2] := by
  simp [linkNd, valCells, h]
/-- One node more in a chain of boxes. -/
theorem box_add {B : Nat} {wc w3 : World} {g : Nat} {sv v1 : Value} {ps : List (Nd × Nat)} {last : Int × Int} {n k : Nat} {x1 x2 : Int} (h : GraphIn B wc g sv ps) (hl : ps.length = k) (hx : linkV last n (k + 1) = (x1, x2)) (hB : B ≤ wc.heap.size)
    (hown : w3.ownsRow B 34 5 v1 (k + 1) (rowC ps ++ [.int .i64 ((k : Int) + 1), .int .i64 2, .slice none 0 0, .slice (some ⟨wc.heap.size, 0, none⟩) 1 1, .slice none 0 0]))
    (hg : ((wc.alloc (.cells #[.int .i64 x1, .int .i64 x2] 27)).alloc (.cells #[.int .i64 ((k : Int) + 1), .int .i64 2, .slice none 0 0, .slice (some ⟨wc.heap.size, 0, none⟩) 1 1, .slice none 0 0] 34)).grownBy w3 sv.ownBlock)
    (hat : v1.ownBlock = sv.ownBlock ∨ v1.ownBlock = some ((wc.alloc (.cells #[.int .i64 x1, .int .i64 x2] 27)).alloc (.cells #[.int .i64 ((k : Int) + 1), .int .i64 2, .slice none 0 0, .slice (some ⟨wc.heap.size, 0, none⟩) 1 1, .slice none 0 0] 34)).heap.size) :
    ∃ f, GraphIn B (w3.setCell ⟨g, 0, none⟩ v1) g v1 (ps ++ [(linkNd 2 last n (k + 1), f)]) ∧ Turned wc (w3.setCell ⟨g, 0, none⟩ v1) g sv.ownBlock ∧ Below B wc (w3.setCell ⟨g, 0, none⟩ v1) ∧ (v1.ownBlock = sv.ownBlock ∨ ∃ b, v1.ownBlock = some b ∧ wc.heap.size ≤ b) := by
  refine ⟨wc.heap.size, ?_⟩
  rw [← box_node last n k wc.heap.size] at hown
  obtain ⟨a1, a2, a3⟩ := h.add hB (((Below.refl _ wc).alloc (Nat.le_refl _) _).alloc (by simp) _) (nd := linkNd 2 last n (k + 1)) (f := wc.heap.size) (by rw [box_fields last n k hx]; exact ha_old (ha_new wc _)) (by omega) (n := k + 1) (by omega) hown hg
  refine ⟨a1, a2, a3, ?_⟩
  rcases hat with e | e
  · exact .inl e
  · exact .inr ⟨_, e, by simp; omega⟩
theorem bs_append (a b : List UInt8) : (⟨a.toArray⟩ : ByteArray) ++ (⟨b.toArray⟩ : ByteArray) = ⟨(a ++ b).toArray⟩ := by
  apply Go.WideShapes.bytes_inj
  simp
theorem one_run (y : Nat) (hy : y < 256) (W : World) : (convert 48 9 (.slice (some ⟨W.heap.size, 0, none⟩) 1 1)).run Tryd.prog (W.alloc (.cells #[.int .u8 (y : Int)] 5)) = .ok (.string ⟨#[UInt8.ofNat y]⟩) (W.alloc (.cells #[.int .u8 (y : Int)] 5)) := by
  refine run_convert_bytes_back _ 48 9 5 _ 1 [UInt8.ofNat y] Tryd.underlying48 Tryd.underlying5 Tryd.underlying9 fun j hj => ?_
  simp only [List.length_cons, List.length_nil] at hj
  match j, hj with
  | 0, _ => simp [Addr.add, UInt8.toNat_ofNat', Nat.mod_eq_of_lt hy]
theorem digsTo_len (k : Nat) : (digsTo k).length ≤ 2 * k := by
  induction k with
  | zero => simp [digsTo]
  | succ k ih =>
    by_cases h : 1 ≤ k
    · rw [digsTo_succ k h]
      simp
      omega
    · obtain rfl : k = 0 := by omega
      simp [digsTo]
theorem boxTo_len (k : Nat) : (boxTo k).length = 2 * k := by
  induction k with
  | zero => rfl
  | succ k ih =>
    rw [boxTo_succ, List.length_append, ih]
    simp
    omega
def lstT (n : Nat) : List UInt8 := if 500 < 2 * n + 1 then largeL else [40] ++ digsTo n ++ [41]
def rngT (n : Nat) : List UInt8 := if 500 < 2 * n + 1 then largeL else [35, 48, 61, 40] ++ digsTo n ++ [32, 46, 32, 35, 48, 35, 41]
def bxsT (n : Nat) : List UInt8 := if 500 < n + 1 then largeL else boxTo n ++ [40, 41]
theorem link_small (kd : Int) (last : Int × Int) (n k : Nat) : SmallNodes (linkG kd last n k) := by
  intro nd hnd
  obtain ⟨j, _, rfl⟩ := List.mem_map.1 hnd
  refine ⟨?_, by simp [linkNd], by simp [linkNd, rawM, IntOk]⟩
  simp only [linkNd]
  split <;> simp
theorem graph_said (V W : World) (nv : Value) (nodes : List Nd) (R : List UInt8) (hT : Tabs V) (hn : RdNodes V nv nodes) (hs : SmallNodes nodes) (h : showM nodes (2, 1) = (R, 0)) (hW : Below V.heap.size V W) :
    Calls Tryd.prog 12 #[.agg #[nv, .slice none 0 0], .agg #[.int .i64 2, .int .i64 1]] W fun e w' => e = .returned (.tuple #[.string ⟨R.toArray⟩, .agg #[.int .i64 0, .int .i64 0]]) ∧ Below W.heap.size W w' ∧ Below V.heap.size V w' := by
  refine (graph_any W nv (.slice none 0 0) nodes (2, 1) (hT.below hW (Nat.le_refl _)) (hn.below hW (Nat.le_refl _)) ⟨none, 0, 0, rfl⟩ hs).mono ?_
  rintro e w' ⟨rfl, hb⟩
  rw [h]
  exact ⟨rfl, hb, hW.trans (hb.mono hW.size)⟩
theorem ref_said (V W : World) (hW : Below V.heap.size V W) : Calls Tryd.prog 17 #[.int .i64 1] W fun e w' => e = .returned (.agg #[.int .i64 2, .int .i64 1]) ∧ Below W.heap.size W w' ∧ Below V.heap.size V w' := by
  refine (ref_any 1 W).mono ?_
  rintro e w' ⟨rfl, hb⟩
  exact ⟨rfl, hb, hW.trans (hb.mono hW.size)⟩
theorem graph_cells {V W : World} {B g : Nat} {sv : Value} {ps : List (Nd × Nat)} (h : GraphIn B V g sv ps) (hW : Below V.heap.size V W) : W.cell? ⟨g, 0, none⟩ = some sv ∧ W.cell? ⟨g, 1, none⟩ = some (.slice none 0 0) := by
  have h2 := (h.below hW).own
  exact ⟨(bc h2 0).trans rfl, (bc h2 1).trans rfl⟩
theorem link_raw {kd : Int} {last : Int × Int} {n k : Nat} {ps : List (Nd × Nat)} (h : ps.map (·.1) = linkG kd last n k) : ∀ p ∈ ps, p.1.raw = [] ∧ p.1.fields.length ≤ 1000 := by
  intro p hp
  have h2 : p.1 ∈ linkG kd last n k := by rw [← h]; exact List.mem_map_of_mem hp
  obtain ⟨j, _, e⟩ := List.mem_map.1 h2
  rw [← e]
  refine ⟨rfl, ?_⟩
  simp only [linkNd]
  split <;> simp
theorem row_len {w : World} {base m n : Nat} {e size : Nat} {v : Value} {xs : List Value} (h : n = m) (hr : w.ownsRow base e size v n xs) : w.ownsRow base e size v m xs := h ▸ hr
theorem ha_at {w : World} {o : Obj} {m : Nat} (h : w.heap.size = m) : (w.alloc o).heap[m]? = some o := by rw [← h]; exact ha_new w o
theorem news_at {W : World} {g : Nat} {cs : Array Value} {T : TypeId} {fr : Nat × Nat} (h : W.heap[g]? = some (.cells cs T fr)) : ∀ j u, cs.toList[j]? = some u → W.cell? ((⟨g, 0, none⟩ : Addr).add j) = some u := by
  intro j u hj
  rw [Go.WideShapes.add_plain, Nat.zero_add, bc h]
  simpa using hj
set_option maxRecDepth 100000 in
set_option maxHeartbeats 4000000 in
theorem lists_any (n : Nat) (w : World) (hT : Tabs w) (h1 : 1 ≤ n) (h6 : n ≤ 600) :
    Calls Tryd.prog 5 #[.int .i64 n] w fun e w' => e = .returned (.bool true) ∧ Below w.heap.size w w' := by
  have HT := Lib.hid hT
  clear hT
  go_enter Tryd.func5, Tryd.ntmps5
  go_wp2_with (go_at_call 8; refine (alive_any _ HT.out).mono ?_; rintro e w1 ⟨rfl, hb1⟩)
  have hst : ListsAt w (((w1.alloc (.cells #[.slice none 0 0, .slice none 0 0] 25)).alloc (.cells #[.slice none 0 0, .slice none 0 0] 25)).alloc (.cells #[.slice none 0 0, .slice none 0 0] 25)) w1.heap.size (w1.heap.size + 1) (w1.heap.size + 1 + 1) n 0 (.slice none 0 0) (.slice none 0 0) (.slice none 0 0) [] [] [] := by
    have hs := hb1.size
    have a1 := ha_old (x := .cells #[.slice none 0 0, .slice none 0 0] 25) (ha_old (x := .cells #[.slice none 0 0, .slice none 0 0] 25) (ha_new w1 (.cells #[.slice none 0 0, .slice none 0 0] 25)))
    have a2 := ha_old (x := .cells #[.slice none 0 0, .slice none 0 0] 25) (ha_new (w1.alloc (.cells #[.slice none 0 0, .slice none 0 0] 25)) (.cells #[.slice none 0 0, .slice none 0 0] 25))
    have a3 := ha_new ((w1.alloc (.cells #[.slice none 0 0, .slice none 0 0] 25)).alloc (.cells #[.slice none 0 0, .slice none 0 0] 25)) (.cells #[.slice none 0 0, .slice none 0 0] 25)
    simp only [World.size_alloc] at a2 a3
    exact ⟨((hb1.alloc hs _).alloc (by simp; omega) _).alloc (by simp; omega) _, ⟨a1, hs, ⟨rfl, .inl ⟨rfl, rfl⟩⟩, fun p hp => by simp at hp⟩, ⟨a2, by omega, ⟨rfl, .inl ⟨rfl, rfl⟩⟩, fun p hp => by simp at hp⟩, ⟨a3, by omega, ⟨rfl, .inl ⟨rfl, rfl⟩⟩, fun p hp => by simp at hp⟩,
      rfl, rfl, rfl, (fun b hb => by cases hb), (fun b hb => by cases hb), (fun b hb => by cases hb), by omega, by omega, by omega⟩
  generalize w1.heap.size = g1 at *
  generalize g1 + 1 + 1 = g3 at *
  generalize g1 + 1 = g2 at *
  clear hb1
  generalize World.alloc (World.alloc (World.alloc w1 _) _) _ = W0 at *
  go_loopg [7, 8, 9, 10] n (fun j s7 s8 s9 iv wr => ∃ k sv1 sv2 sv3 ps1 ps2 ps3, ListsAt w wr g1 g2 g3 n k sv1 sv2 sv3 ps1 ps2 ps3 ∧ k + j = n ∧ s7 = .string ⟨([40] ++ digsTo k).toArray⟩ ∧ s8 = .string ⟨([35, 48, 61, 40] ++ digsTo k).toArray⟩ ∧ s9 = .string ⟨(boxTo k).toArray⟩ ∧ iv = .int .i64 ((k : Int) + 1))
  case atStart => exact ⟨0, _, _, _, _, _, _, hst, by omega, rfl, rfl, rfl, rfl⟩
  case round =>
    obtain ⟨k, sv1, sv2, sv3, ps1, ps2, ps3, hA, hk, rfl, rfl, rfl, rfl⟩ := hrel
    clear hst
    have HA := Lib.hid hA
    clear hA
    cases gk with
    | zero =>
      obtain rfl : k = n := by omega
      have hnl : ¬ ((k : Int) + 1 ≤ (k : Int)) := by omega
      have hdl := digsTo_len k
      obtain ⟨sa, hsa⟩ : ∃ sa : ByteArray, sa = ⟨(40 :: digsTo k).toArray⟩ := ⟨_, rfl⟩
      obtain ⟨sb, hsb⟩ : ∃ sb : ByteArray, sb = ⟨(35 :: 48 :: 61 :: 40 :: digsTo k).toArray⟩ := ⟨_, rfl⟩
      obtain ⟨sc, hsc⟩ : ∃ sc : ByteArray, sc = ⟨(boxTo k).toArray⟩ := ⟨_, rfl⟩
      have hsaz : sa.size ≤ 2000 := by rw [hsa, size_bs, List.length_cons]; omega
      have hsbz : sb.size ≤ 2000 := by rw [hsb, size_bs]; simp only [List.length_cons]; omega
      have hscz : sc.size ≤ 2000 := by rw [hsc, size_bs, boxTo_len]; omega
      rw [show [40] ++ digsTo k = 40 :: digsTo k from rfl, show [35, 48, 61, 40] ++ digsTo k = 35 :: 48 :: 61 :: 40 :: digsTo k from rfl, ← hsa, ← hsb, ← hsc]
      have HS := Lib.hid (And.intro hsa (And.intro hsb hsc))
      clear hsa hsb hsc hdl
      go_upto_if 104 with (fail)
      go_cut [7, 8] (fun s7 s8 wx => wx = wr ∧ s7 = .string ⟨(lstT k).toArray⟩ ∧ s8 = .string ⟨(rngT k).toArray⟩)
      case first =>
        by_cases hbig : 500 < 2 * k + 1
        · have hb : (500 : Int) < 2 * (k : Int) + 1 := by omega
          have HB := Lib.hid hbig
          clear hbig
          go_wp2
          go_meet
          case rel => exact ⟨rfl, by unfold lstT; rw [if_pos HB.out]; rfl, by unfold rngT; rw [if_pos HB.out]; rfl⟩
        · have hb : ¬ (500 : Int) < 2 * (k : Int) + 1 := by omega
          have HB := Lib.hid hbig
          clear hbig
          go_wp2
          go_meet
          case rel =>
            obtain ⟨hsa, hsb, hsc⟩ := HS.out
            refine ⟨rfl, ?_, ?_⟩
            · unfold lstT
              rw [if_neg HB.out, hsa, show (⟨#[41]⟩ : ByteArray) = ⟨[41].toArray⟩ from rfl, bs_append]
              rfl
            · unfold rngT
              rw [if_neg HB.out, hsb, show (⟨#[32, 46, 32, 35, 48, 35, 41]⟩ : ByteArray) = ⟨[32, 46, 32, 35, 48, 35, 41].toArray⟩ from rfl, bs_append]
              rfl
      case rest =>
        obtain ⟨e0, rfl, rfl⟩ := hcut
        subst e0
        generalize wc = W0 at *
        go_upto_if 108 with (fail)
        go_cut [9] (fun s9 wx => wx = W0 ∧ s9 = .string ⟨(bxsT k).toArray⟩)
        case first =>
          by_cases hbig : 500 < k + 1
          · have hb : (500 : Int) < (k : Int) + 1 := by omega
            have HB := Lib.hid hbig
            clear hbig
            go_wp2
            go_meet
            case rel => exact ⟨rfl, by unfold bxsT; rw [if_pos HB.out]; rfl⟩
          · have hb : ¬ (500 : Int) < (k : Int) + 1 := by omega
            have HB := Lib.hid hbig
            clear hbig
            go_wp2
            go_meet
            case rel =>
              refine ⟨rfl, ?_⟩
              unfold bxsT
              rw [if_neg HB.out, HS.out.2.2, show (⟨#[40, 41]⟩ : ByteArray) = ⟨[40, 41].toArray⟩ from rfl, bs_append]
        case rest =>
          obtain ⟨e0, rfl⟩ := hcut
          subst e0
          clear hnl hsaz hsbz hscz
          have hA := HA.out
          have hTV := HT.out.below hA.below (Nat.le_refl _)
          have hlen1 : ps1.length = k := by have := congrArg List.length hA.e1; rw [List.length_map, linkG_length] at this; exact this
          have hrd := hA.h1.rd (link_raw hA.e1) (by omega)
          rw [hA.e1] at hrd
          obtain ⟨sA1, sc1, hsv1⟩ := ownsRow_slice hA.h1.row
          rw [hsv1] at hrd
          have hS : ∀ W, Below wc.heap.size wc W → W.cell? ⟨g1, 0, none⟩ = some (.slice sA1 ps1.length sc1) ∧ W.cell? ⟨g1, 1, none⟩ = some (.slice none 0 0) := fun W hW => by
            have := graph_cells hA.h1 hW
            rwa [hsv1] at this
          have HC17 := Lib.hid (fun W hW => ref_said wc W hW)
          have HC12 := Lib.hid (fun W hW => graph_said wc W _ _ (lstT k) hTV hrd (link_small 1 (3, 0) k k) (show_list k h6 h1) hW)
          have HSS := Lib.hid hS
          obtain ⟨q0, q1⟩ := hS wc (Below.refl _ _)
          have l6 := blk_lt hA.h1.own
          have m1 : ¬ g1 = wc.heap.size := by omega
          have m2 : ¬ wc.heap.size = g1 := by omega
          clear hS hrd hTV hA hsv1 hlen1
          generalize hwa : wc = V1 at *
          clear hwa
          go_upto_region 33 with (fail)
          go_cut [14, 15] (fun s14 s15 wx => s14 = .string ⟨(lstT k).toArray⟩ ∧ ∃ fb, s15 = .pointer (some ⟨fb, 0, none⟩) ∧ wx.heap[fb]? = some (.cells #[.int .i64 0, .int .i64 0] 38 (0, 0)) ∧ Below V1.heap.size V1 wx)
          case first =>
            go_region_held3 (fun w' => w'.cell? ⟨g1, 0, none⟩ = some (.slice sA1 ps1.length sc1) ∧ w'.cell? ⟨g1, 1, none⟩ = some (.slice none 0 0)) (go_keep)
              (first | (go_at_call 17; (with_reducible refine (HC17.out _ ?_).mono ?_); (first | (exact (Below.refl _ _).drew) | go_grown); rintro e w7 ⟨rfl, hb7, hB7⟩; obtain ⟨hc7, hf7⟩ := bcell hb7; obtain ⟨p0, p1⟩ := HSS.out _ hB7; have l7 := Nat.lt_of_lt_of_le l6 hB7.size; have m3 := Nat.ne_of_lt l7; have m4 := Nat.ne_of_gt l7; have hs7 := hb7.size; (try rw [size_drew] at hs7); (try rw [World.size_alloc] at hs7); (try have e7 : V1.heap.size < w7.heap.size := hs7)) | (go_at_call 12; (with_reducible refine (HC12.out _ ?_).mono ?_); (first | assumption | exact hB7.alloc hB7.size _ | go_grown); rintro e w8 ⟨rfl, hb8, hB8⟩; obtain ⟨hc8, hf8⟩ := bcell hb8; obtain ⟨p2, p3⟩ := HSS.out _ hB8; have l8 := Nat.lt_of_lt_of_le l6 hB8.size; have m5 := Nat.ne_of_lt l8; have m6 := Nat.ne_of_gt l8; have hs8 := hb8.size; (try rw [size_drew] at hs8); (try rw [World.size_alloc] at hs8); (try have e8 : w7.heap.size < w8.heap.size := hs8)))
            all_goals
              go_wp2_with fail
              go_meet
              case rel =>
                refine ⟨rfl, ?_⟩
                first
                  | with_reducible exact fault_late hB8
                  | with_reducible exact fault_early hB7 hb8
                  | with_reducible exact fault_first hb7 hb8
          case rest =>
            obtain ⟨rfl, fb1, rfl, hfb1, hbc1⟩ := hcut
            have hA2 := HA.out.later hbc1
            have HF1 := Lib.hid hfb1
            clear hfb1 hbc1 HA HC17 HC12 HSS q0 q1 l6 m1 m2
            have HA := Lib.hid hA2
            clear hA2
            have hA := HA.out
            have hTV := HT.out.below hA.below (Nat.le_refl _)
            have hlen2 : ps2.length = k := by have := congrArg List.length hA.e2; rw [List.length_map, linkG_length] at this; exact this
            have hrd := hA.h2.rd (link_raw hA.e2) (by omega)
            rw [hA.e2] at hrd
            obtain ⟨sA2, sc2, hsv2⟩ := ownsRow_slice hA.h2.row
            rw [hsv2] at hrd
            have hS : ∀ W, Below wc.heap.size wc W → W.cell? ⟨g2, 0, none⟩ = some (.slice sA2 ps2.length sc2) ∧ W.cell? ⟨g2, 1, none⟩ = some (.slice none 0 0) := fun W hW => by
              have := graph_cells hA.h2 hW
              rwa [hsv2] at this
            have HC17 := Lib.hid (fun W hW => ref_said wc W hW)
            have HC12 := Lib.hid (fun W hW => graph_said wc W _ _ (rngT k) hTV hrd (link_small 1 (2, 1) k k) (show_ring k h6 h1) hW)
            have HSS := Lib.hid hS
            obtain ⟨q0, q1⟩ := hS wc (Below.refl _ _)
            have l6 := blk_lt hA.h2.own
            have m1 : ¬ g2 = wc.heap.size := by omega
            have m2 : ¬ wc.heap.size = g2 := by omega
            clear hS hrd hTV hA hsv2 hlen2
            generalize hwa : wc = V2 at *
            clear hwa
            go_upto_region 34 with (fail)
            go_cut [16, 17] (fun s14 s15 wx => s14 = .string ⟨(rngT k).toArray⟩ ∧ ∃ fb, s15 = .pointer (some ⟨fb, 0, none⟩) ∧ wx.heap[fb]? = some (.cells #[.int .i64 0, .int .i64 0] 38 (0, 0)) ∧ Below V2.heap.size V2 wx)
            case first =>
              go_region_held3 (fun w' => w'.cell? ⟨g2, 0, none⟩ = some (.slice sA2 ps2.length sc2) ∧ w'.cell? ⟨g2, 1, none⟩ = some (.slice none 0 0)) (go_keep)
                (first | (go_at_call 17; (with_reducible refine (HC17.out _ ?_).mono ?_); (first | (exact (Below.refl _ _).drew) | go_grown); rintro e w7 ⟨rfl, hb7, hB7⟩; obtain ⟨hc7, hf7⟩ := bcell hb7; obtain ⟨p0, p1⟩ := HSS.out _ hB7; have l7 := Nat.lt_of_lt_of_le l6 hB7.size; have m3 := Nat.ne_of_lt l7; have m4 := Nat.ne_of_gt l7; have hs7 := hb7.size; (try rw [size_drew] at hs7); (try rw [World.size_alloc] at hs7); (try have e7 : V2.heap.size < w7.heap.size := hs7)) | (go_at_call 12; (with_reducible refine (HC12.out _ ?_).mono ?_); (first | assumption | exact hB7.alloc hB7.size _ | go_grown); rintro e w8 ⟨rfl, hb8, hB8⟩; obtain ⟨hc8, hf8⟩ := bcell hb8; obtain ⟨p2, p3⟩ := HSS.out _ hB8; have l8 := Nat.lt_of_lt_of_le l6 hB8.size; have m5 := Nat.ne_of_lt l8; have m6 := Nat.ne_of_gt l8; have hs8 := hb8.size; (try rw [size_drew] at hs8); (try rw [World.size_alloc] at hs8); (try have e8 : w7.heap.size < w8.heap.size := hs8)))
              all_goals
                go_wp2_with fail
                go_meet
                case rel =>
                  refine ⟨rfl, ?_⟩
                  first
                    | with_reducible exact fault_late hB8
                    | with_reducible exact fault_early hB7 hb8
                    | with_reducible exact fault_first hb7 hb8
            case rest =>
              obtain ⟨rfl, fb2, rfl, hfb2, hbc2⟩ := hcut
              have hA2 := HA.out.later hbc2
              have HF2 := Lib.hid (And.intro hfb2 (blk_below hbc2 HF1.out (blk_lt HF1.out)))
              clear hfb2 hbc2 HA HC17 HC12 HSS q0 q1 l6 m1 m2
              have HA := Lib.hid hA2
              clear hA2
              have hA := HA.out
              have hTV := HT.out.below hA.below (Nat.le_refl _)
              have hlen3 : ps3.length = k := by have := congrArg List.length hA.e3; rw [List.length_map, linkG_length] at this; exact this
              have hrd := hA.h3.rd (link_raw hA.e3) (by omega)
              rw [hA.e3] at hrd
              obtain ⟨sA3, sc3, hsv3⟩ := ownsRow_slice hA.h3.row
              rw [hsv3] at hrd
              have hS : ∀ W, Below wc.heap.size wc W → W.cell? ⟨g3, 0, none⟩ = some (.slice sA3 ps3.length sc3) ∧ W.cell? ⟨g3, 1, none⟩ = some (.slice none 0 0) := fun W hW => by
                have := graph_cells hA.h3 hW
                rwa [hsv3] at this
              have HC17 := Lib.hid (fun W hW => ref_said wc W hW)
              have HC12 := Lib.hid (fun W hW => graph_said wc W _ _ (bxsT k) hTV hrd (link_small 2 (3, 0) k k) (show_boxes k h6 h1) hW)
              have HSS := Lib.hid hS
              obtain ⟨q0, q1⟩ := hS wc (Below.refl _ _)
              have l6 := blk_lt hA.h3.own
              have m1 : ¬ g3 = wc.heap.size := by omega
              have m2 : ¬ wc.heap.size = g3 := by omega
              clear hS hrd hTV hA hsv3 hlen3
              generalize hwa : wc = V3 at *
              clear hwa
              go_upto_region 35 with (fail)
              go_cut [18, 19] (fun s14 s15 wx => s14 = .string ⟨(bxsT k).toArray⟩ ∧ ∃ fb, s15 = .pointer (some ⟨fb, 0, none⟩) ∧ wx.heap[fb]? = some (.cells #[.int .i64 0, .int .i64 0] 38 (0, 0)) ∧ Below V3.heap.size V3 wx)
              case first =>
                go_region_held3 (fun w' => w'.cell? ⟨g3, 0, none⟩ = some (.slice sA3 ps3.length sc3) ∧ w'.cell? ⟨g3, 1, none⟩ = some (.slice none 0 0)) (go_keep)
                  (first | (go_at_call 17; (with_reducible refine (HC17.out _ ?_).mono ?_); (first | (exact (Below.refl _ _).drew) | go_grown); rintro e w7 ⟨rfl, hb7, hB7⟩; obtain ⟨hc7, hf7⟩ := bcell hb7; obtain ⟨p0, p1⟩ := HSS.out _ hB7; have l7 := Nat.lt_of_lt_of_le l6 hB7.size; have m3 := Nat.ne_of_lt l7; have m4 := Nat.ne_of_gt l7; have hs7 := hb7.size; (try rw [size_drew] at hs7); (try rw [World.size_alloc] at hs7); (try have e7 : V3.heap.size < w7.heap.size := hs7)) | (go_at_call 12; (with_reducible refine (HC12.out _ ?_).mono ?_); (first | assumption | exact hB7.alloc hB7.size _ | go_grown); rintro e w8 ⟨rfl, hb8, hB8⟩; obtain ⟨hc8, hf8⟩ := bcell hb8; obtain ⟨p2, p3⟩ := HSS.out _ hB8; have l8 := Nat.lt_of_lt_of_le l6 hB8.size; have m5 := Nat.ne_of_lt l8; have m6 := Nat.ne_of_gt l8; have hs8 := hb8.size; (try rw [size_drew] at hs8); (try rw [World.size_alloc] at hs8); (try have e8 : w7.heap.size < w8.heap.size := hs8)))
                all_goals
                  go_wp2_with fail
                  go_meet
                  case rel =>
                    refine ⟨rfl, ?_⟩
                    first
                      | with_reducible exact fault_late hB8
                      | with_reducible exact fault_early hB7 hb8
                      | with_reducible exact fault_first hb7 hb8
              case rest =>
                obtain ⟨rfl, fb3, rfl, hfb3, hbc3⟩ := hcut
                have k1 := blk_below hbc3 HF2.out.2 (blk_lt HF2.out.2)
                have k2 := blk_below hbc3 HF2.out.1 (blk_lt HF2.out.1)
                have HB := Lib.hid (HA.out.later hbc3).below
                have k3 := hfb3
                have hK : ∀ W, Below wc.heap.size wc W → (W.cell? ⟨fb1, 0, none⟩ = some (.int .i64 0) ∧ W.cell? ⟨fb1, 1, none⟩ = some (.int .i64 0)) ∧ (W.cell? ⟨fb2, 0, none⟩ = some (.int .i64 0) ∧ W.cell? ⟨fb2, 1, none⟩ = some (.int .i64 0)) ∧ W.cell? ⟨fb3, 0, none⟩ = some (.int .i64 0) ∧ W.cell? ⟨fb3, 1, none⟩ = some (.int .i64 0) := fun W hW => by
                  have a1 := blk_below hW k1 (blk_lt k1)
                  have a2 := blk_below hW k2 (blk_lt k2)
                  have a3 := blk_below hW k3 (blk_lt k3)
                  exact ⟨⟨bc a1 0, bc a1 1⟩, ⟨bc a2 0, bc a2 1⟩, bc a3 0, bc a3 1⟩
                have hC16 : ∀ W, Below wc.heap.size wc W → Calls Tryd.prog 16 #[.agg #[.int .i64 0, .int .i64 0]] W fun e w' => e = .returned (.bool true) ∧ Below wc.heap.size wc w' := fun W hW => by
                  refine (good_any 0 0 W).mono ?_
                  rintro e w' ⟨rfl, hb⟩
                  exact ⟨rfl, hW.trans (hb.mono hW.size)⟩
                obtain ⟨⟨x0, x1⟩, ⟨y0, y1⟩, z0, z1⟩ := hK wc (Below.refl _ _)
                have HKK := Lib.hid hK
                have HC16 := Lib.hid hC16
                clear hK hC16 k1 k2 k3 hfb3 hbc3 HF1 HF2 HC17 HC12 HSS q0 q1 l6 m1 m2 HA
                generalize (⟨(lstT k).toArray⟩ : ByteArray) = S1 at *
                generalize (⟨(rngT k).toArray⟩ : ByteArray) = S2 at *
                generalize (⟨(bxsT k).toArray⟩ : ByteArray) = S3 at *
                go_wp2_with (go_at_call 16; (with_reducible refine (HC16.out _ ?_).mono ?_); (first | exact Below.refl _ _ | assumption); rintro e w8 ⟨rfl, hB8⟩; obtain ⟨⟨x0, x1⟩, ⟨y0, y1⟩, z0, z1⟩ := HKK.out _ hB8)
                go_ret
                exact ⟨rfl, HB.out.trans (hB8.mono HB.out.size)⟩
    | succ j =>
      go_upto_if 41 with (first | (go_at_call 17; (with_reducible refine (ref_any ((k : Int) + 1 + 1) wr).mono ?_); rintro e w2 ⟨rfl, hb2⟩) | (go_at_call 17; refine (ref_any _ _).mono ?_; rintro e w3 ⟨rfl, hb3⟩))
      have hb2s := hb2.size
      have hb3s := hb3.size
      have r11 := blk_below hb3 (ha_new w2 (.cells #[.int .i64 2, .int .i64 ((k : Int) + 1 + 1)] 27)) (by simp)
      have r11' := ha_old (x := .cells #[.int .i64 2, .int .i64 ((k : Int) + 1 + 1)] 27) r11
      have r12 := ha_new w3 (.cells #[.int .i64 2, .int .i64 ((k : Int) + 1 + 1)] 27)
      have hbW : Below wr.heap.size wr (w3.alloc (.cells #[.int .i64 2, .int .i64 ((k : Int) + 1 + 1)] 27)) :=
        ((hb2.alloc hb2.size _).trans (hb3.mono (by simp; omega))).alloc (by simp at hb3s; omega) _
      simp only [World.size_alloc] at hb3s
      have l1 : wr.heap.size ≤ w2.heap.size := hb2s
      have l2 : w2.heap.size < w3.heap.size := hb3s
      clear r11 hb2 hb3 hb2s hb3s
      generalize World.alloc w3 _ = W1 at *
      generalize w2.heap.size = b11 at *
      generalize w3.heap.size = b12 at *
      go_cut [] (fun wc => wc.heap[b11]? = some (.cells #[.int .i64 (linkV (3, 0) n (k + 1)).1, .int .i64 (linkV (3, 0) n (k + 1)).2] 27 (0, 0)) ∧ wc.heap[b12]? = some (.cells #[.int .i64 (linkV (2, 1) n (k + 1)).1, .int .i64 (linkV (2, 1) n (k + 1)).2] 27 (0, 0)) ∧ Below wr.heap.size wr wc)
      case first =>
        by_cases hkn : k + 1 = n
        · have hkn' : ((k : Int) + 1 == (n : Int)) = true := by simp; omega
          have hl1 : linkV (3, 0) n (k + 1) = (3, 0) := by simp [linkV, hkn]
          have hl2 : linkV (2, 1) n (k + 1) = (2, 1) := by simp [linkV, hkn]
          have l3 := blk_lt r12
          have l4 := hbW.size
          have f11 := bf r11'
          have f12 := bf r12
          have HR := Lib.hid (And.intro r11' (And.intro r12 hbW))
          have c11 : W1.cell? ⟨b11, 0, none⟩ = some (.int .i64 2) := bc r11' 0
          have c11' : W1.cell? ⟨b11, 1, none⟩ = some (.int .i64 ((k : Int) + 1 + 1)) := bc r11' 1
          clear r11' r12 hbW
          go_wp2_with (first | (go_at_call 18; refine (null_any _).mono ?_; rintro e w4 ⟨rfl, hb4⟩; have HB4 := Lib.hid hb4; have q11 := blk_below hb4 HR.out.1 (by omega); have q12 := blk_below hb4 HR.out.2.1 (by omega); have c0 := bc q11 0; have c1 := bc q11 1; have g0 := bf q11; have HQ := Lib.hid (And.intro q11 q12); clear q11 q12 hb4 c11 c11' f11 f12) | (go_at_call 17; go_loud (refine (ref_any _ _).mono ?_; rintro e w5 ⟨rfl, hb5⟩; have HB5 := Lib.hid hb5; have qq := two_stores HQ.out.1 HQ.out.2 (by omega) (.int .i64 3) (.int .i64 0); have q12 := blk_below hb5 qq.2 (blk_lt qq.2); have q11 := blk_below hb5 qq.1 (blk_lt qq.1); have d0 := bc q12 0; have d1 := bc q12 1; have d2 := bf q12; have HT5 := Lib.hid (And.intro q11 q12); clear q11 q12 qq hb5)))
          go_meet
          case rel =>
            rw [hl1, hl2]
            have qq := two_stores HT5.out.2 HT5.out.1 (by omega) (.int .i64 2) (.int .i64 1)
            refine ⟨qq.2, qq.1, ?_⟩
            have h4 := HR.out.2.2.trans (HB4.out.mono HR.out.2.2.size)
            have h5 : Below wr.heap.size wr ((w4.setCell ⟨b11, 0, none⟩ (.int .i64 3)).setCell ⟨b11, 1, none⟩ (.int .i64 0)) := (h4.setCell l1 _).setCell l1 _
            have h6 := h5.trans (HB5.out.mono h5.size)
            exact (h6.setCell (show wr.heap.size ≤ b12 by omega) _).setCell (show wr.heap.size ≤ b12 by omega) _
        · have hkn' : ((k : Int) + 1 == (n : Int)) = false := by simp; omega
          have hl1 : linkV (3, 0) n (k + 1) = (2, (k : Int) + 1 + 1) := by unfold linkV; rw [if_neg hkn]; rfl
          have hl2 : linkV (2, 1) n (k + 1) = (2, (k : Int) + 1 + 1) := by unfold linkV; rw [if_neg hkn]; rfl
          have HR := Lib.hid (And.intro r11' (And.intro r12 hbW))
          clear r11' r12 hbW
          go_wp2
          go_meet
          case rel =>
            rw [hl1, hl2]
            exact HR.out
      case rest =>
        clear r11' r12 hbW
        obtain ⟨r11, r12, hbW⟩ := hcut
        have hA := HA.out
        clear HA
        have l3 := hbW.size
        have hbw := hA.below.trans (hbW.mono hA.below.size)
        have hws := hA.below.size
        have k1 := hA.h1.below hbW
        have k2 := hA.h2.below hbW
        have k3 := hA.h3.below hbW
        have HA := Lib.hid hA
        have HK := Lib.hid (And.intro k2 (And.intro k3 (And.intro hbw (And.intro r12 r11))))
        have hlen1 : ps1.length = k := by have := congrArg List.length hA.e1; rw [List.length_map, linkG_length] at this; exact this
        obtain ⟨sA, sc, hsv1⟩ := ownsRow_slice k1.row
        obtain ⟨i0, hi0, hz0, hz1, hz2⟩ := info_parts node_info
        have cg0 := bc k1.own 0
        have fg0 := bf k1.own
        have c0 := bc r11 0
        have c1 := bc r11 1
        have lg := blk_lt k1.own
        have lb := blk_lt r11
        simp only [List.getElem?_toArray, List.getElem?_cons_zero, List.getElem?_cons_succ] at cg0 c0 c1
        have hwc : w.heap.size ≤ wc.heap.size := by omega
        have hgw : w.heap.size ≤ g1 := k1.ge
        clear hA k2 k3 r12 r11 hbw
        rw [hlen1] at hsv1
        subst hsv1
        generalize hx1 : (linkV (3, 0) n (k + 1)).1 = x1 at *
        generalize hx2 : (linkV (3, 0) n (k + 1)).2 = x2 at *
        have hxx : linkV (3, 0) n (k + 1) = (x1, x2) := by rw [← hx1, ← hx2]
        have HXX := Lib.hid hxx
        have HK1 := Lib.hid k1
        clear hx1 hx2 hxx k1
        go_upto_region 16 with (fail)
        generalize wc = wa at *
        go_cut [] (fun wx => ∃ v1 f, GraphIn w.heap.size wx g1 v1 (ps1 ++ [(linkNd 1 (3, 0) n (k + 1), f)]) ∧ Turned wa wx g1 (Value.slice sA k sc).ownBlock ∧ Below w.heap.size wa wx ∧ (v1.ownBlock = (Value.slice sA k sc).ownBlock ∨ ∃ b, v1.ownBlock = some b ∧ wa.heap.size ≤ b))
        case first =>
          go_region_law (first | (go_loud (refine step_append_at rfl (.tmp 45) (.tmp 53) 22 rfl w.heap.size 34 i0 _ 5 88 Tryd.underlying22 hi0 hz0 hz1 hz2 rfl (by omega) (.slice sA k sc) k (rowC ps1) (by simp [Act.eval]) (by exact (World.ownsRow.alloc (World.ownsRow.alloc HR2.out _) _)) ⟨w2.heap.size + 1, 0, none⟩ 1 1 [.int .i64 ((k : Int) + 1), .int .i64 1, .slice none 0 0, .slice (some ⟨w2.heap.size, 0, none⟩) 2 2, .slice none 0 0] (by simp [Act.eval]) rfl (by exact news_at (ha_at (World.size_alloc _ _))) (by simp [Value.oneCell']) (by simp only [maxLen] <;> omega) (by omega) (by simp <;> omega) ?_; intro v1 w3 hown1 hg1 hat1; have h9 := (GraphIn.two HG2.out _ _).grown_own hg1; have e9 := bc h9 0; have f9 := bf h9; obtain ⟨A1, cc1, rfl⟩ := ownsRow_slice hown1)) | (go_simp; go_at_call 14; refine (fix_any _ _).mono ?_; rintro e w2 ⟨rfl, hb2⟩; obtain ⟨hc2, hf2⟩ := bcell hb2; have q0 := (hc2 b11 0 lb).trans c0; have q1 := (hc2 b11 1 lb).trans c1; have q2 := (hc2 g1 0 lg).trans cg0; have q3 := (hf2 g1 0 lg).trans (fg0 0); have hs2 := hb2.size; (try rw [size_drew] at hs2); have lg2 : g1 < w2.heap.size := Nat.lt_of_lt_of_le lg hs2; have lb2 : b11 < w2.heap.size := Nat.lt_of_lt_of_le lb hs2; have n1 : ¬ g1 = w2.heap.size := (by omega); have n2 : ¬ b11 = w2.heap.size := (by omega); have n3 : ¬ g1 = w2.heap.size + 1 := (by omega); have n4 : ¬ b11 = w2.heap.size + 1 := (by omega); have HG2 := Lib.hid (HK1.out.below (by first | exact hb2 | exact (Below.refl wa.heap.size wa).drew.trans hb2)); have HR2 := Lib.hid (row_len hlen1 HG2.out.row)))
          all_goals
            go_wp2_with (fail)
            go_meet
            case rel => exact list_add HK1.out hlen1 HXX.out hwc (by first | exact hb2 | exact (Below.refl wa.heap.size wa).drew.trans hb2) hown1 hg1 hat1
        case rest =>
          obtain ⟨v1, f1, m1, t1, b1, o1⟩ := hcut
          obtain ⟨k2, k3, hbw, r12, r11⟩ := HK.out
          have hA := HA.out
          have k2' := k2.other HK1.out (Ne.symm hA.d12) (ne_swap hA.ne12) t1
          have k3' := k3.other HK1.out (Ne.symm hA.d13) (ne_swap hA.ne13) t1
          have r12' := HK1.out.var r12 t1
          have r11' := HK1.out.var r11 t1
          have n12 := k2.own_ne hA.ne12 o1
          have n13 := k3.own_ne hA.ne13 o1
          have hlen2 : ps2.length = k := by have := congrArg List.length hA.e2; rw [List.length_map, linkG_length] at this; exact this
          have ht1 := t1.size
          obtain ⟨sB, sd, hsv2⟩ := ownsRow_slice k2'.row
          have dg0 := bc k2'.own 0
          have eg0 := bf k2'.own
          have d0 := bc r12' 0
          have d1 := bc r12' 1
          have mg := blk_lt k2'.own
          have mb := blk_lt r12'
          simp only [List.getElem?_toArray, List.getElem?_cons_zero, List.getElem?_cons_succ] at dg0 d0 d1
          have hwx : w.heap.size ≤ wc.heap.size := by omega
          have hgx : w.heap.size ≤ g2 := k2'.ge
          rw [hlen2] at hsv2
          have HM := Lib.hid (And.intro m1 (And.intro (hbw.trans b1) (And.intro n12 (And.intro n13 (And.intro k3' r11')))))
          have HK2 := Lib.hid k2'
          clear m1 b1 n12 n13 k3' r11' r12' k2 k3 hbw r12 r11 t1 o1 cg0 fg0 c0 c1 lg lb k2' hA
          generalize hy1 : (linkV (2, 1) n (k + 1)).1 = y1 at *
          generalize hy2 : (linkV (2, 1) n (k + 1)).2 = y2 at *
          have hyy : linkV (2, 1) n (k + 1) = (y1, y2) := by rw [← hy1, ← hy2]
          have HYY := Lib.hid hyy
          clear hy1 hy2 hyy
          subst hsv2
          go_upto_region 17 with (fail)
          generalize wc = wb at *
          go_cut [] (fun wx => ∃ v2 f, GraphIn w.heap.size wx g2 v2 (ps2 ++ [(linkNd 1 (2, 1) n (k + 1), f)]) ∧ Turned wb wx g2 (Value.slice sB k sd).ownBlock ∧ Below w.heap.size wb wx ∧ (v2.ownBlock = (Value.slice sB k sd).ownBlock ∨ ∃ b, v2.ownBlock = some b ∧ wb.heap.size ≤ b))
          case first =>
            go_region_law (first | (go_loud (refine step_append_at rfl (.tmp 57) (.tmp 65) 22 rfl w.heap.size 34 i0 _ 5 88 Tryd.underlying22 hi0 hz0 hz1 hz2 rfl (by omega) (.slice sB k sd) k (rowC ps2) (by simp [Act.eval]) (by exact (World.ownsRow.alloc (World.ownsRow.alloc HR2.out _) _)) ⟨w2.heap.size + 1, 0, none⟩ 1 1 [.int .i64 ((k : Int) + 1), .int .i64 1, .slice none 0 0, .slice (some ⟨w2.heap.size, 0, none⟩) 2 2, .slice none 0 0] (by simp [Act.eval]) rfl (by exact news_at (ha_at (World.size_alloc _ _))) (by simp [Value.oneCell']) (by simp only [maxLen] <;> omega) (by omega) (by simp <;> omega) ?_; intro v1 w3 hown1 hg1 hat1; have h9 := (GraphIn.two HG2.out _ _).grown_own hg1; have e9 := bc h9 0; have f9 := bf h9; obtain ⟨A1, cc1, rfl⟩ := ownsRow_slice hown1)) | (go_simp; go_at_call 14; refine (fix_any _ _).mono ?_; rintro e w2 ⟨rfl, hb2⟩; obtain ⟨hc2, hf2⟩ := bcell hb2; have q0 := (hc2 b12 0 mb).trans d0; have q1 := (hc2 b12 1 mb).trans d1; have q2 := (hc2 g2 0 mg).trans dg0; have q3 := (hf2 g2 0 mg).trans (eg0 0); have hs2 := hb2.size; (try rw [size_drew] at hs2); have mg2 : g2 < w2.heap.size := Nat.lt_of_lt_of_le mg hs2; have lb2 : b12 < w2.heap.size := Nat.lt_of_lt_of_le mb hs2; have n1 : ¬ g2 = w2.heap.size := (by omega); have n2 : ¬ b12 = w2.heap.size := (by omega); have n3 : ¬ g2 = w2.heap.size + 1 := (by omega); have n4 : ¬ b12 = w2.heap.size + 1 := (by omega); have HG2 := Lib.hid (HK2.out.below (by first | exact hb2 | exact (Below.refl wb.heap.size wb).drew.trans hb2)); have HR2 := Lib.hid (row_len hlen2 HG2.out.row)))
            all_goals
              go_wp2_with (fail)
              go_meet
              case rel => exact list_add HK2.out hlen2 HYY.out hwx (by first | exact hb2 | exact (Below.refl wb.heap.size wb).drew.trans hb2) hown1 hg1 hat1
          case rest =>
            obtain ⟨v2, f2, m2, t2, b2, o2⟩ := hcut
            obtain ⟨m1, hbw, n12, n13, k3, r11⟩ := HM.out
            have hA := HA.out
            have m1' := m1.other HK2.out hA.d12 n12 t2
            have k3' := k3.other HK2.out (Ne.symm hA.d23) (ne_swap hA.ne23) t2
            have r11' := HK2.out.var r11 t2
            have n21 := m1.own_ne (ne_swap n12) o2
            have n23 := k3.own_ne hA.ne23 o2
            have hlen3 : ps3.length = k := by have := congrArg List.length hA.e3; rw [List.length_map, linkG_length] at this; exact this
            have ht2 := t2.size
            obtain ⟨sC, se, hsv3⟩ := ownsRow_slice k3'.row
            have eg0 := bc k3'.own 0
            have fg0 := bf k3'.own
            have e0 := bc r11' 0
            have e1 := bc r11' 1
            have ng := blk_lt k3'.own
            have nb := blk_lt r11'
            simp only [List.getElem?_toArray, List.getElem?_cons_zero, List.getElem?_cons_succ] at eg0 e0 e1
            have hwy : w.heap.size ≤ wc.heap.size := by omega
            rw [hlen3] at hsv3
            subst hsv3
            have HM2 := Lib.hid (And.intro m1' (And.intro m2 (And.intro (hbw.trans b2) (And.intro n21 (And.intro n23 n13)))))
            have HK3 := Lib.hid k3'
            have HR3 := Lib.hid (row_len hlen3 k3'.row)
            clear m1 m2 hbw n12 n13 k3 r11 m1' k3' r11' n21 n23 t2 b2 o2 dg0 d0 d1 mg mb hA
            go_upto_region 19 with (at_builtin; go_loud (refine wpList_append_own_at _ rfl (.tmp 69) (.tmp 74) 22 rfl w.heap.size 34 i0 _ 5 88 Tryd.underlying22 hi0 hz0 hz1 hz2 rfl (by omega) (.slice sC k se) k (rowC ps3) rfl (by exact (World.ownsRow.alloc (World.ownsRow.alloc HR3.out _) _)) ⟨wc.heap.size + 1, 0, none⟩ 1 1 [.int .i64 ((k : Int) + 1), .int .i64 2, .slice none 0 0, .slice (some ⟨wc.heap.size, 0, none⟩) 1 1, .slice none 0 0] rfl rfl (by exact news_at (ha_at (World.size_alloc _ _))) (by simp [Value.oneCell']) (by simp only [maxLen] <;> omega) (by omega) (by simp <;> omega) ?_; intro v3 w3 hown3 hg3 hnil3 hat3; clear hnil3; have h9 := (GraphIn.two HK3.out _ _).grown_own hg3; have e9 := bc h9 0; have f9 := bf h9; obtain ⟨A3, cc3, rfl⟩ := ownsRow_slice hown3))
            obtain ⟨f3, m3, t3, b3, o3⟩ := box_add HK3.out hlen3 HXX.out hwy hown3 hg3 hat3
            obtain ⟨m1, m2, hbw, n21, n23, n13⟩ := HM2.out
            have hA := HA.out
            have hnew : ListsAt w (w3.setCell ⟨g3, 0, none⟩ (.slice A3 (k + 1) cc3)) g1 g2 g3 n (k + 1) v1 v2 (.slice A3 (k + 1) cc3) (ps1 ++ [(linkNd 1 (3, 0) n (k + 1), f1)]) (ps2 ++ [(linkNd 1 (2, 1) n (k + 1), f2)]) (ps3 ++ [(linkNd 2 (3, 0) n (k + 1), f3)]) := by
              refine ⟨hbw.trans b3, m1.other HK3.out hA.d13 n13 t3, m2.other HK3.out hA.d23 n23 t3, m3, ?_, ?_, ?_, ne_swap n21, ?_, ?_, hA.d12, hA.d13, hA.d23⟩
              · rw [List.map_append, hA.e1, linkG_succ]; rfl
              · rw [List.map_append, hA.e2, linkG_succ]; rfl
              · rw [List.map_append, hA.e3, linkG_succ]; rfl
              · exact ne_swap (m1.own_ne (ne_swap n13) o3)
              · exact ne_swap (m2.own_ne (ne_swap n23) o3)
            have HN := Lib.hid hnew
            clear hnew m1 m2 m3 hbw n21 n23 n13 t3 b3 o3 hA hown3 hg3 hat3 h9 e9 f9 eg0 fg0 e0 e1 ng nb
            generalize World.setCell w3 _ _ = W4 at *
            obtain ⟨q, hq⟩ : ∃ q, q = (k + 1) % 10 := ⟨_, rfl⟩
            obtain ⟨y, hy⟩ : ∃ y, y = 48 + q := ⟨_, rfl⟩
            have hq10 : q < 10 := by omega
            have htm : ((k : Int) + 1).tmod 10 = (q : Int) := by rw [tmod10, hq]
            have hiw : IntKind.i64.wrap (48 + (q : Int)) = 48 + (q : Int) := IntWalk.i64_in _ (by omega)
            have huw : IntKind.u8.wrap (48 + (q : Int)) = (y : Int) := by
              rw [show (48 + (q : Int)) = (y : Int) by omega]
              exact IntWalk.u8_in _ (by omega)
            have hcv := one_run y (by omega)
            obtain ⟨P1, hP1⟩ : ∃ P1 : ByteArray, P1 = ⟨#[UInt8.ofNat y]⟩ := ⟨_, rfl⟩
            have hPd : P1 = ⟨[dgB (k + 1)].toArray⟩ := by rw [hP1, hy, hq]; rfl
            rw [← hP1] at hcv
            obtain ⟨sa, hsa⟩ : ∃ sa : ByteArray, sa = ⟨(40 :: digsTo k).toArray⟩ := ⟨_, rfl⟩
            obtain ⟨sb, hsb⟩ : ∃ sb : ByteArray, sb = ⟨(35 :: 48 :: 61 :: 40 :: digsTo k).toArray⟩ := ⟨_, rfl⟩
            obtain ⟨sc', hsc⟩ : ∃ sc : ByteArray, sc = ⟨(boxTo k).toArray⟩ := ⟨_, rfl⟩
            rw [← hsa, ← hsb, ← hsc]
            have hP1z : P1.size = 1 := by rw [hP1]; rfl
            have hdl := digsTo_len k
            have hsaz : sa.size ≤ 2000 := by rw [hsa, size_bs, List.length_cons]; omega
            have hsbz : sb.size ≤ 2000 := by rw [hsb, size_bs]; simp only [List.length_cons]; omega
            have hscz : sc'.size ≤ 2000 := by rw [hsc, size_bs, boxTo_len]; omega
            have HS := Lib.hid (And.intro hPd (And.intro hsa (And.intro hsb hsc)))
            clear hP1 hPd hsa hsb hsc hy hq hdl
            by_cases hk0 : k = 0
            · have hgt : ¬ (1 : Int) < (k : Int) + 1 := by omega
              have HK0 := Lib.hid hk0
              clear hk0
              go_wp2
              go_roundg j
              case measure => omega
              case rel =>
                obtain ⟨hPd, hsa, hsb, hsc⟩ := HS.out
                have hd : digsTo (k + 1) = digsTo k ++ [dgB (k + 1)] := by rw [HK0.out]; rfl
                refine ⟨k + 1, _, _, _, _, _, _, HN.out.later ((Below.refl _ _).alloc (Nat.le_refl _) _), by omega, ?_, ?_, ?_, rfl⟩
                · rw [hsa, hPd, bs_append, hd]; rfl
                · rw [hsb, hPd, bs_append, hd]; rfl
                · rw [hsc, boxTo_succ, ← bs_append]
            · have hgt : (1 : Int) < (k : Int) + 1 := by omega
              go_wp2
              go_roundg j
              case measure => omega
              case rel =>
                obtain ⟨hPd, hsa, hsb, hsc⟩ := HS.out
                have hd : digsTo (k + 1) = digsTo k ++ ([32] ++ [dgB (k + 1)]) := digsTo_succ k (by omega)
                have hsp : (⟨#[32]⟩ : ByteArray) = ⟨[32].toArray⟩ := rfl
                refine ⟨k + 1, _, _, _, _, _, _, HN.out.later ((Below.refl _ _).alloc (Nat.le_refl _) _), by omega, ?_, ?_, ?_, rfl⟩
                · rw [hsa, hPd, hsp, bs_append, bs_append, hd]; rfl
                · rw [hsb, hPd, hsp, bs_append, bs_append, hd]; rfl
                · rw [hsc, boxTo_succ, ← bs_append]
end Go.Proofs.YtpejmgellidhbaaDoor
