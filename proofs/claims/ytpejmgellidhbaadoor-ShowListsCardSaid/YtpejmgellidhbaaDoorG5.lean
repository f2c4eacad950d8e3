/- The statement ShowTexts: its walk. -/
import Derived.Test.YtpejmgellidhbaaDoorG3
import Derived.Test.YtpejmgellidhbaaDoorG4
import Derived.Laws.IdiomStrings
namespace Go.Proofs.YtpejmgellidhbaaDoor
open Go.RowKit

set_option maxRecDepth 100000 in
set_option maxHeartbeats 1000000 in
theorem texts_long (v : Value) (xs : List Int) (w : World) (hT : Tabs w) (hv : RdBytes w v xs) (h : 4096 < xs.length) :
    Calls Tryd.prog 6 #[v] w fun e w' => e = .returned (.bool true) ∧ Below w.heap.size w w' := by
  obtain ⟨A, c, rfl, -⟩ := hv
  have HT := Lib.hid hT
  clear hT
  go_enter Tryd.func6, Tryd.ntmps6
  go_wp2_with (go_at_call 8; refine (alive_any _ HT.out).mono ?_; rintro e w1 ⟨rfl, hb1⟩)
  go_ret
  exact ⟨rfl, hb1⟩
theorem row_base {w : World} {base n size : Nat} {e : TypeId} {v : Value} {xs : List Value} (h : w.ownsRow base e size v n xs) : ∀ k, v.ownBlock = some k → base ≤ k := by
  intro k hk
  rcases h.2 with ⟨rfl, -⟩ | ⟨g, cap, cur, rfl, hb, -⟩
  · cases hk
  · cases hk
    exact hb
theorem rdInts_row {w : World} {base : Nat} {v : Value} {xs : List Int} (h : w.ownsRow base 3 1 v xs.length (xs.map (Value.int .i64))) (hl : xs.length ≤ 140737488351232) : RdInts w v xs := by
  rcases h.2 with ⟨rfl, h0⟩ | ⟨g, cap, cur, rfl, hb, hg, hn, hc, hcs, ht⟩
  · rw [List.length_eq_zero_iff] at h0
    subst h0
    exact ⟨none, 0, rfl, by simp, fun h => by simp at h⟩
  · refine ⟨_, cap, rfl, hl, fun _ => ⟨g, 0, rfl, blk_lt hg, fun j hj => ?_⟩⟩
    rw [bc hg, Nat.zero_add]
    have e : (cur.toList.take (xs.length * 1))[j]? = some (Value.int .i64 xs[j]) := by
      rw [ht, List.getElem?_map, List.getElem?_eq_getElem hj]
      rfl
    rw [List.getElem?_take, if_pos (by omega)] at e
    simpa using e
theorem rdNodes_text {w : World} {v : Value} {xs : List Int} (h : RdInts w v xs) (G : Array Value) (hG : G = #[.int .i64 1, .int .i64 4, v, .slice none 0 0, .slice none 0 0]) : RdNodes (w.alloc (.cells G 34)) (.slice (some ⟨w.heap.size, 0, none⟩) 1 1) [textNd xs] := by
  have hb : Below w.heap.size w (w.alloc (.cells G 34)) := (Below.refl _ _).alloc (Nat.le_refl _) _
  have hn := ha_new w (.cells G 34)
  refine ⟨_, 1, rfl, by simp, fun _ => ⟨_, 0, rfl, blk_lt hn, fun j hj => ?_⟩⟩
  simp only [List.length_cons, List.length_nil] at hj
  match j, hj with
  | 0, _ =>
    subst hG
    refine ⟨v, .slice none 0 0, .slice none 0 0, (bc hn 0).trans rfl, (bc hn 1).trans rfl, (bc hn 2).trans rfl, (bc hn 3).trans rfl, (bc hn 4).trans rfl, h.below hb (Nat.le_refl _), ⟨none, 0, rfl, by simp [textNd], fun h => by simp [textNd] at h⟩, none, 0, 0, rfl⟩
/-- What the first loop of ShowTexts has come to. -/
structure RawAt (w wr : World) (xs : List Int) (j i : Nat) (rv iv : Value) : Prop where
  le : i + j = xs.length
  iq : iv = .int .i64 (i : Int)
  own : wr.ownsRow w.heap.size 3 1 rv i ((xs.take i).map (Value.int .i64))
  below : Below w.heap.size w wr
theorem hexd_run (q : Nat) (hq : q < 16) (W : World) : (Instr.index 9 (.string ⟨#[48, 49, 50, 51, 52, 53, 54, 55, 56, 57, 65, 66, 67, 68, 69, 70]⟩) (.int .u8 (q : Int))).run Tryd.prog W = .ok (.int .u8 ((hexD q).toNat : Int)) W := by
  have hl : q < (⟨#[48, 49, 50, 51, 52, 53, 54, 55, 56, 57, 65, 66, 67, 68, 69, 70]⟩ : ByteArray).size := hq
  rw [run_index_string W 9 _ .u8 q Tryd.underlying9, dif_pos ⟨by omega, by omega⟩]
  have e : ∀ q : Nat, (h : q < 16) → (⟨#[48, 49, 50, 51, 52, 53, 54, 55, 56, 57, 65, 66, 67, 68, 69, 70]⟩ : ByteArray)[q]'h = hexD q := by decide
  have e2 := e q hq
  simp only [Int.toNat_natCast]
  rw [e2]
theorem two_run (W : World) (b : Nat) (a1 a2 : UInt8) (h : W.heap[b]? = some (.cells #[.int .u8 (a1.toNat : Int), .int .u8 (a2.toNat : Int)] 5 (0, 0))) :
    (convert 48 9 (.slice (some ⟨b, 0, none⟩) 2 2)).run Tryd.prog W = .ok (.string ⟨#[a1, a2]⟩) W := by
  refine run_convert_bytes_back _ 48 9 5 _ 2 [a1, a2] Tryd.underlying48 Tryd.underlying5 Tryd.underlying9 fun j hj => ?_
  simp only [List.length_cons, List.length_nil] at hj
  match j, hj with
  | 0, _ => exact (bc h 0).trans rfl
  | 1, _ => exact (bc h 1).trans rfl
theorem extract_of {sb : ByteArray} {a p r : List UInt8} {Q : Nat} (h : sb.data.toList = a ++ (p ++ r)) (hQ : a.length = Q) : sb.extract Q (Q + p.length) = ⟨p.toArray⟩ := by
  apply Go.WideShapes.bytes_inj
  rw [ByteArray.data_extract, Array.toList_extract, h, ← hQ]
  simp
/-- What the second loop of ShowTexts has come to. -/
structure TextAt (w wr : World) (xs : List Int) (j k : Nat) (qv kv : Value) : Prop where
  le : k + j = xs.length
  iq : kv = .int .i64 (k : Int)
  q : qv = .int .i64 ((1 + (quoteM (xs.take k)).length : Nat) : Int)
  below : Below w.heap.size w wr
set_option maxRecDepth 100000 in
set_option maxHeartbeats 4000000 in
theorem texts_any (v : Value) (xs : List Int) (w : World) (hT : Tabs w) (hv : RdBytes w v xs) (h : xs.length ≤ 4096) (hb : ∀ x ∈ xs, 0 ≤ x ∧ x < 256) :
    Calls Tryd.prog 6 #[v] w fun e w' => e = .returned (.bool true) ∧ Below w.heap.size w w' := by
  obtain ⟨A, c, rfl, hr⟩ := hv
  have HT := Lib.hid hT
  have HR := Lib.hid (And.intro hr hb)
  clear hT hr hb
  go_enter Tryd.func6, Tryd.ntmps6
  go_wp2_with (go_at_call 8; refine (alive_any _ HT.out).mono ?_; rintro e w1 ⟨rfl, hb1⟩)
  obtain ⟨i0, hi0, hz0, hz1, hz2⟩ := info_parts int_info
  go_loopg [4, 5] xs.length (fun j rv iv wr => ∃ i, RawAt w wr xs j i rv iv)
  case atStart => exact ⟨0, by omega, rfl, ⟨by simp, .inl ⟨by simp, by simp⟩⟩, hb1⟩
  case round =>
    obtain ⟨i, hrel⟩ := hrel
    have hle := hrel.le
    have hi := hrel.iq
    subst hi
    have HL := Lib.hid hrel
    clear hrel hb1
    cases gk with
    | succ j =>
      have hlt : i < xs.length := by omega
      obtain ⟨b, o, rfl, hbl, hcl⟩ := HR.out.1 (by omega)
      have hx : wr.cell? ⟨b, o + i, none⟩ = some (.int .u8 xs[i]) := (HL.out.below.cell (p := ⟨b, _, none⟩) (by simp; omega)).trans (hcl i hlt)
      obtain ⟨x, hxe⟩ : ∃ x, x = xs[i] := ⟨_, rfl⟩
      have hxr := HR.out.2 xs[i] (List.getElem_mem hlt)
      rw [← hxe] at hx hxr
      have hwr : IntKind.i64.wrap x = x := IntWalk.i64_in _ (by omega)
      have HX := Lib.hid hxe
      have hsz := HL.out.below.size
      clear hcl hxe
      go_wp2_with (at_builtin; go_loud (refine wpList_append_own_at _ rfl (.tmp 23) (.tmp 29) 31 rfl w.heap.size 3 i0 _ 1 8 Tryd.underlying31 hi0 hz0 hz1 hz2 rfl (by omega) u4 i _ rfl (HL.out.own.alloc _) ⟨wr.heap.size, 0, none⟩ 1 1 [.int .i64 x] rfl rfl (by simpa using World.news_of_block (cs := #[.int .i64 x]) (t := 3) (fr := (0, 0)) (heap_alloc_new wr (.cells #[.int .i64 x] 3))) (by simp [Value.oneCell']) (by simp only [maxLen]; omega) (by omega) (by simp; omega) ?_; intro v1 w2 hown1 hg1 hnil1 hat1; clear hnil1))
      go_roundg j
      case measure => omega
      case rel =>
        refine ⟨i + 1, by omega, rfl, ?_, (HL.out.below.alloc hsz _).grown hg1 (by simp; omega) (row_base HL.out.own)⟩
        rw [List.take_succ_eq_append_getElem hlt, List.map_append, ← HX.out]
        exact hown1
    | zero =>
      have hi : i = xs.length := by omega
      subst hi
      have hi2 : (xs.length : Int) = xs.length := rfl
      have hW1 : Below w.heap.size w wr := HL.out.below
      have hr := HL.out.own
      rw [List.take_length] at hr
      clear HL
      obtain ⟨rA, rc, rfl⟩ := ownsRow_slice hr
      have hn := rdNodes_text (rdInts_row hr (by omega)) _ rfl
      have hbn := hW1.alloc hW1.size (.cells #[.int .i64 1, .int .i64 4, .slice rA xs.length rc, .slice none 0 0, .slice none 0 0] 34)
      have hsm := small_text xs h HR.out.2
      by_cases hlong : 499 < xs.length
      · have hG : ∀ W, Below (wr.alloc (.cells #[.int .i64 1, .int .i64 4, .slice rA xs.length rc, .slice none 0 0, .slice none 0 0] 34)).heap.size (wr.alloc (.cells #[.int .i64 1, .int .i64 4, .slice rA xs.length rc, .slice none 0 0, .slice none 0 0] 34)) W →
            Calls Tryd.prog 12 #[.agg #[.slice (some ⟨wr.heap.size, 0, none⟩) 1 1, .slice none 0 0], .agg #[.int .i64 2, .int .i64 1]] W fun e w' => e = .returned (.tuple #[.string ⟨#[35, 60, 108, 97, 114, 103, 101, 62]⟩, .agg #[.int .i64 0, .int .i64 0]]) ∧ Below w.heap.size w w' := fun W hW => by
          have hb2 := hbn.trans (hW.mono hbn.size)
          refine (graph_any W _ (.slice none 0 0) [textNd xs] (2, 1) (HT.out.below hb2 (Nat.le_refl _)) (hn.below hW (Nat.le_refl _)) ⟨none, 0, 0, rfl⟩ hsm).mono ?_
          rintro e w' ⟨rfl, hb⟩
          rw [show_large xs hlong]
          exact ⟨rfl, hb2.trans (hb.mono hb2.size)⟩
        have HG := Lib.hid hG
        clear hG hn hbn hsm hr hW1
        go_wp2_with (first | (go_at_call 17; refine (ref_any 1 _).mono ?_; rintro e w2 ⟨rfl, hb2⟩) | (go_at_call 12; go_loud (with_reducible refine (HG.out _ hb2).mono ?_; rintro e w3 ⟨rfl, hb3⟩)) | (go_at_call 16; refine (good_any 0 0 _).mono ?_; rintro e w4 ⟨rfl, hb4⟩))
        go_ret
        exact ⟨rfl, (hb3.alloc hb3.size _).trans (hb4.mono (Nat.le_trans hb3.size (by simp)))⟩
      · have hshort : xs.length ≤ 499 := by omega
        obtain ⟨sb, hsb⟩ : ∃ sb : ByteArray, sb = ⟨(quotedL xs).toArray⟩ := ⟨_, rfl⟩
        have hG : ∀ W, Below (wr.alloc (.cells #[.int .i64 1, .int .i64 4, .slice rA xs.length rc, .slice none 0 0, .slice none 0 0] 34)).heap.size (wr.alloc (.cells #[.int .i64 1, .int .i64 4, .slice rA xs.length rc, .slice none 0 0, .slice none 0 0] 34)) W →
            Calls Tryd.prog 12 #[.agg #[.slice (some ⟨wr.heap.size, 0, none⟩) 1 1, .slice none 0 0], .agg #[.int .i64 2, .int .i64 1]] W fun e w' => e = .returned (.tuple #[.string sb, .agg #[.int .i64 0, .int .i64 0]]) ∧ Below w.heap.size w w' := fun W hW => by
          have hb2 := hbn.trans (hW.mono hbn.size)
          refine (graph_any W _ (.slice none 0 0) [textNd xs] (2, 1) (HT.out.below hb2 (Nat.le_refl _)) (hn.below hW (Nat.le_refl _)) ⟨none, 0, 0, rfl⟩ hsm).mono ?_
          rintro e w' ⟨rfl, hb⟩
          rw [show_text xs hshort, hsb]
          exact ⟨rfl, hb2.trans (hb.mono hb2.size)⟩
        have HG := Lib.hid hG
        have hsl : sb.data.toList = 34 :: (quoteM xs ++ [34]) := by rw [hsb]; rfl
        obtain ⟨M, hM⟩ : ∃ M, M = (quoteM xs).length + 1 := ⟨_, rfl⟩
        have hM5 := quoteM_len xs
        have hsz : sb.size = M + 1 := by rw [hsb, size_bs]; simp [quotedL, hM]
        have hx0 : ∀ W, (Instr.index 9 (.string sb) (.int .i64 0)).run Tryd.prog W = .ok (.int .u8 34) W := fun W => index_run sb 0 34 (by rw [hsl]; rfl) W
        have hx1 : ∀ W, (Instr.index 9 (.string sb) (.int .i64 (M : Int))).run Tryd.prog W = .ok (.int .u8 34) W := fun W => index_run sb M 34 (by rw [hsl, hM]; simp) W
        have HS := Lib.hid (And.intro hsl hM)
        have hM6 : M ≤ 2501 := by omega
        have hM7 : 1 ≤ M := by omega
        clear hG hn hbn hsm hr hW1 hsb hsl hM hM5
        go_wp2_with (first | (go_at_call 17; refine (ref_any 1 _).mono ?_; rintro e w2 ⟨rfl, hb2⟩) | (go_at_call 12; refine (HG.out _ hb2).mono ?_; rintro e w3 ⟨rfl, hb3⟩) | (go_at_call 16; refine (good_any 0 0 _).mono ?_; rintro e w4 ⟨rfl, hb4⟩))
        have hb4' := (hb3.alloc hb3.size _).trans (hb4.mono (Nat.le_trans hb3.size (by simp)))
        have HB4 := Lib.hid hb4'
        clear hb4' hb4 hb3 hb2 hx0 hx1
        go_loopg [8, 9] xs.length (fun j qv kv wr => ∃ k, TextAt w wr xs j k qv kv)
        case atStart => exact ⟨0, by omega, rfl, rfl, HB4.out⟩
        case round =>
          obtain ⟨k, hrel⟩ := hrel
          have hle := hrel.le
          have hi := hrel.iq
          have hq := hrel.q
          subst hi hq
          have HB := Lib.hid hrel.below
          have hsz2 := hrel.below.size
          clear hrel HB4
          cases gk with
          | zero =>
            have hk : k = xs.length := by omega
            subst hk
            rw [List.take_length]
            obtain ⟨hsl, hM⟩ := HS.out
            have e1 : 1 + (quoteM xs).length = M := by omega
            rw [e1]
            have hr := HB.out
            clear hM e1 hsl HS
            go_wp2
            go_ret
            exact ⟨rfl, hr⟩
          | succ j =>
            have hlt : k < xs.length := by omega
            obtain ⟨b, o, rfl, hbl, hcl⟩ := HR.out.1 (by omega)
            have hx : wr.cell? ⟨b, o + k, none⟩ = some (.int .u8 xs[k]) := (HB.out.cell (p := ⟨b, _, none⟩) (by simp; omega)).trans (hcl k hlt)
            have hxr := HR.out.2 xs[k] (List.getElem_mem hlt)
            obtain ⟨r, hqp, hr0⟩ := quoted_piece xs k hlt
            have hqs := quoteM_snoc xs k hlt
            obtain ⟨y, hy⟩ : ∃ y : Nat, xs[k] = y := ⟨xs[k].toNat, by omega⟩
            rw [hy] at hx hxr hqp hqs
            have hy256 : y < 256 := by omega
            rw [byteOf_nat y hy256] at hqp hqs
            obtain ⟨P1, hP1⟩ : ∃ P1 : ByteArray, P1 = ⟨#[UInt8.ofNat y]⟩ := ⟨_, rfl⟩
            have hP1z : P1.size = 1 := by rw [hP1]; rfl
            have hcv1 : ∀ W : World, (convert 48 9 (.slice (some ⟨W.heap.size, 0, none⟩) 1 1)).run Tryd.prog (W.alloc (.cells #[.int .u8 (y : Int)] 5)) = .ok (.string P1) (W.alloc (.cells #[.int .u8 (y : Int)] 5)) := fun W => by
              rw [hP1]
              refine run_convert_bytes_back _ 48 9 5 _ 1 [UInt8.ofNat y] Tryd.underlying48 Tryd.underlying5 Tryd.underlying9 fun j hj => ?_
              simp only [List.length_cons, List.length_nil] at hj
              match j, hj with
              | 0, _ =>
                simp [Addr.add, UInt8.toNat_ofNat', Nat.mod_eq_of_lt hy256]
            obtain ⟨Q, hQ⟩ : ∃ Q, Q = 1 + (quoteM (xs.take k)).length := ⟨_, rfl⟩
            rw [← hQ]
            have hQM : Q + (quoteB y).length ≤ M := by
              have h1 := HS.out.1
              have h2 := congrArg List.length hqp
              rw [show quotedL xs = 34 :: (quoteM xs ++ [34]) from rfl] at h2
              have h3 := HS.out.2
              simp only [List.length_cons, List.length_append, List.length_nil] at h2
              omega
            have hext : sb.extract Q (Q + (quoteB y).length) = ⟨(quoteB y).toArray⟩ := extract_of (HS.out.1.trans hqp) (by rw [List.length_cons]; omega)
            have HQ := Lib.hid (And.intro hQ hqs)
            have HX := Lib.hid (And.intro hQM hext)
            clear hQ hqs hqp hr0 hy hcl HR hbl HS hQM hext
            have hnx : ∀ (n : Nat) (q2 k2 : Int) (W : World), (quoteB y).length = n → q2 = (Q : Int) + n → k2 = (k : Int) + 1 → Below w.heap.size w W → ∃ k', TextAt w W xs j k' (.int .i64 q2) (.int .i64 k2) := by
              intro n q2 k2 W hn h2 h3 h4
              have h5 := congrArg List.length HQ.out.2
              rw [List.length_append, hn] at h5
              have h6 := HQ.out.1
              exact ⟨k + 1, by omega, by rw [h3]; rfl, by rw [h2, h5]; congr 1; omega, h4⟩
            have HN := Lib.hid hnx
            clear hnx
            have hbk := HB.out
            have hcut92 : ((⟨#[92]⟩ : ByteArray) ++ P1).size = 2 := by rw [ByteArray.size_append, hP1z]; rfl
            by_cases h34 : y = 34
            · have hpc : quoteB y = [92, UInt8.ofNat y] := by
                unfold quoteB
                rw [if_pos (by omega)]
              rw [hpc] at HX HN
              obtain ⟨hQM, hext⟩ := HX.out
              simp only [List.length_cons, List.length_nil, Nat.zero_add] at hQM hext
              rw [show (⟨[92, UInt8.ofNat y].toArray⟩ : ByteArray) = (⟨#[92]⟩ : ByteArray) ++ P1 by rw [hP1]; rfl] at hext
              have k34 : ((y : Int) == 34) = true := by simp; omega
              clear HX h34 hpc hP1 hbk HQ
              go_wp2
              go_roundg j
              case measure => omega
              case rel => exact HN.out 2 _ _ _ rfl (by go_num) (by go_num) (HB.out.alloc hsz2 _)
            · by_cases h92 : y = 92
              · have hpc : quoteB y = [92, UInt8.ofNat y] := by
                  unfold quoteB
                  rw [if_pos (by omega)]
                rw [hpc] at HX HN
                obtain ⟨hQM, hext⟩ := HX.out
                simp only [List.length_cons, List.length_nil, Nat.zero_add] at hQM hext
                rw [show (⟨[92, UInt8.ofNat y].toArray⟩ : ByteArray) = (⟨#[92]⟩ : ByteArray) ++ P1 by rw [hP1]; rfl] at hext
                have k34 : ((y : Int) == 34) = false := by simp; omega
                have k92 : ((y : Int) == 92) = true := by simp; omega
                clear HX h34 h92 hpc hP1 hbk HQ
                go_wp2
                go_roundg j
                case measure => omega
                case rel => exact HN.out 2 _ _ _ rfl (by go_num) (by go_num) (HB.out.alloc hsz2 _)
              · obtain ⟨A1, hA1⟩ : ∃ A1, A1 = y / 16 := ⟨_, rfl⟩
                obtain ⟨A2, hA2⟩ : ∃ A2, A2 = y % 16 := ⟨_, rfl⟩
                have hxa := hexd_run A1 (by omega)
                have hxb := hexd_run A2 (by omega)
                have hwq : IntKind.u8.wrap ((y : Int) / 16) = (A1 : Int) := by
                  rw [show ((y : Int) / 16) = (A1 : Int) by omega]
                  exact IntWalk.u8_in _ (by omega)
                have hwr2 : (y : Int) % 16 = (A2 : Int) := by omega
                obtain ⟨P2, hP2⟩ : ∃ P2 : ByteArray, P2 = ⟨#[hexD A1, hexD A2]⟩ := ⟨_, rfl⟩
                have hP2z : P2.size = 2 := by rw [hP2]; rfl
                have hcv2 : (convert 48 9 (.slice (some ⟨wr.heap.size + 1, 0, none⟩) 2 2)).run Tryd.prog (((wr.alloc (.cells #[.int .u8 (y : Int)] 5)).drew).alloc (.cells #[.int .u8 ((hexD A1).toNat : Int), .int .u8 ((hexD A2).toNat : Int)] 5)) =
                    .ok (.string P2) (((wr.alloc (.cells #[.int .u8 (y : Int)] 5)).drew).alloc (.cells #[.int .u8 ((hexD A1).toNat : Int), .int .u8 ((hexD A2).toNat : Int)] 5)) := by
                  rw [hP2]
                  refine two_run _ _ _ _ ?_
                  have h1 := ha_new ((wr.alloc (.cells #[.int .u8 (y : Int)] 5)).drew) (.cells #[.int .u8 ((hexD A1).toNat : Int), .int .u8 ((hexD A2).toNat : Int)] 5)
                  rwa [size_drew, World.size_alloc] at h1
                have hcv3 : (convert 48 9 (.slice (some ⟨wr.heap.size + 1, 0, none⟩) 2 2)).run Tryd.prog (((wr.alloc (.cells #[.int .u8 (y : Int)] 5)).alloc (.cells #[.int .u8 ((hexD A1).toNat : Int), .int .u8 ((hexD A2).toNat : Int)] 5)).drew) =
                    .ok (.string P2) (((wr.alloc (.cells #[.int .u8 (y : Int)] 5)).alloc (.cells #[.int .u8 ((hexD A1).toNat : Int), .int .u8 ((hexD A2).toNat : Int)] 5)).drew) := by
                  rw [hP2]
                  refine two_run _ _ _ _ ?_
                  have h1 := ha_new (wr.alloc (.cells #[.int .u8 (y : Int)] 5)) (.cells #[.int .u8 ((hexD A1).toNat : Int), .int .u8 ((hexD A2).toNat : Int)] 5)
                  rw [World.size_alloc] at h1
                  exact h1
                have hpcs : ¬ (32 ≤ y ∧ y < 127) → quoteB y = 92 :: 120 :: ([hexD A1, hexD A2] ++ [59]) := fun hno => by
                  unfold quoteB
                  rw [if_neg (by omega), if_neg hno, hexL_two y hy256, ← hA1, ← hA2]
                have k34 : ((y : Int) == 34) = false := by simp; omega
                have k92 : ((y : Int) == 92) = false := by simp; omega
                have hcutx : ((⟨#[92, 120]⟩ : ByteArray) ++ P2 ++ (⟨#[59]⟩ : ByteArray)).size = 5 := by rw [ByteArray.size_append, ByteArray.size_append, hP2z]; rfl
                have HA := Lib.hid (And.intro hA1 hA2)
                generalize (hexD A1).toNat = a1 at *
                clear hA1 hA2
                by_cases h32 : y < 32
                · have hpc := hpcs (by omega)
                  rw [hpc] at HX HN
                  obtain ⟨hQM, hext⟩ := HX.out
                  simp only [List.length_cons, List.length_append, List.length_nil, Nat.zero_add] at hQM hext
                  rw [show (⟨(92 :: 120 :: ([hexD A1, hexD A2] ++ [59])).toArray⟩ : ByteArray) = (⟨#[92, 120]⟩ : ByteArray) ++ P2 ++ (⟨#[59]⟩ : ByteArray) by rw [hP2]; rfl] at hext
                  have k32 : (y : Int) < 32 := by omega
                  clear HX h34 h92 hpc hpcs hP1 hbk HQ hP2 h32 hcut92 HA
                  go_upto_region 25 with (fail)
                  go_region
                  all_goals
                    go_wp2
                    go_roundg j
                    case measure => omega
                    case rel => exact HN.out 5 _ _ _ rfl (by go_num) (by go_num) (((HB.out.alloc hsz2 _).alloc (by rw [World.size_alloc]; omega) _).drew)
                · by_cases h126 : 126 < y
                  · have hpc := hpcs (by omega)
                    rw [hpc] at HX HN
                    obtain ⟨hQM, hext⟩ := HX.out
                    simp only [List.length_cons, List.length_append, List.length_nil, Nat.zero_add] at hQM hext
                    rw [show (⟨(92 :: 120 :: ([hexD A1, hexD A2] ++ [59])).toArray⟩ : ByteArray) = (⟨#[92, 120]⟩ : ByteArray) ++ P2 ++ (⟨#[59]⟩ : ByteArray) by rw [hP2]; rfl] at hext
                    have k32 : ¬ ((y : Int) < 32) := by omega
                    have k126 : (126 : Int) < y := by omega
                    clear HX h34 h92 hpc hpcs hP1 hbk HQ hP2 h32 h126 hcut92 HA
                    go_upto_region 25 with (fail)
                    go_region
                    all_goals
                      go_wp2
                      go_roundg j
                      case measure => omega
                      case rel => exact HN.out 5 _ _ _ rfl (by go_num) (by go_num) (((HB.out.alloc hsz2 _).alloc (by rw [World.size_alloc]; omega) _).drew)
                  · have hpc : quoteB y = [UInt8.ofNat y] := by
                      unfold quoteB
                      rw [if_neg (by omega), if_pos (by omega)]
                    rw [hpc] at HX HN
                    obtain ⟨hQM, hext⟩ := HX.out
                    simp only [List.length_cons, List.length_nil, Nat.zero_add] at hQM hext
                    rw [← hP1] at hext
                    have k34 : ((y : Int) == 34) = false := by simp; omega
                    have k92 : ((y : Int) == 92) = false := by simp; omega
                    have k32 : ¬ ((y : Int) < 32) := by omega
                    have k126 : ¬ ((126 : Int) < y) := by omega
                    clear HX h34 h92 h32 h126 hpc hP1 hbk HQ hcut92
                    go_wp2
                    go_roundg j
                    case measure => omega
                    case rel =>
                      exact HN.out 1 _ _ _ rfl (by go_num) (by go_num) (HB.out.alloc hsz2 _)
theorem texts_all (v : Value) (xs : List Int) (w : World) (hT : Tabs w) (hv : RdBytes w v xs) (hb : ∀ x ∈ xs, 0 ≤ x ∧ x < 256) :
    Calls Tryd.prog 6 #[v] w fun e w' => e = .returned (.bool true) ∧ Below w.heap.size w w' := by
  by_cases h : xs.length ≤ 4096
  · exact texts_any v xs w hT hv h hb
  · exact texts_long v xs w hT hv (by omega)
end Go.Proofs.YtpejmgellidhbaaDoor
