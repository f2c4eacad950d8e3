/- space.New(1). -/
import Derived.Test.YtpejmgellidhbaaGreatDoorT2
import Derived.Deep.RegionLaw
set_option linter.all false
set_option linter.unusedSimpArgs false
set_option maxRecDepth 10000
namespace Go.Proofs.YtpejmgellidhbaaGreatDoor
open Go Go.RowKit Go.Proofs

abbrev ptr (b : Nat) : Value := .pointer (some ⟨b, 0, none⟩)
/-- The Space's cells when c bitmaps are laid. -/
def fr (N c i : Nat) : Value := if i < c then ptr (N + 9 + 2 * i) else .pointer none
abbrev spC (N c : Nat) : Array Value := #[.slice (some ⟨N + 2, 0, none⟩) 64 64, ptr (N + 1), ptr (N + 7), fr N c 0, fr N c 1, fr N c 2, fr N c 3, fr N c 4, fr N c 5, fr N c 6, fr N c 7, .map (some (N + 3)), .map (some (N + 4)), i0, i0]

/-- The Space of one page, c of its free maps laid. -/
structure SpAt (w0 : World) (N c : Nat) (w : World) : Prop where
  below : Below N w0 w
  size : w.heap.size = N + 8 + 2 * c
  pages : w.heap[N]? = some (.cells #[i0, i0, i0] 95)
  table : w.heap[N + 1]? = some (.cells #[.slice (some ⟨N, 0, none⟩) 1 1, i0, .int .i64 1] 102)
  words : w.heap[N + 2]? = some (.cells zw 3)
  shapes : w.heap[N + 3]? = some (.map #[] 0)
  places : w.heap[N + 4]? = some (.map #[] 0)
  space : w.heap[N + 5]? = some (.cells (spC N c) 67)
  trows : w.heap[N + 6]? = some (.cells #[.int .u64 0] 83)
  taken : w.heap[N + 7]? = some (.cells #[.int .i64 64, .slice (some ⟨N + 6, 0, none⟩) 1 1] 105)
  rows : ∀ i, i < c → w.heap[N + 8 + 2 * i]? = some (.cells #[.int .u64 0] 83)
  free : ∀ i, i < c → w.heap[N + 9 + 2 * i]? = some (.cells #[.int .i64 64, .slice (some ⟨N + 8 + 2 * i, 0, none⟩) 1 1] 105)

theorem SpAt.step {w0 w : World} {N c : Nat} (h : SpAt w0 N c w) (hN : w0.heap.size = N) (hc : c < 8) :
    SpAt w0 N (c + 1) (((w.alloc (.cells #[.int .u64 0] 83)).alloc (.cells #[.int .i64 64, .slice (some ⟨N + 8 + 2 * c, 0, none⟩) 1 1] 105)).setCell ⟨N + 5, 3 + c, none⟩ (.pointer (some ⟨N + 8 + 2 * c + 1, 0, none⟩))).drew := by
  have hs := h.size
  have old : ∀ {b : Nat} {o : Obj}, b ≠ N + 5 → w.heap[b]? = some o → (((w.alloc (.cells #[.int .u64 0] 83)).alloc (.cells #[.int .i64 64, .slice (some ⟨N + 8 + 2 * c, 0, none⟩) 1 1] 105)).setCell ⟨N + 5, 3 + c, none⟩ (.pointer (some ⟨N + 8 + 2 * c + 1, 0, none⟩))).drew.heap[b]? = some o :=
    fun hb ho => hs_ne (w := (w.alloc _).alloc _) hb (ha_old (ha_old ho))
  refine ⟨?_, ?_, old (by omega) h.pages, old (by omega) h.table, old (by omega) h.words, old (by omega) h.shapes, old (by omega) h.places, ?_, old (by omega) h.trows, old (by omega) h.taken, ?_, ?_⟩
  · exact (((h.below.alloc (by omega) _).alloc (by simp; omega) _).setCell (by simp) _).drew
  · simp; omega
  · have := hs_same (i := 3 + c) (v := .pointer (some ⟨N + 8 + 2 * c + 1, 0, none⟩)) (ha_old (x := .cells #[.int .i64 64, .slice (some ⟨N + 8 + 2 * c, 0, none⟩) 1 1] 105) (ha_old (x := .cells #[.int .u64 0] 83) h.space))
    refine Eq.trans this ?_
    have : c = 0 ∨ c = 1 ∨ c = 2 ∨ c = 3 ∨ c = 4 ∨ c = 5 ∨ c = 6 ∨ c = 7 := by omega
    rcases this with rfl | rfl | rfl | rfl | rfl | rfl | rfl | rfl <;> simp [fr]
  · intro i hi
    rcases Nat.lt_or_ge i c with hlt | hge
    · exact old (by omega) (h.rows i hlt)
    · obtain rfl : i = c := by omega
      refine hs_ne (w := (w.alloc _).alloc _) (by simp; omega) (ha_old ?_)
      rw [← hs]
      exact ha_new w _
  · intro i hi
    rcases Nat.lt_or_ge i c with hlt | hge
    · exact old (by omega) (h.free i hlt)
    · obtain rfl : i = c := by omega
      refine hs_ne (w := (w.alloc _).alloc _) (by simp; omega) ?_
      have e : N + 9 + 2 * i = (w.alloc (.cells #[.int .u64 0] 83)).heap.size := by simp; omega
      rw [e]
      exact ha_new _ _

theorem SpAt.start (w : World) (N : Nat) (hN : N = w.heap.size) {W : World}
    (hW : (((((((w.alloc (.cells #[i0, i0, i0] 95)).alloc (.cells #[.slice (some ⟨N, 0, none⟩) 1 1, i0, .int .i64 1] 102)).alloc (.cells zw 3)).alloc (.map #[] 0)).alloc (.map #[] 0)).alloc (.cells (spC N 0) 67)).alloc (.cells #[.int .u64 0] 83)).alloc (.cells #[.int .i64 64, .slice (some ⟨N + 6, 0, none⟩) 1 1] 105) = W) :
    SpAt w N 0 W := by
  have nw : ∀ (x : World) (o : Obj) (b : Nat), b = x.heap.size → (x.alloc o).heap[b]? = some o := fun x o b e => by rw [e]; exact ha_new x o
  subst hW
  refine ⟨?_, ?_, ?_, ?_, ?_, ?_, ?_, ?_, ?_, ?_, fun i hi => by omega, fun i hi => by omega⟩
  · exact (((((((((Below.refl N w).alloc (by omega) _).alloc (by simp; omega) _).alloc (by simp; omega) _).alloc (by simp; omega) _).alloc (by simp; omega) _).alloc (by simp; omega) _).alloc (by simp; omega) _).alloc (by simp; omega) _)
  · simp; omega
  · exact ha_old (ha_old (ha_old (ha_old (ha_old (ha_old (ha_old (nw _ _ _ hN)))))))
  · exact ha_old (ha_old (ha_old (ha_old (ha_old (ha_old (nw _ _ _ (by simp; omega)))))))
  · exact ha_old (ha_old (ha_old (ha_old (ha_old (nw _ _ _ (by simp; omega))))))
  · exact ha_old (ha_old (ha_old (ha_old (nw _ _ _ (by simp; omega)))))
  · exact ha_old (ha_old (ha_old (nw _ _ _ (by simp; omega))))
  · exact ha_old (ha_old (nw _ _ _ (by simp; omega)))
  · exact ha_old (nw _ _ _ (by simp; omega))
  · exact nw _ _ _ (by simp; omega)

theorem mk_map62 (w : World) : (Instr.makeMap 62 none).run Tryz.prog w = .ok (.map (some w.heap.size)) (w.alloc (.map #[] 0)) := by kernel_rfl
theorem mk_map63 (w : World) : (Instr.makeMap 63 none).run Tryz.prog w = .ok (.map (some w.heap.size)) (w.alloc (.map #[] 0)) := by kernel_rfl
set_option maxHeartbeats 4000000 in
theorem spaceNew (w : World) : Calls Tryz.prog 6 #[.int .i64 1] w fun e w' => e = .returned (.tuple #[ptr (w.heap.size + 5), .int .i64 0]) ∧ SpAt w w.heap.size 8 w' := by
  have hm := mk_words
  have hm2 := mk_map62
  have hm3 := mk_map63
  go_enter Tryz.func6, Tryz.ntmps6
  go_wp2_with (first
    | (go_at_call 17; refine (pagesNew _).mono ?_; rintro e w' ⟨rfl, rfl⟩)
    | (go_at_call 18; refine (bitmapNew _).mono ?_; rintro e w' ⟨rfl, rfl⟩))
  generalize hW0 : World.alloc (World.alloc (World.alloc (World.alloc (World.alloc (World.alloc (World.alloc (World.alloc w _) _) _) _) _) _) _) _ = W0
  obtain ⟨N, hN⟩ : ∃ N, N = w.heap.size := ⟨_, rfl⟩
  rw [← hN] at hW0 ⊢
  simp only [Nat.add_assoc, Nat.reduceAdd] at hW0 ⊢
  have h0 : SpAt w N 0 W0 := SpAt.start w N hN hW0
  clear hW0
  have HN := hid hN
  clear hN
  go_loopw [36] (fun iv wr => ∃ c : Nat, c ≤ 8 ∧ iv = .int .i64 c ∧ SpAt w N c wr) (fun iv _ => 8 - (intOf iv).toNat)
  case atStart => exact ⟨0, by omega, rfl, h0⟩
  case round =>
    obtain ⟨c, hc, rfl, hs⟩ := hrel
    have c0 : wr.cell? ⟨N + 5, 0, none⟩ = some (.slice (some ⟨N + 2, 0, none⟩) 64 64) := bc hs.space 0
    have hsz := hs.size
    by_cases hlt : c < 8
    · have cst : wr.cell? ⟨N + 5, 3 + c, none⟩ = some (.pointer none) := by
        rw [bc hs.space]
        have : c = 0 ∨ c = 1 ∨ c = 2 ∨ c = 3 ∨ c = 4 ∨ c = 5 ∨ c = 6 ∨ c = 7 := by omega
        rcases this with rfl | rfl | rfl | rfl | rfl | rfl | rfl | rfl <;> simp [fr]
      have fst := bf hs.space (3 + c)
      have lN : N + 5 < wr.heap.size := by omega
      have hcw : ∀ x, (wr.alloc x).cell? ⟨N + 5, 3 + c, none⟩ = some (.pointer none) := fun x => (World.cell?_alloc_lt wr x _ lN).trans cst
      have c0d : wr.drew.cell? ⟨N + 5, 0, none⟩ = some (.slice (some ⟨N + 2, 0, none⟩) 64 64) := c0
      have cstd : wr.drew.cell? ⟨N + 5, 3 + c, none⟩ = some (.pointer none) := cst
      have fstd : wr.drew.frozen? ⟨N + 5, 3 + c, none⟩ = false := fst
      have lNd : N + 5 < wr.drew.heap.size := lN
      have hcw2 : ∀ x y, ((wr.alloc x).alloc y).drew.cell? ⟨N + 5, 3 + c, none⟩ = some (.pointer none) := fun x y => (World.cell?_alloc_lt (wr.alloc x) y _ (by simp; omega)).trans (hcw x)
      have hfw2 : ∀ x y, ((wr.alloc x).alloc y).drew.frozen? ⟨N + 5, 3 + c, none⟩ = false := fun x y => ((World.frozen?_alloc_old (wr.alloc x) y _ (by simp; omega)).trans (World.frozen?_alloc_old wr x _ (by simp; omega))).trans fst
      have H := hid hs
      clear hs
      go_wp2
      go_region_law (go_simp; go_at_call 18; refine (bitmapNew _).mono ?_; rintro e w2 ⟨rfl, rfl⟩)
      go_wp2
      refine ⟨⟨c + 1, by omega, by go_num, ?_⟩, by simp [intOf]; omega⟩
      exact H.out.step HN.out.symm hlt
    · obtain rfl : c = 8 := by omega
      go_wp2
      go_ret2
      exact ⟨by rw [HN.out]; rfl, by rw [← HN.out]; exact hs⟩
end Go.Proofs.YtpejmgellidhbaaGreatDoor
