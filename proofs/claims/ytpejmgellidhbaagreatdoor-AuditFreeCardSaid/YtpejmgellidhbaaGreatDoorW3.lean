/-
  (*WaitGroup).Add(1), by the starter, in the company of workers that only read ('AtRel'): to the stop 'AtDisX' (P5), the group's count being v; behind it v + 1. PRINTED BY A PROGRAM (gen_add.py), by the words of the library's walks.
-/
import Derived.Test.YtpejmgellidhbaaGreatDoorW2
set_option linter.all false
set_option linter.unusedSimpArgs false
namespace Go.Proofs.YtpejmgellidhbaaGreatDoor
open Go Go.Proofs Go.Conc Go.ConcN Go.RowKit Go.Conc.Lib Go.ConcR.Gen Go.ConcN.Gen
open Go.ConcR (KK wgBlock WgAt stA smA rd wr mk Payload Aside2 DC0)

/-- What is held of the world: F, and the group's count is v. -/
def FW (F : World → Prop) (ty : TypeId) (Wg v : Nat) (w : World) : Prop := F w ∧ WgAt ty Wg w ((v : Int) * KK) 0

theorem fx_rely {F : World → Prop} {ty : TypeId} {Wg v : Nat} (hFa : ∀ w d, F w → F (w.at d)) {w w₁ : World} (h : FW F ty Wg v w ∧ WgLive ty Wg w) (r : AtRel w w₁) : FW F ty Wg v w₁ ∧ WgLive ty Wg w₁ := by
  obtain ⟨d, rfl⟩ := r
  exact ⟨⟨hFa _ _ h.1.1, h.1.2⟩, h.2⟩

section
variable {L : WgLink} {K : World → Prop} {c : Nat} {z : Value} {h : Nat → Goroutine} {Wg : Nat} {Own Rd : Nat → Loc → Prop} {Low v : Nat} {j : Nat} {Next : Goroutine → World → Prop} {F : World → Prop}
  {b₀ : Frame} {a₀ : Act} {ops₀ : Array Oper} {i₀ : Nat} {rest₀ : List Nat} {k₀ : List Item} {cs : List Frame} {mT : Nat}

set_option maxRecDepth 100000 in
set_option maxHeartbeats 8000000 in
theorem addPosX {P : Program} (H : WgLib P L) (hv : v < 2147483647) (hFa : ∀ w d, F w → F (w.at d)) (hF2 : ∀ w x, F w → F (w.setCell (stA Wg) x))
    (hT : ∀ w, F w → WgAt L.tWg Wg w (((v + 1 : Nat) : Int) * KK) 0 → Goes P true AtRel (DP Wg Own Rd j Low) (AtGoX P Wg Own Rd K c z h j Next) mT (G (b₀.at (a₀.put ((ops₀[i₀]?).bind (·.dst)) (.tuple #[])) (.inRegion ops₀ rest₀ :: k₀)) cs) w)
    (w : World) (hF0 : F w) (hw0 : WgAt L.tWg Wg w ((v : Int) * KK) 0) :
    Goes P true AtRel (DP Wg Own Rd j Low) (AtDisX P Wg Own Rd Low K c z h j Next) 12
      (G ((base L.add).at ⟨#[.pointer (some ⟨Wg, 0, none⟩), .int .i64 1, undef, undef, undef, undef, undef, undef, undef, undef, undef, undef, undef, undef, undef, undef, undef, undef, undef, undef, undef, undef, undef, undef, undef, undef, undef, undef, undef, undef, undef, undef, undef, undef, undef, undef, undef, undef, undef, undef, undef, undef, undef, undef, undef, undef, undef, undef, undef, undef, undef, undef, undef, undef, undef, undef, undef, undef, undef, undef, undef, undef, undef, undef, undef, undef, undef, undef, undef, undef, undef, undef, undef, undef, undef, undef, undef, undef, undef, undef, undef, undef, undef, undef, undef, undef, undef, undef, undef, undef, undef, undef, undef, undef, undef, undef, undef, undef, undef, undef, undef, undef, undef, undef, undef, undef, undef, undef, undef, undef, undef, undef, undef, undef, undef, undef, undef], []⟩ [.code (body_add L)]) (b₀.at a₀ (.inRegion ops₀ (i₀ :: rest₀) :: k₀) :: cs)) w := by
  have hF : FW F L.tWg Wg v w ∧ WgLive L.tWg Wg w := ⟨⟨hF0, hw0⟩, ⟨_, _, hw0⟩⟩
  clear hF0 hw0
  lib_facts
  simp only [body_add, addFn, Option.getD_some]
  u_c stepG_seq (fx_rely hFa) hF
  u_cond true (fx_rely hFa) hF
  u_c stepG_seq (fx_rely hFa) hF
  u_c stepG_seq (fx_rely hFa) hF
  u_reg (fx_rely hFa) hF
  u_op (fx_rely hFa) hF
  u_op (fx_rely hFa) hF
  u_c stepG_region_end (fx_rely hFa) hF
  u_cond false (fx_rely hFa) hF
  u_c stepG_skip (fx_rely hFa) hF
  u_c stepG_seq (fx_rely hFa) hF
  u_reg (fx_rely hFa) hF
  refine Goes.stop (fun w₁ h₁ => ?_)
  replace hF := fx_rely hFa hF h₁
  clear h₁
  refine ⟨rfl, fun dd => ⟨_, stepG_mark0 .disable (by simp) rfl rfl (by k_ne) rfl H.f_disable (x_disable_n L) (x_disable_b L) (x_disable_x L) (x_disable_f L), 40, ?_⟩⟩
  replace hF := fx_rely hFa hF ⟨dd, rfl⟩
  walk_nrm
  u_c stepG_region_end (fx_rely hFa) hF
  u_reg (fx_rely hFa) hF
  u_defer (fx_rely hFa) hF
  u_c stepG_region_end (fx_rely hFa) hF
  u_c stepG_seq (fx_rely hFa) hF
  u_reg (fx_rely hFa) hF
  u_op (fx_rely hFa) hF
  u_c stepG_region_end (fx_rely hFa) hF
  u_c stepG_seq (fx_rely hFa) hF
  u_c stepG_seq (fx_rely hFa) hF
  u_reg (fx_rely hFa) hF
  u_bub (fx_rely hFa) hF
  u_c stepG_region_end (fx_rely hFa) hF
  u_cond false (fx_rely hFa) hF
  u_c stepG_skip (fx_rely hFa) hF
  u_c stepG_seq (fx_rely hFa) hF
  u_reg (fx_rely hFa) hF
  u_op (fx_rely hFa) hF
  u_op (fx_rely hFa) hF
  u_op (fx_rely hFa) hF
  u_op (fx_rely hFa) hF
  u_op (fx_rely hFa) hF
  u_op (fx_rely hFa) hF
  u_call H.f_uAdd (nm_uAdd L) uAddFn (fx_rely hFa) hF
  u_c stepG_seq (fx_rely hFa) hF
  u_reg (fx_rely hFa) hF
  u_op (fx_rely hFa) hF
  u_c stepG_region_end (fx_rely hFa) hF
  u_c stepG_seq (fx_rely hFa) hF
  u_reg (fx_rely hFa) hF
  u_op (fx_rely hFa) hF
  u_op (fx_rely hFa) hF
  u_op (fx_rely hFa) hF
  u_op (fx_rely hFa) hF
  refine Goes.stop (fun w₂ h₂ => ?_)
  replace hF := fx_rely hFa hF h₂
  clear h₂
  refine ⟨rfl, fun dd => ?_⟩
  replace hF := fx_rely hFa hF ⟨dd, rfl⟩
  have hw := hF.1.2
  rcases Nat.eq_zero_or_pos v with rfl | hvp
  · -- THE COUNT IS NOW 1
    replace hw : WgAt L.tWg Wg (w₂.at dd) 0 0 := by simpa using hw
    have e0 : IntKind.u64.wrap (0 + 4294967296) = KK := by decide
    refine ⟨_, .int .u64 KK, (stepG_add_atomic rfl rfl (by k_ne) rfl H.f_addU64 (x_addU64_n L) (x_addU64_b L) (x_addU64_x L) .u64 (x_addU64_f L) rfl rfl hw.cellSt (hw.thaw 0)).trans (by rw [e0]; rfl), 110, ?_⟩
    replace hF : FW F L.tWg Wg 1 ((w₂.at dd).setCell (stA Wg) (.int .u64 KK)) ∧ WgLive L.tWg Wg ((w₂.at dd).setCell (stA Wg) (.int .u64 KK)) := ⟨⟨hF2 _ _ hF.1.1, by simpa using hw.setSt KK⟩, ⟨_, _, hw.setSt _⟩⟩
    clear hw
    simp only [KK] at hF ⊢
    walk_nrm
    u_op (fx_rely hFa) hF
    u_c stepG_region_end (fx_rely hFa) hF
    u_c stepG_ret' (fx_rely hFa) hF
    u_leave1 H.f_uAdd (fx_rely hFa) hF
    u_op (fx_rely hFa) hF
    u_c stepG_region_end (fx_rely hFa) hF
    u_c stepG_seq (fx_rely hFa) hF
    u_c stepG_seq (fx_rely hFa) hF
    u_reg (fx_rely hFa) hF
    u_op (fx_rely hFa) hF
    u_op (fx_rely hFa) hF
    u_op (fx_rely hFa) hF
    u_op (fx_rely hFa) hF
    u_skip (fx_rely hFa) hF
    u_skip (fx_rely hFa) hF
    u_op (fx_rely hFa) hF
    u_c stepG_region_end (fx_rely hFa) hF
    u_cond false (fx_rely hFa) hF
    u_c stepG_skip (fx_rely hFa) hF
    u_c stepG_seq (fx_rely hFa) hF
    u_reg (fx_rely hFa) hF
    u_op (fx_rely hFa) hF
    u_op (fx_rely hFa) hF
    u_op (fx_rely hFa) hF
    u_op (fx_rely hFa) hF
    u_c stepG_region_end (fx_rely hFa) hF
    u_c stepG_seq (fx_rely hFa) hF
    u_reg (fx_rely hFa) hF
    u_op (fx_rely hFa) hF
    u_op (fx_rely hFa) hF
    u_op (fx_rely hFa) hF
    u_op (fx_rely hFa) hF
    u_c stepG_region_end (fx_rely hFa) hF
    u_c stepG_seq (fx_rely hFa) hF
    u_c stepG_seq (fx_rely hFa) hF
    u_reg (fx_rely hFa) hF
    u_op (fx_rely hFa) hF
    u_op (fx_rely hFa) hF
    u_op (fx_rely hFa) hF
    u_op (fx_rely hFa) hF
    u_op (fx_rely hFa) hF
    u_op (fx_rely hFa) hF
    u_op (fx_rely hFa) hF
    u_op (fx_rely hFa) hF
    u_op (fx_rely hFa) hF
    u_op (fx_rely hFa) hF
    u_c stepG_region_end (fx_rely hFa) hF
    u_cond true (fx_rely hFa) hF
    u_reg (fx_rely hFa) hF
    u_op (fx_rely hFa) hF
    u_op (fx_rely hFa) hF
    u_op (fx_rely hFa) hF
    u_conv H.underlying_tPU32 H.room_tU32 (WgLive.cell1 hF.2).choose_spec (fx_rely hFa) hF
    -- 'race.Read(unsafe.Pointer(&wg.sema))'
    u_in (fx_rely hFa) hF
    rw [stepG_markAt .read (by simp) rfl rfl (by k_ne) rfl H.f_raceRead (x_raceRead_n L) (x_raceRead_b L) (x_raceRead_x L) (x_raceRead_f L) (ad := ⟨Wg, 1, none⟩) (by simp [Act.eval])]
    simp only [goes_go]
    refine ⟨⟨fun _ _ => rfl, fun e he => ?_⟩, ?_⟩
    · rw [List.mem_toArray, List.mem_singleton] at he
      subst he
      exact ev0_said_read _ rfl
    walk_nrm
    u_c stepG_region_end (fx_rely hFa) hF
    u_c stepG_seq (fx_rely hFa) hF
    u_c stepG_seq (fx_rely hFa) hF
    u_reg (fx_rely hFa) hF
    u_op (fx_rely hFa) hF
    u_op (fx_rely hFa) hF
    u_c stepG_region_end (fx_rely hFa) hF
    u_cond false (fx_rely hFa) hF
    u_c stepG_skip (fx_rely hFa) hF
    u_c stepG_seq (fx_rely hFa) hF
    u_c stepG_seq (fx_rely hFa) hF
    u_reg (fx_rely hFa) hF
    u_op (fx_rely hFa) hF
    u_op (fx_rely hFa) hF
    u_op (fx_rely hFa) hF
    u_skip (fx_rely hFa) hF
    u_skip (fx_rely hFa) hF
    u_op (fx_rely hFa) hF
    u_op (fx_rely hFa) hF
    u_skip (fx_rely hFa) hF
    u_skip (fx_rely hFa) hF
    u_skip (fx_rely hFa) hF
    u_skip (fx_rely hFa) hF
    u_op (fx_rely hFa) hF
    u_c stepG_region_end (fx_rely hFa) hF
    u_cond false (fx_rely hFa) hF
    u_c stepG_skip (fx_rely hFa) hF
    u_c stepG_seq (fx_rely hFa) hF
    u_c stepG_seq (fx_rely hFa) hF
    u_reg (fx_rely hFa) hF
    u_op (fx_rely hFa) hF
    u_op (fx_rely hFa) hF
    u_op (fx_rely hFa) hF
    u_skip (fx_rely hFa) hF
    u_skip (fx_rely hFa) hF
    u_op (fx_rely hFa) hF
    u_c stepG_region_end (fx_rely hFa) hF
    u_cond true (fx_rely hFa) hF
    u_c stepG_ret' (fx_rely hFa) hF
    refine Goes.stop (fun w₃ h₃ => ?_)
    replace hF := fx_rely hFa hF h₃
    clear h₃
    refine ⟨rfl, fun dd => ⟨_, stepG_unwind_entry (v := .tuple #[]) (evs := #[mk .enable]) rfl H.f_enable (x_enable_n L) (x_enable_b L) (x_enable_x L) (x_enable_f L) (by simp [Extern.Race.none_]) (by simp [mk]) (by simp [mk]), mT + 1, ?_⟩⟩
    replace hF := fx_rely hFa hF ⟨dd, rfl⟩
    u_leave0 H.f_add (fx_rely hFa) hF
    exact hT _ hF.1.1 hF.1.2
  · -- IT IS MORE
    obtain ⟨V, hV⟩ : ∃ V : Int, V = (v : Int) + 1 := ⟨_, rfl⟩
    obtain ⟨S, hS⟩ : ∃ S : Int, S = V * KK := ⟨_, rfl⟩
    have eS : IntKind.u64.wrap ((v : Int) * KK + 4294967296) = S := by rw [IntKind.wrap_u64, hS, hV]; simp only [KK]; omega
    have a1 : S / 4294967296 = V := by rw [hS]; simp only [KK]; omega
    have b1 : bits .and .u64 S 2147483648 = 0 := by rw [hS, hV]; have := st_flag (v + 1) 0 (by omega) (by omega); simpa [KK] using this
    have b2 : bits .and .u64 S 2147483647 = 0 := by rw [hS, hV]; have := st_waiters (v + 1) 0 (by omega) (by omega); simpa [KK] using this
    have c1 : IntKind.i32.wrap V = V := by rw [IntKind.wrap_i32]; omega
    have hV1 : 1 < V := by omega
    have hV2 : V < 2147483648 := by omega
    have q1 : (V == 1) = false := by simp; omega
    have q2 : decide (V = 1) = false := decide_eq_false (by omega)
    have q3 : decide (V < 0) = false := decide_eq_false (by omega)
    have q4 : decide (0 < V) = true := decide_eq_true (by omega)
    have q5 : (V == 0) = false := by simp; omega
    have q6 : decide (V = 0) = false := decide_eq_false (by omega)
    refine ⟨_, .int .u64 S, (stepG_add_atomic rfl rfl (by k_ne) rfl H.f_addU64 (x_addU64_n L) (x_addU64_b L) (x_addU64_x L) .u64 (x_addU64_f L) rfl rfl hw.cellSt (hw.thaw 0)).trans (by rw [eS]; rfl), 110, ?_⟩
    replace hF : FW F L.tWg Wg (v + 1) ((w₂.at dd).setCell (stA Wg) (.int .u64 S)) ∧ WgLive L.tWg Wg ((w₂.at dd).setCell (stA Wg) (.int .u64 S)) := ⟨⟨hF2 _ _ hF.1.1, by have := hw.setSt S; rw [hS, hV] at this ⊢; exact_mod_cast this⟩, ⟨_, _, hw.setSt _⟩⟩
    clear hw hS hV eS
    walk_nrm
    u_op (fx_rely hFa) hF
    u_c stepG_region_end (fx_rely hFa) hF
    u_c stepG_ret' (fx_rely hFa) hF
    u_leave1 H.f_uAdd (fx_rely hFa) hF
    u_op (fx_rely hFa) hF
    u_c stepG_region_end (fx_rely hFa) hF
    u_c stepG_seq (fx_rely hFa) hF
    u_c stepG_seq (fx_rely hFa) hF
    u_reg (fx_rely hFa) hF
    u_op (fx_rely hFa) hF
    u_op (fx_rely hFa) hF
    u_op (fx_rely hFa) hF
    u_op (fx_rely hFa) hF
    u_skip (fx_rely hFa) hF
    u_skip (fx_rely hFa) hF
    u_op (fx_rely hFa) hF
    u_c stepG_region_end (fx_rely hFa) hF
    u_cnd false (fx_rely hFa) hF
    u_c stepG_skip (fx_rely hFa) hF
    u_c stepG_seq (fx_rely hFa) hF
    u_reg (fx_rely hFa) hF
    u_op (fx_rely hFa) hF
    u_op (fx_rely hFa) hF
    u_op (fx_rely hFa) hF
    u_op (fx_rely hFa) hF
    u_c stepG_region_end (fx_rely hFa) hF
    u_c stepG_seq (fx_rely hFa) hF
    u_reg (fx_rely hFa) hF
    u_op (fx_rely hFa) hF
    u_op (fx_rely hFa) hF
    u_op (fx_rely hFa) hF
    u_op (fx_rely hFa) hF
    u_c stepG_region_end (fx_rely hFa) hF
    u_c stepG_seq (fx_rely hFa) hF
    u_c stepG_seq (fx_rely hFa) hF
    u_reg (fx_rely hFa) hF
    u_op (fx_rely hFa) hF
    u_op (fx_rely hFa) hF
    u_op (fx_rely hFa) hF
    u_op (fx_rely hFa) hF
    u_op (fx_rely hFa) hF
    u_op (fx_rely hFa) hF
    u_op (fx_rely hFa) hF
    u_op (fx_rely hFa) hF
    u_op (fx_rely hFa) hF
    u_op (fx_rely hFa) hF
    u_c stepG_region_end (fx_rely hFa) hF
    u_cnd false (fx_rely hFa) hF
    u_c stepG_skip (fx_rely hFa) hF
    u_c stepG_seq (fx_rely hFa) hF
    u_c stepG_seq (fx_rely hFa) hF
    u_reg (fx_rely hFa) hF
    u_op (fx_rely hFa) hF
    u_op (fx_rely hFa) hF
    u_c stepG_region_end (fx_rely hFa) hF
    u_cnd false (fx_rely hFa) hF
    u_c stepG_skip (fx_rely hFa) hF
    u_c stepG_seq (fx_rely hFa) hF
    u_c stepG_seq (fx_rely hFa) hF
    u_reg (fx_rely hFa) hF
    u_op (fx_rely hFa) hF
    u_op (fx_rely hFa) hF
    u_op (fx_rely hFa) hF
    u_skip (fx_rely hFa) hF
    u_skip (fx_rely hFa) hF
    u_op (fx_rely hFa) hF
    u_op (fx_rely hFa) hF
    u_skip (fx_rely hFa) hF
    u_skip (fx_rely hFa) hF
    u_skip (fx_rely hFa) hF
    u_skip (fx_rely hFa) hF
    u_op (fx_rely hFa) hF
    u_c stepG_region_end (fx_rely hFa) hF
    u_cnd false (fx_rely hFa) hF
    u_c stepG_skip (fx_rely hFa) hF
    u_c stepG_seq (fx_rely hFa) hF
    u_c stepG_seq (fx_rely hFa) hF
    u_reg (fx_rely hFa) hF
    u_op (fx_rely hFa) hF
    u_op (fx_rely hFa) hF
    u_op (fx_rely hFa) hF
    u_skip (fx_rely hFa) hF
    u_skip (fx_rely hFa) hF
    u_op (fx_rely hFa) hF
    u_c stepG_region_end (fx_rely hFa) hF
    u_cnd true (fx_rely hFa) hF
    u_c stepG_ret' (fx_rely hFa) hF
    refine Goes.stop (fun w₃ h₃ => ?_)
    replace hF := fx_rely hFa hF h₃
    clear h₃
    refine ⟨rfl, fun dd => ⟨_, stepG_unwind_entry (v := .tuple #[]) (evs := #[mk .enable]) rfl H.f_enable (x_enable_n L) (x_enable_b L) (x_enable_x L) (x_enable_f L) (by simp [Extern.Race.none_]) (by simp [mk]) (by simp [mk]), mT + 1, ?_⟩⟩
    replace hF := fx_rely hFa hF ⟨dd, rfl⟩
    u_leave0 H.f_add (fx_rely hFa) hF
    exact hT _ hF.1.1 hF.1.2
end
end Go.Proofs.YtpejmgellidhbaaGreatDoor
