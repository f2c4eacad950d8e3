/- The method label of show.walk. -/
import Derived.Test.YtpejmgellidhbaaDoorB7
import Derived.Deep.QuietTactic
import Derived.BigQuiet
import Derived.Deep.DeepCutAuto
import Derived.Deep.LoopGhost
namespace Go.Proofs.YtpejmgellidhbaaDoor
open Go.RowKit

set_option maxRecDepth 100000 in
set_option maxHeartbeats 4000000 in
theorem label_any (w0 w : World) (B p m : Nat) (hv ov : Value) (c : Int) (ms : List (Int × Met)) (bs : List Nat) (hW : WalkAt w0 w B p m hv ov c ms bs) (hlen : ms.length ≤ 1000000) :
    Calls Tryd.prog 30 #[.pointer (some ⟨p, 0, none⟩)] w fun e w' => e = .returned (.tuple #[]) ∧ WalkAt w0 w' B p m hv ov c (labelM 0 ms) bs := by
  have hp := hW.own
  have cp2 : w.cell? ⟨p, 2, none⟩ = some ov := bc hp 2
  have hO := hW.order
  obtain ⟨oA, oc, rfl⟩ := ownsRow_slice hO
  have hL : LabelAt w0 w B p m hv (.slice oA ms.length oc) c ms bs 0 (.int .i64 0) (.int .i64 0) := ⟨⟨[], ms, 0, rfl, by simp, by omega, by omega, rfl, hW, rfl, rfl⟩, rfl⟩
  have HW := hid hW
  have HL := hid hL
  clear hp hO hW hL
  go_enter Tryd.func30, Tryd.ntmps30
  go_wp2
  go_loopg [2, 11] ms.length (fun k nv iv w' => k ≤ ms.length ∧ LabelAt w0 w' B p m hv (.slice oA ms.length oc) c ms bs (ms.length - k) nv iv)
  case atStart => exact ⟨Nat.le_refl _, by rw [Nat.sub_self]; exact HL.out⟩
  case round =>
    obtain ⟨hk, ⟨pre, rem, n, hpl, hrl, hn0, hni, hnv, hWk, hlm, hkeys⟩, hiv⟩ := hrel
    subst hnv hiv
    generalize hi : ms.length - gk = i at *
    cases rem with
    | nil =>
      have hk0 : i = ms.length := by simpa using hrl
      subst hk0
      have HF := hid (And.intro hWk hlm)
      clear hWk hlm hkeys hpl hrl hi
      go_wp2
      go_end0
      obtain ⟨hWk, hlm⟩ := HF.out
      rw [← hlm]
      exact ⟨rfl, hWk⟩
    | cons x r =>
      have hil : i < ms.length := by simp only [List.length_cons] at hrl; omega
      have hx : (pre ++ x :: r)[i]? = some (x.1, x.2) := by rw [List.getElem?_append_right (by omega), hpl, Nat.sub_self]; rfl
      obtain ⟨b, hb, hmp⟩ := mapAt_idx _ bs i x.1 x.2 hWk.len hWk.keys hx
      obtain ⟨mrv, mfv, mev, hmb, hnv⟩ := hWk.mets i b _ hb hx
      obtain ⟨es, hmm, hes⟩ := hWk.map
      have hlk : ∀ W, W.heap = wr.heap → (Instr.lookup 67 (.map (some m)) (.int .i64 x.1) false).run Tryd.prog W = .ok (.pointer (some ⟨b, 0, none⟩)) W := fun W hWw => by
        rw [run_lookup67 (w := W) (by rw [hWw]; exact hmm) hes x.1, hmp]
        rfl
      have hlk1 := hlk wr rfl
      have hlk2 := hlk wr.drew rfl
      simp only at hmb hnv
      have cp1 : wr.cell? ⟨p, 1, none⟩ = some (.map (some m)) := bc hWk.own 1
      have hoc : ∃ g, oA = some ⟨g, 0, none⟩ ∧ wr.cell? ⟨g, i, none⟩ = some (.int .i64 x.1) := order_at hWk.order (by rw [List.getElem?_map, hx]; rfl)
      obtain ⟨g, rfl, co⟩ := hoc
      have cb1 : wr.cell? ⟨b, 1, none⟩ = some (.int .i64 x.2.nd.kind) := bc hmb 1
      have cb5 : wr.cell? ⟨b, 5, none⟩ = some (.int .i64 x.2.times) := bc hmb 5
      have cb6 : wr.cell? ⟨b, 6, none⟩ = some (.int .i64 x.2.label) := bc hmb 6
      have fb := bf hmb
      have hW2 := hWk.turn hb hx (setLabel n) rfl 6 (.int .i64 n) (fun _ _ _ => rfl)
      rw [metMod_mid (setLabel n) x r pre hWk.keys] at hW2
      have HF := hid (And.intro hWk (And.intro hW2 (And.intro hlm hkeys)))
      clear hWk hW2 hlm hkeys hlk hmm hes hmb hnv hx hb hmp HL HW
      obtain ⟨k, rfl⟩ : ∃ k, gk = k + 1 := ⟨gk - 1, by omega⟩
      cases hkb : kBox x.2.nd.kind
      all_goals
        go_wp2_with (go_at_call 36; refine (container_any _ _).mono ?_; rintro e w1 ⟨rfl, rfl⟩; rw [hkb])
        all_goals
          go_roundg k
          case measure => omega
          case rel =>
            obtain ⟨hWk, hW2, hlm, hkeys⟩ := HF.out
            have e1 : ms.length - k = i + 1 := by omega
            rw [e1]
            first
            | exact ⟨by omega, label_no (by simp [many, *]; try omega) hpl hrl hn0 hni hWk hlm hkeys, rfl⟩
            | exact ⟨by omega, label_yes (by simp [many, *]; try omega) hpl hrl hn0 hni hW2 hlm hkeys, rfl⟩
end Go.Proofs.YtpejmgellidhbaaDoor
