/- laws.eqLine answers true at equal data. Condition: the rows are of Go length. -/
import Derived.Test.YthhkbfjolmgloaaDoorBase
import Derived.StillTailTactics
namespace Go.Proofs.YthhkbfjolmgloaaDoor
open Go.RowKit
set_option linter.unusedVariables false
set_option linter.unusedSimpArgs false
theorem eqLeg_same (x : Leg) (w : World) : Calls Tryd.prog 64 #[.agg #[.int .i64 x.to, .int .i64 x.run, .int .i64 x.stay], .agg #[.int .i64 x.to, .int .i64 x.run, .int .i64 x.stay]] w fun e w' => e = .returned (.bool true) ∧ Ext w w' := by
  go_enter Tryd.func64, Tryd.ntmps64
  go_wp2
  go_ret
  exact ⟨rfl, (by repeat (first | (with_reducible assumption) | (with_reducible exact Ext.refl _) | apply Ext.alloc | apply Ext.drewN | apply Ext.drew))⟩
set_option maxRecDepth 100000 in
set_option maxHeartbeats 1000000 in
theorem eqLegS_same {w : World} {xs : List Leg} {A B : Option Addr} (c d : Nat) (hA : RdLeg w A xs) (hB : RdLeg w B xs) (hn : xs.length ≤ 9223372036854775807) :
    Calls Tryd.prog 56 #[.slice A xs.length c, .slice B xs.length d] w fun e w' => e = .returned (.bool true) ∧ Ext w w' := by
  go_enter Tryd.func56, Tryd.ntmps56
  go_wp2
  go_loopw [5] (fun j wr => ∃ (jj : Nat), jj ≤ xs.length ∧ j = .int .i64 jj ∧ Ext w wr) (fun j _ => xs.length - (intOf j).toNat)
  case atStart => exact ⟨0, Nat.zero_le _, rfl, (by repeat (first | (with_reducible assumption) | (with_reducible exact Ext.refl _) | apply Ext.alloc | apply Ext.drewN | apply Ext.drew))⟩
  case round =>
    obtain ⟨jj, hjj, rfl, hE0⟩ := hrel
    obtain ⟨hcl, hup⟩ := (Lp.of_ext hE0).open0
    by_cases hlt : jj < xs.length
    · obtain ⟨x, hx⟩ := hid_of_lt hlt
      obtain ⟨b, o, rfl, hb⟩ := hA.base hlt
      obtain ⟨f0, f1, f2⟩ := hA.at_ hx.out
      obtain ⟨b', o', rfl, hb'⟩ := hB.base hlt
      obtain ⟨g0, g1, g2⟩ := hB.at_ hx.out
      go_wp2
      go_still_tail 8, (by kernel_rfl)
      go_wp2_with (go_at_call 64; refine (eqLeg_same x _).mono ?_; rintro e w1 ⟨rfl, hE⟩)
      exact ⟨⟨jj + 1, by omega, by go_num, Ext.trans (by repeat (first | (with_reducible assumption) | (with_reducible exact Ext.refl _) | apply Ext.alloc | apply Ext.drewN | apply Ext.drew)) hE⟩, (by simp [intOf]; omega)⟩
    · go_wp2
      go_ret
      exact ⟨rfl, hE0⟩
set_option maxRecDepth 100000 in
set_option maxHeartbeats 1000000 in
theorem eqIntS_same {w : World} {xs : List Int} {A B : Option Addr} (c d : Nat) (hA : RdInt w A xs) (hB : RdInt w B xs) (hn : xs.length ≤ 9223372036854775807) :
    Calls Tryd.prog 29 #[.slice A xs.length c, .slice B xs.length d] w fun e w' => e = .returned (.bool true) ∧ Ext w w' := by
  go_enter Tryd.func29, Tryd.ntmps29
  go_wp2
  go_loopw [5] (fun j wr => ∃ (jj : Nat), jj ≤ xs.length ∧ j = .int .i64 jj ∧ Ext w wr) (fun j _ => xs.length - (intOf j).toNat)
  case atStart => exact ⟨0, Nat.zero_le _, rfl, (by repeat (first | (with_reducible assumption) | (with_reducible exact Ext.refl _) | apply Ext.alloc | apply Ext.drewN | apply Ext.drew))⟩
  case round =>
    obtain ⟨jj, hjj, rfl, hE0⟩ := hrel
    obtain ⟨hcl, hup⟩ := (Lp.of_ext hE0).open0
    by_cases hlt : jj < xs.length
    · obtain ⟨x, hx⟩ := hid_of_lt hlt
      obtain ⟨b, o, rfl, hb⟩ := hA.base hlt
      obtain ⟨b', o', rfl, hb'⟩ := hB.base hlt
      have f0 := hA.at_ hx.out
      have g0 := hB.at_ hx.out
      go_wp2
      go_quiet (fail)
      go_wp2
      exact ⟨⟨jj + 1, by omega, by go_num, (by repeat (first | (with_reducible assumption) | (with_reducible exact Ext.refl _) | apply Ext.alloc | apply Ext.drewN | apply Ext.drew))⟩, (by simp [intOf]; omega)⟩
    · go_wp2
      go_ret
      exact ⟨rfl, hE0⟩
set_option maxRecDepth 100000 in
set_option maxHeartbeats 1000000 in
theorem eqTrain_same {w : World} {x : Train} {u v : Value} (hu : IsTrain w x u) (hv : IsTrain w x v) (hn : x.legs.length ≤ 9223372036854775807) : Calls Tryd.prog 41 #[u, v] w fun e w' => e = .returned (.bool true) ∧ Ext w w' := by
  obtain ⟨A, c, rfl, hA⟩ := hu
  obtain ⟨B, d, rfl, hB⟩ := hv
  have HA := Lib.hid hA; have HB := Lib.hid hB; clear hA hB
  go_enter Tryd.func41, Tryd.ntmps41
  go_wp2_with (go_at_call 56; refine (eqLegS_same c d (HA.out.ext (by repeat (first | (with_reducible assumption) | (with_reducible exact Ext.refl _) | apply Ext.alloc | apply Ext.drewN | apply Ext.drew))) (HB.out.ext (by repeat (first | (with_reducible assumption) | (with_reducible exact Ext.refl _) | apply Ext.alloc | apply Ext.drewN | apply Ext.drew))) hn).mono ?_; rintro e w1 ⟨rfl, hE⟩)
  go_ret
  exact ⟨rfl, Ext.trans (by repeat (first | (with_reducible assumption) | (with_reducible exact Ext.refl _) | apply Ext.alloc | apply Ext.drewN | apply Ext.drew)) hE⟩
set_option maxRecDepth 100000 in
set_option maxHeartbeats 1000000 in
theorem eqTrainS_same {w : World} {xs : List Train} {A B : Option Addr} (c d : Nat) (hA : RdTrain w A xs) (hB : RdTrain w B xs) (hn : xs.length ≤ 9223372036854775807) (hl : ∀ (i : Nat) (t : Train), xs[i]? = some t → t.legs.length ≤ 9223372036854775807) :
    Calls Tryd.prog 30 #[.slice A xs.length c, .slice B xs.length d] w fun e w' => e = .returned (.bool true) ∧ Ext w w' := by
  go_enter Tryd.func30, Tryd.ntmps30
  go_wp2
  go_loopw [5] (fun j wr => ∃ (jj : Nat), jj ≤ xs.length ∧ j = .int .i64 jj ∧ Ext w wr) (fun j _ => xs.length - (intOf j).toNat)
  case atStart => exact ⟨0, Nat.zero_le _, rfl, (by repeat (first | (with_reducible assumption) | (with_reducible exact Ext.refl _) | apply Ext.alloc | apply Ext.drewN | apply Ext.drew))⟩
  case round =>
    obtain ⟨jj, hjj, rfl, hE0⟩ := hrel
    obtain ⟨hcl, hup⟩ := (Lp.of_ext hE0).open0
    by_cases hlt : jj < xs.length
    · obtain ⟨x, hx⟩ := hid_of_lt hlt
      obtain ⟨b, o, rfl, hb⟩ := hA.base hlt
      obtain ⟨b', o', rfl, hb'⟩ := hB.base hlt
      obtain ⟨e0, e1, e2, e3, A4, c4, e4, hR⟩ := hA.at_ hx.out
      obtain ⟨f0, f1, f2, f3, A5, c5, f4, hR5⟩ := hB.at_ hx.out
      have HI := Lib.hid (fun W (e : Ext w W) => isTrain_mk (c4 := c4) (hR.ext e))
      have HJ := Lib.hid (fun W (e : Ext w W) => isTrain_mk (c4 := c5) (hR5.ext e))
      have hN := hl _ _ hx.out
      go_wp2
      go_still_tail 8, (by kernel_rfl)
      go_wp2_with (go_at_call 41; refine (eqTrain_same (HI.out _ (by repeat (first | (with_reducible assumption) | (with_reducible exact Ext.refl _) | apply Ext.alloc | apply Ext.drewN | apply Ext.drew))) (HJ.out _ (by repeat (first | (with_reducible assumption) | (with_reducible exact Ext.refl _) | apply Ext.alloc | apply Ext.drewN | apply Ext.drew))) hN).mono ?_; rintro e w1 ⟨rfl, hE⟩)
      exact ⟨⟨jj + 1, by omega, by go_num, Ext.trans (by repeat (first | (with_reducible assumption) | (with_reducible exact Ext.refl _) | apply Ext.alloc | apply Ext.drewN | apply Ext.drew)) hE⟩, (by simp [intOf]; omega)⟩
    · go_wp2
      go_ret
      exact ⟨rfl, hE0⟩
set_option maxRecDepth 100000 in
set_option maxHeartbeats 1000000 in
theorem eqLine_same {w : World} {l : Line} {u v : Value} (hu : IsLine w l u) (hv : IsLine w l v) (R : l.Room) : Calls Tryd.prog 16 #[u, v] w fun e w' => e = .returned (.bool true) ∧ Ext w w' := by
  obtain ⟨A0, c0, A2, c2, rfl, hA0, hA2⟩ := hu
  obtain ⟨B0, d0, B2, d2, rfl, hB0, hB2⟩ := hv
  have r1 := R.tracks; have r2 := R.trains
  have HA := Lib.hid hA0; have HB := Lib.hid hB0; have HA2 := Lib.hid hA2; have HB2 := Lib.hid hB2; clear hA0 hB0 hA2 hB2
  go_enter Tryd.func16, Tryd.ntmps16
  go_wp2_with (first  | (go_at_call 29; refine (eqIntS_same c0 d0 (HA.out.ext (by repeat (first | (with_reducible assumption) | (with_reducible exact Ext.refl _) | apply Ext.alloc | apply Ext.drewN | apply Ext.drew))) (HB.out.ext (by repeat (first | (with_reducible assumption) | (with_reducible exact Ext.refl _) | apply Ext.alloc | apply Ext.drewN | apply Ext.drew))) r1).mono ?_; rintro e w1 ⟨rfl, hE⟩; have hS := (Lp.start2 w _ _ _ _).trans hE; obtain ⟨k1, k2, k3, k4, k5, k6⟩ := hS.open2)  | (go_at_call 30; refine (eqTrainS_same c2 d2 (HA2.out.ext hS.ext) (HB2.out.ext hS.ext) r2 R.legs).mono ?_; rintro e w2 ⟨rfl, hE2⟩))
  go_ret
  exact ⟨rfl, hS.ext.trans hE2⟩
end Go.Proofs.YthhkbfjolmgloaaDoor
