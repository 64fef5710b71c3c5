/- laws.FnExactCheck answers true, at every line, plan that can be read. No condition. (The walk; the row stands in a text behind.) -/
import Derived.Test.YthhkbfjolmgloaaSpecCheck
import Derived.Test.YthhkbfjolmgloaaImplCheck
import Derived.Test.YthhkbfjolmgloaaLp5
import Derived.Test.YthhkbfjolmgloaaEq
import Derived.Test.YthhkbfjolmgloaaPlans
import Derived.Test.YthhkbfjolmgloaaLawLineOk
import Derived.Deep.RegionHeld3
import Derived.Deep.DeepCutAuto
namespace Go.Proofs.Ythhkbfjolmgloaa
open Go.RowKit
set_option linter.unusedVariables false
set_option linter.unusedSimpArgs false
set_option maxRecDepth 100000 in
set_option maxHeartbeats 8000000 in
theorem lawExactCheck_any {w : World} {l : Line} {p : List (List Int)} {u v : Value} (hl : IsLine w l u) (R : l.Room) (hp : IsPlan w p v) (hpn : p.length ≤ 9223372036854775807) (hpl : ∀ (i : Nat) (t : List Int), p[i]? = some t → t.length ≤ 9223372036854775807) :
    Calls Try.prog 9 #[u, v] w fun e w' => e = .returned (.bool true) ∧ Ext w w' := by
  have HL := Lib.hid (fun (W : World) (e : Ext w W) => hl.ext e)
  have HP := Lib.hid (fun (W : World) (e : Ext w W) => hp.ext e)
  obtain ⟨A0, c0, A2, c2, rfl, h0, h2⟩ := hl
  obtain ⟨A3, c3, rfl, h3⟩ := hp
  clear h0 h2 h3
  by_cases hs : l.size ≤ 1048576
  · have hc : cut 1048576 l.size = 1048576 - l.size := cut_ok (by omega)
    have S := Line.small_of hs
    have hc0 : (0 : Int) ≤ 1048576 - l.size := by omega
    by_cases hq : (1048576 - l.size : Int) < planSize p
    · have hd : cut (1048576 - l.size) (planSize p) = -1 := cut_neg hq
      go_enter Try.func9, Try.ntmps9
      go_wp2_with fail
      refine (szLine_any (HL.out _ (by repeat (first | (with_reducible assumption) | (with_reducible exact Ext.refl _) | apply Ext.alloc | apply Ext.drewN | apply Ext.drew))) R _ (by omega) (by omega)).mono ?_
      rintro e w1 ⟨rfl, hE⟩
      have hS := (Lp.start2 w _ _ _ _).trans hE; clear hE
      obtain ⟨k1, k2, k3, k4, k5, k6⟩ := hS.open2
      rw [hc]
      go_wp2_with fail
      refine (szPlan_any (HP.out _ (by repeat (first | (with_reducible exact hS.ext) | (with_reducible assumption) | (with_reducible exact Ext.refl _) | with_reducible apply Ext.alloc | with_reducible apply Ext.drewN | with_reducible apply Ext.drew | with_reducible refine Ext.setCell ?_ (by simp only []; omega) _))) hpn hpl _ hc0 (by omega)).mono ?_
      rintro e w2 ⟨rfl, hE⟩
      rw [hd]
      go_wp2_with fail
      go_ret
      exact ⟨rfl, hS.ext.trans hE⟩
    · have hd : cut (1048576 - l.size) (planSize p) = 1048576 - l.size - planSize p := cut_ok hq
      have hd0 : (0 : Int) ≤ 1048576 - l.size - planSize p := by omega
      have hpn' : p.length ≤ 1048576 := by unfold planSize at hq; omega
      have hpl' : ∀ (i : Nat) (t : List Int), p[i]? = some t → t.length ≤ 1048576 := fun i t ht => by have := rowsN_le ht; unfold planSize at hq; omega
      have HPL := Lib.hid hpl'; clear hpl'

      generalize hcl : checkA l p = cl
      obtain ⟨ca, cb, cc, cd⟩ := cl
      have HC := Lib.hid hcl; clear hcl

      go_enter Try.func9, Try.ntmps9
      go_wp2_with fail
      refine (szLine_any (HL.out _ (by repeat (first | (with_reducible assumption) | (with_reducible exact Ext.refl _) | apply Ext.alloc | apply Ext.drewN | apply Ext.drew))) R _ (by omega) (by omega)).mono ?_
      rintro e w1 ⟨rfl, hE⟩
      have hS := (Lp.start2 w _ _ _ _).trans hE; clear hE
      obtain ⟨k1, k2, k3, k4, k5, k6⟩ := hS.open2
      rw [hc]
      go_wp2_with fail
      refine (szPlan_any (HP.out _ (by repeat (first | (with_reducible exact hS.ext) | (with_reducible assumption) | (with_reducible exact Ext.refl _) | with_reducible apply Ext.alloc | with_reducible apply Ext.drewN | with_reducible apply Ext.drew | with_reducible refine Ext.setCell ?_ (by simp only []; omega) _))) hpn hpl _ hc0 (by omega)).mono ?_
      rintro e w2 ⟨rfl, hE⟩
      rw [hd]
      have hT := hS.trans hE; clear hE hS k1 k2 k3 k4 k5 k6
      have hS := hT; clear hT
      obtain ⟨k1, k2, k3, k4, k5, k6⟩ := hS.open2
      go_upto_region 8 with fail
      go_cut [6] (fun s wx => ∃ g6 : Nat, s = .pointer (some ⟨g6, 0, none⟩) ∧ Lp w wx ((g6, #[.int .i64 ca, .int .i64 cb, .int .i64 cc, .int .i64 cd], 48) :: [(w.heap.size + 1, #[.slice A3 p.length c3], 55), (w.heap.size, #[.slice A0 l.tracks.length c0, .int .i64 l.gap, .slice A2 l.trains.length c2], 26)]))
      case first =>
        clear k1 k2 k3 k4 k5 k6
        have hwl : w.heap.size + 1 < w2.heap.size := hS.open2.2.2.2.1
        go_region_held3 (fun W => Lp w W [(w.heap.size + 1, #[.slice A3 p.length c3], 55), (w.heap.size, #[.slice A0 l.tracks.length c0, .int .i64 l.gap, .slice A2 l.trains.length c2], 26)] ∧ (∀ j, W.cell? ⟨w.heap.size + 1, j, none⟩ = (#[.slice A3 p.length c3] : Array Value)[j]?) ∧ w.heap.size + 1 < W.heap.size ∧ (∀ j, W.cell? ⟨w.heap.size, j, none⟩ = (#[.slice A0 l.tracks.length c0, .int .i64 l.gap, .slice A2 l.trains.length c2] : Array Value)[j]?) ∧ w.heap.size < W.heap.size) (first | assumption | exact openS2 hS.drew | exact openS2 (Lp.trans (And.left (by assumption)) (by assumption)) | exact openS2 (Lp.alloc (And.left (by assumption)) _) | exact openS2 (Lp.alloc hT5 _) | exact openS2 (Lp.store4 hT5 bx (by omega) (by omega) (by omega)).tail) (first  | (go_at_call 23; have hX := Lp.ext (And.left (by assumption : Lp w _ _ ∧ _)); with_reducible refine (toLine_any (HL.out _ hX) S).mono ?_; rintro e w3 ⟨u3, rfl, hU3, hE3⟩; have HU3 := Lib.hid hU3.rd; clear hU3; (first | have hX43 : Ext w4 w3 := Ext.trans (by repeat (first | (with_reducible assumption) | (with_reducible exact Ext.refl _) | apply Ext.alloc | apply Ext.drewN | apply Ext.drew)) hE3 | skip); have hL3 := Lp.trans (And.left (by assumption : Lp w _ _ ∧ _)) hE3; have hg3 := hL3.open2.2.2.2.1; (first | have bx := hE3.box bx | have bx := hE3.box (g := w2.heap.size) (box_new_drew w2 _) | have bx := hE3.box (g := w2.heap.size) (box_new w2 _) | have bx := hE3.box (g := w4.heap.size) (box_new w4 _) | skip))  | (go_at_call 40; have hX := Lp.ext (And.left (by assumption : Lp w _ _ ∧ _)); with_reducible refine (toPlan_any (HP.out _ hX) hpn' HPL.out).mono ?_; rintro e w4 ⟨u4, rfl, hU4, hE4⟩; have HU4 := Lib.hid hU4.rd; clear hU4; (first | have hX34 : Ext w3 w4 := Ext.trans (by repeat (first | (with_reducible assumption) | (with_reducible exact Ext.refl _) | apply Ext.alloc | apply Ext.drewN | apply Ext.drew)) hE4 | skip); have hL4 := Lp.trans (And.left (by assumption : Lp w _ _ ∧ _)) hE4; have hg4 := hL4.open2.2.2.2.1; (first | have bx := hE4.box bx | have bx := hE4.box (g := w2.heap.size) (box_new_drew w2 _) | have bx := hE4.box (g := w2.heap.size) (box_new w2 _) | have bx := hE4.box (g := w3.heap.size) (box_new w3 _) | skip))  | (go_at_call 43; have hL := And.left (by assumption : Lp w _ _ ∧ _); refine (spec_Check_any (HU3.out.ext (by repeat (first | (with_reducible assumption) | (with_reducible exact Ext.refl _) | apply Ext.alloc | apply Ext.drewN | apply Ext.drew))) (HU4.out.ext (by repeat (first | (with_reducible assumption) | (with_reducible exact Ext.refl _) | apply Ext.alloc | apply Ext.drewN | apply Ext.drew))) hs hpn' HPL.out).mono ?_; rw [HC.out]; rintro e w5 ⟨rfl, hE5⟩; simp only [clV]; have hT5 := Lp.trans hL hE5; (first | have bx := hE5.box bx | have bx := hE5.box (g := w3.heap.size) (box_new w3 _) | have bx := hE5.box (g := w4.heap.size) (box_new w4 _) | skip); (first | (have q1 := box_cell bx; have q2 := box_lt bx; have q3 := box_frozen bx) | skip)))
        all_goals
          go_wp2_with fail
          go_meet
          first | exact ⟨_, rfl, hT5.newAt _ _ rfl⟩ | exact ⟨_, rfl, Lp.store4 hT5 bx (by omega) (by omega) (by omega)⟩
      case rest =>
        obtain ⟨g6, rfl, hcut'⟩ := hcut
        clear k1 k2 k3 k4 k5 k6 hS
        have hS := hcut'; clear hcut'
        obtain ⟨k1, k2, k3, k4, k5, k6, k7, k8⟩ := hS.open3
        go_wp2_with fail
        refine (toLine_any (HL.out _ (by repeat (first | (with_reducible exact hS.ext) | (with_reducible assumption) | (with_reducible exact Ext.refl _) | with_reducible apply Ext.alloc | with_reducible apply Ext.drewN | with_reducible apply Ext.drew | with_reducible refine Ext.setCell ?_ (by simp only []; omega) _))) S).mono ?_
        rintro e w6 ⟨u6, rfl, hU, hE⟩
        have HU6 := Lib.hid hU.rd
        obtain ⟨g0, g2, rfl⟩ := hU.form
        have hT := hS.trans hE
        clear k1 k2 k3 k4 k5 k6 k7 k8
        clear hE hU hS
        have hS := hT; clear hT
        obtain ⟨k1, k2, k3, k4, k5, k6, k7, k8⟩ := hS.open3
        go_wp2_with fail
        refine (toPlan_any (HP.out _ (by repeat (first | (with_reducible exact hS.ext) | (with_reducible assumption) | (with_reducible exact Ext.refl _) | with_reducible apply Ext.alloc | with_reducible apply Ext.drewN | with_reducible apply Ext.drew | with_reducible refine Ext.setCell ?_ (by simp only []; omega) _))) hpn' HPL.out).mono ?_
        rintro e w7 ⟨u7, rfl, hU, hE⟩
        have HU7 := Lib.hid hU.rd
        obtain ⟨g3, rfl, _⟩ := hU
        have hT := (hS.newAt #[.slice (some ⟨g0, 0, none⟩) l.tracks.length l.tracks.length, .int .i64 l.gap, .slice (some ⟨g2, 0, none⟩) l.trains.length l.trains.length] 33 rfl).trans hE
        have HU67 := Lib.hid ((HU6.out.ext ((Ext.refl _).alloc _)).ext hE)
        clear k1 k2 k3 k4 k5 k6 k7 k8
        clear hE HU6 hS
        have hS := hT; clear hT
        obtain ⟨k1, k2, k3, k4, k5, k6, k7, k8, k9, k10⟩ := hS.open4
        go_wp2_with fail
        refine (impl_Check_any (HU67.out.ext (by repeat (first | (with_reducible assumption) | (with_reducible exact Ext.refl _) | apply Ext.alloc | apply Ext.drewN | apply Ext.drew))) (HU7.out.ext (by repeat (first | (with_reducible assumption) | (with_reducible exact Ext.refl _) | apply Ext.alloc | apply Ext.drewN | apply Ext.drew))) hs hpn' HPL.out).mono ?_
        rw [HC.out]
        rintro e w8 ⟨rfl, hE⟩
        have hT := (hS.newAt #[.slice (some ⟨g3, 0, none⟩) p.length p.length] 42 rfl).trans hE
        have HL8 := Lib.hid ((HU67.out.ext ((Ext.refl _).alloc _)).ext hE)
        have HP8 := Lib.hid ((HU7.out.ext ((Ext.refl _).alloc _)).ext hE)
        clear k1 k2 k3 k4 k5 k6 k7 k8 k9 k10
        clear hE HU67 HU7 hS
        have hS := hT; clear hT
        obtain ⟨k1, k2, k3, k4, k5, k6, k7, k8, k9, k10, k11, k12⟩ := hS.open5
        simp only [clV]
        go_wp2_with fail
        refine (eqClash_same ca cb cc cd _).mono ?_
        rintro e w9 ⟨rfl, hE⟩
        have hX9 : Ext w8 w9 := Ext.trans (by repeat (first | (with_reducible assumption) | (with_reducible exact Ext.refl _) | apply Ext.alloc | apply Ext.drewN | apply Ext.drew)) hE
        have hT := (hS.alloc _).trans hE
        have HL9 := Lib.hid (HL8.out.ext hX9)
        have HP9 := Lib.hid (HP8.out.ext hX9)
        clear k1 k2 k3 k4 k5 k6 k7 k8 k9 k10 k11 k12
        clear hE hX9 HL8 HP8 hS
        have hS := hT; clear hT
        obtain ⟨k1, k2, k3, k4, k5, k6, k7, k8, k9, k10, k11, k12⟩ := hS.open5
        go_upto_region 14 with fail
        go_cut [40] (fun s wx => s = .bool false ∧ Ext w9 wx)
        case first =>
          go_region_with (first  | (go_at_call 23; refine (toLine_any (HL.out _ (by repeat (first | (with_reducible exact hS.ext) | (with_reducible assumption) | (with_reducible exact Ext.refl _) | with_reducible apply Ext.alloc | with_reducible apply Ext.drewN | with_reducible apply Ext.drew | with_reducible refine Ext.setCell ?_ (by simp only []; omega) _))) S).mono ?_; rintro e wa ⟨ua, rfl, hUa, hEa⟩; have hXa : Ext w9 wa := Ext.trans (by repeat (first | (with_reducible assumption) | (with_reducible exact Ext.refl _) | apply Ext.alloc | apply Ext.drewN | apply Ext.drew)) hEa; have hT := hS.trans hXa; obtain ⟨m1, m2, m3, m4, m5, m6, m7, m8, m9, m10, m11, m12⟩ := hT.open5; have HUa := Lib.hid hUa.rd; clear hUa)  | (go_at_call 26; refine (eqLine_same (HL9.out.ext hXa) HUa.out R).mono ?_; rintro e wb ⟨rfl, hEb⟩))
          all_goals
            go_wp2_with fail
            go_meet
            exact ⟨rfl, hXa.trans hEb⟩
        case rest =>
          obtain ⟨rfl, hXb⟩ := hcut
          have HPb := Lib.hid (HP9.out.ext hXb)
          have hTb := hS.trans hXb
          clear k1 k2 k3 k4 k5 k6 k7 k8 k9 k10 k11 k12 hS
          have hS := hTb; clear hTb
          obtain ⟨k1, k2, k3, k4, k5, k6, k7, k8, k9, k10, k11, k12⟩ := hS.open5
          go_upto_region 16 with fail
          go_cut [45] (fun s wx => s = .bool false ∧ Ext wc wx)
          case first =>
            go_region_with (first  | (go_at_call 40; refine (toPlan_any (HP.out _ (by repeat (first | (with_reducible exact hS.ext) | (with_reducible assumption) | (with_reducible exact Ext.refl _) | with_reducible apply Ext.alloc | with_reducible apply Ext.drewN | with_reducible apply Ext.drew | with_reducible refine Ext.setCell ?_ (by simp only []; omega) _))) hpn' HPL.out).mono ?_; rintro e wd ⟨uc, rfl, hUc, hEc⟩; have hXc : Ext wc wd := Ext.trans (by repeat (first | (with_reducible assumption) | (with_reducible exact Ext.refl _) | apply Ext.alloc | apply Ext.drewN | apply Ext.drew)) hEc; have hT := hS.trans hXc; obtain ⟨m1, m2, m3, m4, m5, m6, m7, m8, m9, m10, m11, m12⟩ := hT.open5; have HUc := Lib.hid hUc.rd; clear hUc)  | (go_at_call 42; refine (eqPlan_same (HPb.out.ext hXc) HUc.out hpn hpl).mono ?_; rintro e we ⟨rfl, hEd⟩))
            all_goals
              go_wp2_with fail
              go_meet
              exact ⟨rfl, hXc.trans hEd⟩
          case rest =>
            obtain ⟨rfl, hXd⟩ := hcut
            go_wp2_with fail
            go_ret
            exact ⟨rfl, hS.ext.trans hXd⟩
  · have hc : cut 1048576 l.size = -1 := cut_neg (by omega)
    go_enter Try.func9, Try.ntmps9
    go_wp2_with fail
    refine (szLine_any (HL.out _ (by repeat (first | (with_reducible assumption) | (with_reducible exact Ext.refl _) | apply Ext.alloc | apply Ext.drewN | apply Ext.drew))) R _ (by omega) (by omega)).mono ?_
    rintro e w1 ⟨rfl, hE⟩
    rw [hc]
    go_wp2_with fail
    go_ret
    exact ⟨rfl, Ext.trans (by repeat (first | (with_reducible assumption) | (with_reducible exact Ext.refl _) | apply Ext.alloc | apply Ext.drewN | apply Ext.drew)) hE⟩
end Go.Proofs.Ythhkbfjolmgloaa
