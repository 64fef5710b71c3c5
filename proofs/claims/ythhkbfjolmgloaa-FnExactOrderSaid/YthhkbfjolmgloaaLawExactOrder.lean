/- laws.FnExactOrder answers true, at every line and plan that can be read. No condition. (The walk; the row stands in a text behind.) -/
import Derived.Test.YthhkbfjolmgloaaOrderX
import Derived.Test.YthhkbfjolmgloaaOrderE
import Derived.Test.YthhkbfjolmgloaaHeld
import Derived.Test.YthhkbfjolmgloaaLawKit
import Derived.Test.YthhkbfjolmgloaaLawLineOk
import Derived.Deep.DeepCutAuto
namespace Go.Proofs.Ythhkbfjolmgloaa
open Go.RowKit
set_option linter.unusedVariables false
set_option linter.unusedSimpArgs false
set_option maxRecDepth 100000 in
set_option maxHeartbeats 8000000 in
theorem lawExactOrder_any {w : World} {l : Line} {p : List (List Int)} {u v : Value} (hl : IsLine w l u) (R : l.Room) (hp : IsPlan w p v) (hpn : p.length ≤ 9223372036854775807) (hpl : ∀ (i : Nat) (t : List Int), p[i]? = some t → t.length ≤ 9223372036854775807) :
    Calls Try.prog 12 #[u, v] w fun e w' => e = .returned (.bool true) ∧ Ext w w' := by
  have HL := Lib.hid (fun (W : World) (e : Ext w W) => hl.ext e)
  have HP := Lib.hid (fun (W : World) (e : Ext w W) => hp.ext e)
  obtain ⟨A0, c0, A2, c2, rfl, h0, h2⟩ := hl
  obtain ⟨A3, c3, rfl, h3⟩ := hp
  clear h0 h2 h3
  by_cases hs : l.size ≤ 1048576
  · have hc : cut 1048576 l.size = 1048576 - l.size := cut_ok (by omega)
    have S := Line.small_of hs
    have hc0 : (0 : Int) ≤ 1048576 - l.size := by omega
    by_cases hq : (1048576 - l.size : Int) < planSize p
    · have hd : cut (1048576 - l.size) (planSize p) = -1 := cut_neg hq
      go_enter Try.func12, Try.ntmps12
      go_wp2_with fail
      refine (szLine_any (HL.out _ (by repeat (first | (with_reducible assumption) | (with_reducible exact Ext.refl _) | apply Ext.alloc | apply Ext.drewN | apply Ext.drew))) R _ (by omega) (by omega)).mono ?_
      rintro e w1 ⟨rfl, hE⟩
      have hS := (Lp.start2 w _ _ _ _).trans hE; clear hE
      obtain ⟨k1, k2, k3, k4, k5, k6⟩ := hS.open2
      rw [hc]
      go_wp2_with fail
      refine (szPlan_any (HP.out _ (by repeat (first | (with_reducible exact hS.ext) | (with_reducible assumption) | (with_reducible exact Ext.refl _) | with_reducible apply Ext.alloc | with_reducible apply Ext.drewN | with_reducible apply Ext.drew | with_reducible refine Ext.setCell ?_ (by simp only []; omega) _))) hpn hpl _ hc0 (by omega)).mono ?_
      rintro e w2 ⟨rfl, hE⟩
      rw [hd]
      go_wp2_with fail
      go_ret
      exact ⟨rfl, hS.ext.trans hE⟩
    · have hd : cut (1048576 - l.size) (planSize p) = 1048576 - l.size - planSize p := cut_ok hq
      have hd0 : (0 : Int) ≤ 1048576 - l.size - planSize p := by omega
      have hpn' : p.length ≤ 1048576 := by unfold planSize at hq; omega
      have hpl' : ∀ (i : Nat) (t : List Int), p[i]? = some t → t.length ≤ 1048576 := fun i t ht => by have := rowsN_le ht; unfold planSize at hq; omega
      have HPL := Lib.hid hpl'; clear hpl'
      go_enter Try.func12, Try.ntmps12
      go_wp2_with fail
      refine (szLine_any (HL.out _ (by repeat (first | (with_reducible assumption) | (with_reducible exact Ext.refl _) | apply Ext.alloc | apply Ext.drewN | apply Ext.drew))) R _ (by omega) (by omega)).mono ?_
      rintro e w1 ⟨rfl, hE⟩
      have hS := (Lp.start2 w _ _ _ _).trans hE; clear hE
      obtain ⟨k1, k2, k3, k4, k5, k6⟩ := hS.open2
      rw [hc]
      go_wp2_with fail
      refine (szPlan_any (HP.out _ (by repeat (first | (with_reducible exact hS.ext) | (with_reducible assumption) | (with_reducible exact Ext.refl _) | with_reducible apply Ext.alloc | with_reducible apply Ext.drewN | with_reducible apply Ext.drew | with_reducible refine Ext.setCell ?_ (by simp only []; omega) _))) hpn hpl _ hc0 (by omega)).mono ?_
      rintro e w2 ⟨rfl, hE⟩
      rw [hd]
      have hT := hS.trans hE; clear hE hS k1 k2 k3 k4 k5 k6
      have hS := hT; clear hT
      obtain ⟨k1, k2, k3, k4, k5, k6⟩ := hS.open2
      go_upto_region 8 with fail
      go_cut [6] (fun s wx => ∃ B0 N0, N0 ≤ 5000 ∧ Hid (wx.ownsRow B0 3 1 s N0 (nums (orderA l p))) ∧ Lp w wx [(w.heap.size + 1, #[.slice A3 p.length c3], 55), (w.heap.size, #[.slice A0 l.tracks.length c0, .int .i64 l.gap, .slice A2 l.trains.length c2], 26)])
      case first =>
        go_region_with (first  | (go_at_call 23; refine (toLine_any (HL.out _ (by repeat (first | (with_reducible exact hS.ext) | (with_reducible assumption) | (with_reducible exact Ext.refl _) | with_reducible apply Ext.alloc | with_reducible apply Ext.drewN | with_reducible apply Ext.drew | with_reducible refine Ext.setCell ?_ (by simp only []; omega) _))) S).mono ?_; rintro e w3 ⟨u3, rfl, hU3, hE3⟩; have hT := hS.trans (Ext.trans (by repeat (first | (with_reducible assumption) | (with_reducible exact Ext.refl _) | apply Ext.alloc | apply Ext.drewN | apply Ext.drew)) hE3); obtain ⟨m1, m2, m3, m4, m5, m6⟩ := hT.open2; have HU3 := Lib.hid hU3.rd; clear hU3)  | (go_at_call 40; refine (toPlan_any (HP.out _ (hT.ext.trans (by repeat (first | (with_reducible assumption) | (with_reducible exact Ext.refl _) | apply Ext.alloc | apply Ext.drewN | apply Ext.drew)))) hpn' HPL.out).mono ?_; rintro e w4 ⟨u4, rfl, hU4, hE4⟩; have hX4 : Ext w3 w4 := Ext.trans (by repeat (first | (with_reducible assumption) | (with_reducible exact Ext.refl _) | apply Ext.alloc | apply Ext.drewN | apply Ext.drew)) hE4; have hT4 := hT.trans hX4; obtain ⟨n1, n2, n3, n4, n5, n6⟩ := hT4.open2; have HU4 := Lib.hid hU4.rd; clear hU4)  | (go_at_call 53; refine (spec_Order_any ((HU3.out.ext hX4).ext (by repeat (first | (with_reducible assumption) | (with_reducible exact Ext.refl _) | apply Ext.alloc | apply Ext.drewN | apply Ext.drew))) (HU4.out.ext (by repeat (first | (with_reducible assumption) | (with_reducible exact Ext.refl _) | apply Ext.alloc | apply Ext.drewN | apply Ext.drew))) hs hpn' HPL.out).mono ?_; rintro e w5 ⟨r0, N0, rfl, hN0, hr0, hE5⟩; have hX5 : Ext w4 w5 := Ext.trans (by repeat (first | (with_reducible assumption) | (with_reducible exact Ext.refl _) | apply Ext.alloc | apply Ext.drewN | apply Ext.drew)) hE5; have hT5 := hT4.trans hX5; obtain ⟨q1, q2, q3, q4, q5, q6⟩ := hT5.open2; have HR0 := Lib.hid hr0; clear hr0))
        all_goals
          go_wp2_with fail
          go_meet
          exact ⟨_, N0, hN0, HR0, hT5⟩
      case rest =>
        obtain ⟨B0, N0, hN0, HR0, hcut'⟩ := hcut
        clear k1 k2 k3 k4 k5 k6 hS
        have hS := hcut'; clear hcut'
        obtain ⟨k1, k2, k3, k4, k5, k6⟩ := hS.open2
        have hwc : w.heap.size + 1 < wc.heap.size := k4
        have HB0 := Lib.hid (fun g hg => (World.ownsRow.lt HR0.out g hg).2)
        go_wp2_with fail
        refine (toLine_any (HL.out _ (by repeat (first | (with_reducible exact hS.ext) | (with_reducible assumption) | (with_reducible exact Ext.refl _) | with_reducible apply Ext.alloc | with_reducible apply Ext.drewN | with_reducible apply Ext.drew | with_reducible refine Ext.setCell ?_ (by simp only []; omega) _))) S).mono ?_
        rintro e w6 ⟨u6, rfl, hU, hE⟩
        have HU6 := Lib.hid hU.rd
        have HM6 := Lib.hid hU.mline
        obtain ⟨g0, g2, rfl⟩ := hU.form
        have hT := hS.trans hE
        have HR := Lib.hid (ownsRow_ext HR0.out hE)
        have hle6 := hE.size
        clear k1 k2 k3 k4 k5 k6 HR0
        clear hE hU hS
        have hS := hT; clear hT
        obtain ⟨k1, k2, k3, k4, k5, k6⟩ := hS.open2
        go_wp2_with fail
        have hA6 : Ext w6 (w6.alloc (.cells #[.slice (some ⟨g0, 0, none⟩) l.tracks.length l.tracks.length, .int .i64 l.gap, .slice (some ⟨g2, 0, none⟩) l.trains.length l.trains.length] 33)) := (Ext.refl _).alloc _
        refine (toPlan_any (HP.out _ (by repeat (first | (with_reducible exact hS.ext) | (with_reducible assumption) | (with_reducible exact Ext.refl _) | with_reducible apply Ext.alloc | with_reducible apply Ext.drewN | with_reducible apply Ext.drew | with_reducible refine Ext.setCell ?_ (by simp only []; omega) _))) hpn' HPL.out).mono ?_
        rintro e w7 ⟨u7, rfl, hU, hE⟩
        have HU7 := Lib.hid hU.rd
        have HM7 := Lib.hid hU.mplan
        obtain ⟨g3, rfl, _⟩ := hU
        have hT := (hS.newAt #[.slice (some ⟨g0, 0, none⟩) l.tracks.length l.tracks.length, .int .i64 l.gap, .slice (some ⟨g2, 0, none⟩) l.trains.length l.trains.length] 33 rfl).trans hE
        have hX67 : Ext w6 w7 := hA6.trans hE
        have HU67 := Lib.hid (HU6.out.ext hX67)
        have HM67 := Lib.hid (HM6.out.ext hX67)
        have HR7 := Lib.hid (ownsRow_ext HR.out hX67)
        have hle7 : w6.heap.size + 1 ≤ (w6.alloc (.cells #[.slice (some ⟨g0, 0, none⟩) l.tracks.length l.tracks.length, .int .i64 l.gap, .slice (some ⟨g2, 0, none⟩) l.trains.length l.trains.length] 33)).heap.size := by rw [alloc_size]; omega
        obtain ⟨b7, hb7⟩ : ∃ b7, (w6.alloc (.cells #[.slice (some ⟨g0, 0, none⟩) l.tracks.length l.tracks.length, .int .i64 l.gap, .slice (some ⟨g2, 0, none⟩) l.trains.length l.trains.length] 33)).heap.size = b7 := ⟨_, rfl⟩
        rw [hb7] at HM7 hle7
        have hle8 : b7 ≤ w7.heap.size := by rw [← hb7]; exact hE.size
        clear hb7 hA6 hX67
        clear k1 k2 k3 k4 k5 k6
        clear hE HU6 HM6 HR hS
        have hS := hT; clear hT
        obtain ⟨k1, k2, k3, k4, k5, k6, k7, k8⟩ := hS.open3
        go_wp2_with fail
        have hA7 : Ext w7 (w7.alloc (.cells #[.slice (some ⟨g3, 0, none⟩) p.length p.length] 42)) := (Ext.refl _).alloc _
        refine (impl_Order_any (HU67.out.ext (by repeat (first | (with_reducible assumption) | (with_reducible exact Ext.refl _) | apply Ext.alloc | apply Ext.drewN | apply Ext.drew))) (HU7.out.ext (by repeat (first | (with_reducible assumption) | (with_reducible exact Ext.refl _) | apply Ext.alloc | apply Ext.drewN | apply Ext.drew))) hs hpn' HPL.out).mono ?_
        rintro e w8 ⟨r1, N1, rfl, hN1, hr1, hE⟩
        have hT := (hS.newAt #[.slice (some ⟨g3, 0, none⟩) p.length p.length] 42 rfl).trans hE
        have hX78 : Ext w7 w8 := hA7.trans hE
        have HL8 := Lib.hid (HU67.out.ext hX78)
        have HP8 := Lib.hid (HU7.out.ext hX78)
        have HM8 := Lib.hid (HM67.out.ext hX78)
        have HN8 := Lib.hid (HM7.out.ext hX78)
        have HR8 := Lib.hid (ownsRow_ext HR7.out hX78)
        have HR1 := Lib.hid (ownsRow_mono (base' := w7.heap.size + 1) hr1 (by rw [alloc_size]; exact Nat.le_refl _))
        have HB1 := Lib.hid (fun g hg => (World.ownsRow.lt HR1.out g hg).1)
        clear k1 k2 k3 k4 k5 k6 k7 k8
        clear hE HU67 HU7 HM67 HM7 HR7 hr1 hS hA7 hX78
        have hS := hT; clear hT
        obtain ⟨k1, k2, k3, k4, k5, k6, k7, k8, k9, k10⟩ := hS.open4
        go_wp2_with fail
        refine (eqInts_own HR1.out HR8.out hN1).mono ?_
        rintro e w9 ⟨rfl, hE⟩
        have hT := hS.trans hE
        have HL9 := Lib.hid (HL8.out.ext hE)
        have HP9 := Lib.hid (HP8.out.ext hE)
        have HM9 := Lib.hid (HM8.out.ext hE)
        have HN9 := Lib.hid (HN8.out.ext hE)
        have HR9 := Lib.hid (ownsRow_ext HR8.out hE)
        have HG9 := Lib.hid (ownsRow_ext HR1.out hE)
        clear k1 k2 k3 k4 k5 k6 k7 k8 k9 k10 hS hE HL8 HP8 HM8 HN8 HR8 HR1
        have hS := hT; clear hT
        obtain ⟨k1, k2, k3, k4, k5, k6, k7, k8, k9, k10⟩ := hS.open4
        go_upto_region 14 with fail
        go_cut [44] (fun s wx => s = .bool false ∧ Ext w9 wx)
        case first =>
          go_region_with (first  | (go_at_call 23; refine (toLine_any (HL.out _ (by repeat (first | (with_reducible exact hS.ext) | (with_reducible assumption) | (with_reducible exact Ext.refl _) | with_reducible apply Ext.alloc | with_reducible apply Ext.drewN | with_reducible apply Ext.drew | with_reducible refine Ext.setCell ?_ (by simp only []; omega) _))) S).mono ?_; rintro e wa ⟨ua, rfl, hUa, hEa⟩; have hXa : Ext w9 wa := Ext.trans (by repeat (first | (with_reducible assumption) | (with_reducible exact Ext.refl _) | apply Ext.alloc | apply Ext.drewN | apply Ext.drew)) hEa; have hT := hS.trans hXa; obtain ⟨m1, m2, m3, m4, m5, m6, m7, m8, m9, m10⟩ := hT.open4; have HUa := Lib.hid hUa.rd; clear hUa)  | (go_at_call 26; refine (eqLine_same (HL9.out.ext hXa) HUa.out R).mono ?_; rintro e wb ⟨rfl, hEb⟩))
          all_goals
            go_wp2_with fail
            go_meet
            exact ⟨rfl, hXa.trans hEb⟩
        case rest =>
          obtain ⟨rfl, hXb⟩ := hcut
          have HPb := Lib.hid (HP9.out.ext hXb)
          have HMb := Lib.hid (HM9.out.ext hXb)
          have HNb := Lib.hid (HN9.out.ext hXb)
          have HRb := Lib.hid (ownsRow_ext HR9.out hXb)
          have HGb := Lib.hid (ownsRow_ext HG9.out hXb)
          have hTb := hS.trans hXb
          clear k1 k2 k3 k4 k5 k6 k7 k8 k9 k10 hS hXb HL9 HP9 HM9 HN9 HR9 HG9
          have hS := hTb; clear hTb
          obtain ⟨k1, k2, k3, k4, k5, k6, k7, k8, k9, k10⟩ := hS.open4
          go_upto_region 16 with fail
          go_cut [49] (fun s wx => s = .bool false ∧ Ext wc wx)
          case first =>
            go_region_with (first  | (go_at_call 40; refine (toPlan_any (HP.out _ (by repeat (first | (with_reducible exact hS.ext) | (with_reducible assumption) | (with_reducible exact Ext.refl _) | with_reducible apply Ext.alloc | with_reducible apply Ext.drewN | with_reducible apply Ext.drew | with_reducible refine Ext.setCell ?_ (by simp only []; omega) _))) hpn' HPL.out).mono ?_; rintro e wd ⟨uc, rfl, hUc, hEc⟩; have hXc : Ext wc wd := Ext.trans (by repeat (first | (with_reducible assumption) | (with_reducible exact Ext.refl _) | apply Ext.alloc | apply Ext.drewN | apply Ext.drew)) hEc; have hT := hS.trans hXc; obtain ⟨m1, m2, m3, m4, m5, m6, m7, m8, m9, m10⟩ := hT.open4; have HUc := Lib.hid hUc.rd; clear hUc)  | (go_at_call 42; refine (eqPlan_same (HPb.out.ext hXc) HUc.out hpn hpl).mono ?_; rintro e we ⟨rfl, hEd⟩))
            all_goals
              go_wp2_with fail
              go_meet
              exact ⟨rfl, hXc.trans hEd⟩
          case rest =>
            obtain ⟨rfl, hXd⟩ := hcut
            have HMd := Lib.hid (HMb.out.ext hXd)
            have HNd := Lib.hid (HNb.out.ext hXd)
            have HRd := Lib.hid (ownsRow_ext HRb.out hXd)
            have HGd := Lib.hid (ownsRow_ext HGb.out hXd)
            have hTb := hS.trans hXd
            clear k1 k2 k3 k4 k5 k6 k7 k8 k9 k10 hS hXd HPb HMb HNb HRb HGb
            have hS := hTb; clear hTb
            obtain ⟨k1, k2, k3, k4, k5, k6, k7, k8, k9, k10⟩ := hS.open4
            go_wp2_with fail
            refine (markLine_any HMd.out S 1 (by omega) (by omega)).mono ?_
            rintro e wf ⟨kf, rfl, hk0, hk1, hMk⟩
            have hS2 := hS.marked hMk (by omega) (far4 (by omega) (by omega) (by omega) (by omega))
            have HRf := Lib.hid (ownsRow_marked HRd.out hMk (fun g hg => by have := HB0.out g hg; omega))
            have HGf := Lib.hid (ownsRow_marked HGd.out hMk (fun g hg => by have := HB1.out g hg; omega))
            have HNf := Lib.hid (HNd.out.mk hMk (by simp [lineTypes]))
            clear k1 k2 k3 k4 k5 k6 k7 k8 k9 k10 hS hMk HMd HRd HGd HNd
            have hS := hS2; clear hS2
            obtain ⟨k1, k2, k3, k4, k5, k6, k7, k8, k9, k10⟩ := hS.open4
            go_wp2_with fail
            refine (markPlan_any HNf.out hpn' HPL.out _ hk0 (by omega)).mono ?_
            rintro e wg ⟨kg, rfl, hk2, hk3, hMk⟩
            have hS2 := hS.marked hMk (by omega) (far4 (by omega) (by omega) (by omega) (by omega))
            have HRg := Lib.hid (ownsRow_marked HRf.out hMk (fun g hg => by have := HB0.out g hg; omega))
            have HGg := Lib.hid (ownsRow_marked HGf.out hMk (fun g hg => by have := HB1.out g hg; omega))
            clear k1 k2 k3 k4 k5 k6 k7 k8 k9 k10 hS hMk HRf HGf HNf hk0 hk1
            have hS := hS2; clear hS2
            obtain ⟨k1, k2, k3, k4, k5, k6, k7, k8, k9, k10⟩ := hS.open4
            go_wp2_with fail
            refine (eqInts_own HGg.out HRg.out hN1).mono ?_
            rintro e wh ⟨rfl, hE⟩
            have hS2 := hS.trans hE
            have HRh := Lib.hid (ownsRow_ext HRg.out hE)
            have HGh := Lib.hid (ownsRow_ext HGg.out hE)
            clear k1 k2 k3 k4 k5 k6 k7 k8 k9 k10 hS hE HRg HGg
            have hS := hS2; clear hS2
            obtain ⟨k1, k2, k3, k4, k5, k6, k7, k8, k9, k10⟩ := hS.open4
            go_wp2_with fail
            refine (markInts_seq (mrow_of_owns HGh.out) (by omega) 1 (by omega) (by omega)).mono ?_
            rintro e wi ⟨rfl, hMk, hSeq⟩
            have hS2 := hS.marked hMk (by omega) (far4 (by omega) (by omega) (by omega) (by omega))
            have HRi := Lib.hid (ownsRow_marked HRh.out hMk (fun g hg => by have := HB0.out g hg; omega))
            have HSi := Lib.hid hSeq
            clear k1 k2 k3 k4 k5 k6 k7 k8 k9 k10 hS hMk HRh HGh hSeq
            have hS := hS2; clear hS2
            obtain ⟨k1, k2, k3, k4, k5, k6, k7, k8, k9, k10⟩ := hS.open4
            have hne : ((1 + (N1 : Int)) != (1 + (N1 : Int))) = false := by simp
            go_wp2_with fail
            refine (heldInts_seq HSi.out (by omega) (by omega) (by omega)).mono ?_
            rintro e wj ⟨rfl, hE⟩
            have hS2 := hS.trans hE
            have HRj := Lib.hid (ownsRow_ext HRi.out hE)
            have HSj := Lib.hid (HSi.out.ext hE)
            clear k1 k2 k3 k4 k5 k6 k7 k8 k9 k10 hS hE HRi HSi
            have hS := hS2; clear hS2
            obtain ⟨k1, k2, k3, k4, k5, k6, k7, k8, k9, k10⟩ := hS.open4
            go_upto_region 31 with fail
            go_cut [13] (fun s wx => ∃ B2 N2, N2 ≤ 5000 ∧ Hid (wx.ownsRow B2 3 1 s N2 (nums (orderA l p))) ∧ Ext wj wx)
            case first =>
              go_region_with (first  | (go_at_call 23; refine (toLine_any (HL.out _ (by repeat (first | (with_reducible exact hS.ext) | (with_reducible assumption) | (with_reducible exact Ext.refl _) | with_reducible apply Ext.alloc | with_reducible apply Ext.drewN | with_reducible apply Ext.drew | with_reducible refine Ext.setCell ?_ (by simp only []; omega) _))) S).mono ?_; rintro e wa ⟨u3, rfl, hU3, hE3⟩; have hX3 : Ext wj wa := Ext.trans (by repeat (first | (with_reducible assumption) | (with_reducible exact Ext.refl _) | apply Ext.alloc | apply Ext.drewN | apply Ext.drew)) hE3; have hT := hS.trans hX3; obtain ⟨m1, m2, m3, m4, m5, m6, m7, m8, m9, m10⟩ := hT.open4; have HU3 := Lib.hid hU3.rd; clear hU3)  | (go_at_call 40; refine (toPlan_any (HP.out _ (hT.ext.trans (by repeat (first | (with_reducible assumption) | (with_reducible exact Ext.refl _) | apply Ext.alloc | apply Ext.drewN | apply Ext.drew)))) hpn' HPL.out).mono ?_; rintro e wb ⟨u4, rfl, hU4, hE4⟩; have hX4 : Ext wa wb := Ext.trans (by repeat (first | (with_reducible assumption) | (with_reducible exact Ext.refl _) | apply Ext.alloc | apply Ext.drewN | apply Ext.drew)) hE4; have HU4 := Lib.hid hU4.rd; clear hU4)  | (go_at_call 54; refine (impl_Order_any ((HU3.out.ext hX4).ext (by repeat (first | (with_reducible assumption) | (with_reducible exact Ext.refl _) | apply Ext.alloc | apply Ext.drewN | apply Ext.drew))) (HU4.out.ext (by repeat (first | (with_reducible assumption) | (with_reducible exact Ext.refl _) | apply Ext.alloc | apply Ext.drewN | apply Ext.drew))) hs hpn' HPL.out).mono ?_; rintro e wk ⟨r2, N2, rfl, hN2, hr2, hE5⟩; have hX5 : Ext wb wk := Ext.trans (by repeat (first | (with_reducible assumption) | (with_reducible exact Ext.refl _) | apply Ext.alloc | apply Ext.drewN | apply Ext.drew)) hE5; have HR2 := Lib.hid hr2; clear hr2))
              all_goals
                go_wp2_with fail
                go_meet
                exact ⟨_, N2, hN2, HR2, (hX3.trans hX4).trans hX5⟩
            case rest =>
              obtain ⟨B2, N2, hN2, HR2, hXk⟩ := hcut
              have HRk := Lib.hid (ownsRow_ext HRj.out hXk)
              have HSk := Lib.hid (HSj.out.ext hXk)
              have hS2 := hS.trans hXk
              clear k1 k2 k3 k4 k5 k6 k7 k8 k9 k10 hS hXk HRj HSj
              have hS := hS2; clear hS2
              go_wp2_with fail
              refine (eqInts_own HR2.out HRk.out hN2).mono ?_
              rintro e wl ⟨rfl, hE⟩
              have HSl := Lib.hid (HSk.out.ext hE)
              have hX := hS.ext.trans hE
              clear hS hE HRk HSk HR2
              go_wp2_with fail
              refine (heldInts_seq HSl.out (by omega) (by omega) (by omega)).mono ?_
              rintro e wm ⟨rfl, hE⟩
              have hXm := hX.trans hE
              go_wp2_with fail
              go_ret
              exact ⟨rfl, hXm⟩
  · have hc : cut 1048576 l.size = -1 := cut_neg (by omega)
    go_enter Try.func12, Try.ntmps12
    go_wp2_with fail
    refine (szLine_any (HL.out _ (by repeat (first | (with_reducible assumption) | (with_reducible exact Ext.refl _) | apply Ext.alloc | apply Ext.drewN | apply Ext.drew))) R _ (by omega) (by omega)).mono ?_
    rintro e w1 ⟨rfl, hE⟩
    rw [hc]
    go_wp2_with fail
    go_ret
    exact ⟨rfl, Ext.trans (by repeat (first | (with_reducible assumption) | (with_reducible exact Ext.refl _) | apply Ext.alloc | apply Ext.drewN | apply Ext.drew)) hE⟩
end Go.Proofs.Ythhkbfjolmgloaa
