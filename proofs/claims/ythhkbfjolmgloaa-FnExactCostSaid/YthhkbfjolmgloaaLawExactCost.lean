/- laws.FnExactCost answers true, at every line, plan that can be read. No condition. (The walk; the row stands in a text behind.) -/
import Derived.Test.YthhkbfjolmgloaaCost
import Derived.Test.YthhkbfjolmgloaaLawLineOk
import Derived.Deep.DeepCutAuto
namespace Go.Proofs.Ythhkbfjolmgloaa
open Go.RowKit
set_option linter.unusedVariables false
set_option linter.unusedSimpArgs false
set_option maxRecDepth 100000 in
set_option maxHeartbeats 8000000 in
theorem lawExactCost_any {w : World} {l : Line} {p : List (List Int)} {u v : Value} (hl : IsLine w l u) (R : l.Room) (hp : IsPlan w p v) (hpn : p.length ≤ 9223372036854775807) (hpl : ∀ (i : Nat) (t : List Int), p[i]? = some t → t.length ≤ 9223372036854775807) :
    Calls Try.prog 10 #[u, v] w fun e w' => e = .returned (.bool true) ∧ Ext w w' := by
  have HL := Lib.hid (fun (W : World) (e : Ext w W) => hl.ext e)
  have HP := Lib.hid (fun (W : World) (e : Ext w W) => hp.ext e)
  obtain ⟨A0, c0, A2, c2, rfl, h0, h2⟩ := hl
  obtain ⟨A3, c3, rfl, h3⟩ := hp
  clear h0 h2 h3
  by_cases hs : l.size ≤ 1048576
  · have hc : cut 1048576 l.size = 1048576 - l.size := cut_ok (by omega)
    have S := Line.small_of hs
    have hc0 : (0 : Int) ≤ 1048576 - l.size := by omega
    by_cases hq : (1048576 - l.size : Int) < planSize p
    · have hd : cut (1048576 - l.size) (planSize p) = -1 := cut_neg hq
      go_enter Try.func10, Try.ntmps10
      go_wp2_with fail
      refine (szLine_any (HL.out _ (by repeat (first | (with_reducible assumption) | (with_reducible exact Ext.refl _) | apply Ext.alloc | apply Ext.drewN | apply Ext.drew))) R _ (by omega) (by omega)).mono ?_
      rintro e w1 ⟨rfl, hE⟩
      have hS := (Lp.start2 w _ _ _ _).trans hE; clear hE
      obtain ⟨k1, k2, k3, k4, k5, k6⟩ := hS.open2
      rw [hc]
      go_wp2_with fail
      refine (szPlan_any (HP.out _ (by repeat (first | (with_reducible exact hS.ext) | (with_reducible assumption) | (with_reducible exact Ext.refl _) | with_reducible apply Ext.alloc | with_reducible apply Ext.drewN | with_reducible apply Ext.drew | with_reducible refine Ext.setCell ?_ (by simp only []; omega) _))) hpn hpl _ hc0 (by omega)).mono ?_
      rintro e w2 ⟨rfl, hE⟩
      rw [hd]
      go_wp2_with fail
      go_ret
      exact ⟨rfl, hS.ext.trans hE⟩
    · have hd : cut (1048576 - l.size) (planSize p) = 1048576 - l.size - planSize p := cut_ok hq
      have hd0 : (0 : Int) ≤ 1048576 - l.size - planSize p := by omega
      have hpn' : p.length ≤ 1048576 := by unfold planSize at hq; omega
      have hpl' : ∀ (i : Nat) (t : List Int), p[i]? = some t → t.length ≤ 1048576 := fun i t ht => by have := rowsN_le ht; unfold planSize at hq; omega
      have HPL := Lib.hid hpl'; clear hpl'

      go_enter Try.func10, Try.ntmps10
      go_wp2_with fail
      refine (szLine_any (HL.out _ (by repeat (first | (with_reducible assumption) | (with_reducible exact Ext.refl _) | apply Ext.alloc | apply Ext.drewN | apply Ext.drew))) R _ (by omega) (by omega)).mono ?_
      rintro e w1 ⟨rfl, hE⟩
      have hS := (Lp.start2 w _ _ _ _).trans hE; clear hE
      obtain ⟨k1, k2, k3, k4, k5, k6⟩ := hS.open2
      rw [hc]
      go_wp2_with fail
      refine (szPlan_any (HP.out _ (by repeat (first | (with_reducible exact hS.ext) | (with_reducible assumption) | (with_reducible exact Ext.refl _) | with_reducible apply Ext.alloc | with_reducible apply Ext.drewN | with_reducible apply Ext.drew | with_reducible refine Ext.setCell ?_ (by simp only []; omega) _))) hpn hpl _ hc0 (by omega)).mono ?_
      rintro e w2 ⟨rfl, hE⟩
      rw [hd]
      have hT := hS.trans hE; clear hE hS k1 k2 k3 k4 k5 k6
      have hS := hT; clear hT
      obtain ⟨k1, k2, k3, k4, k5, k6⟩ := hS.open2
      go_upto_region 8 with fail
      go_cut [6] (fun s wx => s = .int .i64 (costA l p) ∧ Lp w wx [(w.heap.size + 1, #[.slice A3 p.length c3], 55), (w.heap.size, #[.slice A0 l.tracks.length c0, .int .i64 l.gap, .slice A2 l.trains.length c2], 26)])
      case first =>
        go_region_with (first  | (go_at_call 23; refine (toLine_any (HL.out _ (by repeat (first | (with_reducible exact hS.ext) | (with_reducible assumption) | (with_reducible exact Ext.refl _) | with_reducible apply Ext.alloc | with_reducible apply Ext.drewN | with_reducible apply Ext.drew | with_reducible refine Ext.setCell ?_ (by simp only []; omega) _))) S).mono ?_; rintro e w3 ⟨u3, rfl, hU3, hE3⟩; have hT := hS.trans (Ext.trans (by repeat (first | (with_reducible assumption) | (with_reducible exact Ext.refl _) | apply Ext.alloc | apply Ext.drewN | apply Ext.drew)) hE3); obtain ⟨m1, m2, m3, m4, m5, m6⟩ := hT.open2; have HU3 := Lib.hid hU3.rd; clear hU3)  | (go_at_call 40; refine (toPlan_any (HP.out _ (hT.ext.trans (by repeat (first | (with_reducible assumption) | (with_reducible exact Ext.refl _) | apply Ext.alloc | apply Ext.drewN | apply Ext.drew)))) hpn' HPL.out).mono ?_; rintro e w4 ⟨u4, rfl, hU4, hE4⟩; have hX4 : Ext w3 w4 := Ext.trans (by repeat (first | (with_reducible assumption) | (with_reducible exact Ext.refl _) | apply Ext.alloc | apply Ext.drewN | apply Ext.drew)) hE4; have hT4 := hT.trans hX4; obtain ⟨n1, n2, n3, n4, n5, n6⟩ := hT4.open2; have HU4 := Lib.hid hU4.rd; clear hU4)  | (go_at_call 45; refine (spec_Cost_any ((HU3.out.ext hX4).ext (by repeat (first | (with_reducible assumption) | (with_reducible exact Ext.refl _) | apply Ext.alloc | apply Ext.drewN | apply Ext.drew))) (HU4.out.ext (by repeat (first | (with_reducible assumption) | (with_reducible exact Ext.refl _) | apply Ext.alloc | apply Ext.drewN | apply Ext.drew))) hs hpn' HPL.out).mono ?_; rintro e w5 ⟨rfl, hE5⟩; have hX5 : Ext w4 w5 := Ext.trans (by repeat (first | (with_reducible assumption) | (with_reducible exact Ext.refl _) | apply Ext.alloc | apply Ext.drewN | apply Ext.drew)) hE5; have hT5 := hT4.trans hX5; obtain ⟨q1, q2, q3, q4, q5, q6⟩ := hT5.open2))
        all_goals
          go_wp2_with fail
          go_meet
          exact ⟨rfl, hT5⟩
      case rest =>
        obtain ⟨rfl, hcut'⟩ := hcut
        clear k1 k2 k3 k4 k5 k6 hS
        have hS := hcut'; clear hcut'
        obtain ⟨k1, k2, k3, k4, k5, k6⟩ := hS.open2
        go_wp2_with fail
        refine (toLine_any (HL.out _ (by repeat (first | (with_reducible exact hS.ext) | (with_reducible assumption) | (with_reducible exact Ext.refl _) | with_reducible apply Ext.alloc | with_reducible apply Ext.drewN | with_reducible apply Ext.drew | with_reducible refine Ext.setCell ?_ (by simp only []; omega) _))) S).mono ?_
        rintro e w6 ⟨u6, rfl, hU, hE⟩
        have HU6 := Lib.hid hU.rd
        obtain ⟨g0, g2, rfl⟩ := hU.form
        have hT := hS.trans hE
        clear k1 k2 k3 k4 k5 k6
        clear hE hU hS
        have hS := hT; clear hT
        obtain ⟨k1, k2, k3, k4, k5, k6⟩ := hS.open2
        go_wp2_with fail
        refine (toPlan_any (HP.out _ (by repeat (first | (with_reducible exact hS.ext) | (with_reducible assumption) | (with_reducible exact Ext.refl _) | with_reducible apply Ext.alloc | with_reducible apply Ext.drewN | with_reducible apply Ext.drew | with_reducible refine Ext.setCell ?_ (by simp only []; omega) _))) hpn' HPL.out).mono ?_
        rintro e w7 ⟨u7, rfl, hU, hE⟩
        have HU7 := Lib.hid hU.rd
        obtain ⟨g3, rfl, _⟩ := hU
        have hT := (hS.newAt #[.slice (some ⟨g0, 0, none⟩) l.tracks.length l.tracks.length, .int .i64 l.gap, .slice (some ⟨g2, 0, none⟩) l.trains.length l.trains.length] 33 rfl).trans hE
        have HU67 := Lib.hid ((HU6.out.ext ((Ext.refl _).alloc _)).ext hE)
        clear k1 k2 k3 k4 k5 k6
        clear hE HU6 hS
        have hS := hT; clear hT
        obtain ⟨k1, k2, k3, k4, k5, k6, k7, k8⟩ := hS.open3
        go_wp2_with fail
        refine (impl_Cost_any (HU67.out.ext (by repeat (first | (with_reducible assumption) | (with_reducible exact Ext.refl _) | apply Ext.alloc | apply Ext.drewN | apply Ext.drew))) (HU7.out.ext (by repeat (first | (with_reducible assumption) | (with_reducible exact Ext.refl _) | apply Ext.alloc | apply Ext.drewN | apply Ext.drew))) hs hpn' HPL.out).mono ?_
        skip
        rintro e w8 ⟨rfl, hE⟩
        have hT := (hS.newAt #[.slice (some ⟨g3, 0, none⟩) p.length p.length] 42 rfl).trans hE
        have HL8 := Lib.hid ((HU67.out.ext ((Ext.refl _).alloc _)).ext hE)
        have HP8 := Lib.hid ((HU7.out.ext ((Ext.refl _).alloc _)).ext hE)
        clear k1 k2 k3 k4 k5 k6 k7 k8
        clear hE HU67 HU7 hS
        have hS := hT; clear hT
        obtain ⟨k1, k2, k3, k4, k5, k6, k7, k8, k9, k10⟩ := hS.open4
        skip
        go_upto_region 14 with fail
        go_cut [39] (fun s wx => s = .bool false ∧ Ext w8 wx)
        case first =>
          go_region_with (first  | (go_at_call 23; refine (toLine_any (HL.out _ (by repeat (first | (with_reducible exact hS.ext) | (with_reducible assumption) | (with_reducible exact Ext.refl _) | with_reducible apply Ext.alloc | with_reducible apply Ext.drewN | with_reducible apply Ext.drew | with_reducible refine Ext.setCell ?_ (by simp only []; omega) _))) S).mono ?_; rintro e wa ⟨ua, rfl, hUa, hEa⟩; have hXa : Ext w8 wa := Ext.trans (by repeat (first | (with_reducible assumption) | (with_reducible exact Ext.refl _) | apply Ext.alloc | apply Ext.drewN | apply Ext.drew)) hEa; have hT := hS.trans hXa; obtain ⟨m1, m2, m3, m4, m5, m6, m7, m8, m9, m10⟩ := hT.open4; have HUa := Lib.hid hUa.rd; clear hUa)  | (go_at_call 26; refine (eqLine_same (HL8.out.ext hXa) HUa.out R).mono ?_; rintro e wb ⟨rfl, hEb⟩))
          all_goals
            go_wp2_with fail
            go_meet
            exact ⟨rfl, hXa.trans hEb⟩
        case rest =>
          obtain ⟨rfl, hXb⟩ := hcut
          have HPb := Lib.hid (HP8.out.ext hXb)
          have hTb := hS.trans hXb
          clear k1 k2 k3 k4 k5 k6 k7 k8 k9 k10 hS
          have hS := hTb; clear hTb
          obtain ⟨k1, k2, k3, k4, k5, k6, k7, k8, k9, k10⟩ := hS.open4
          go_upto_region 16 with fail
          go_cut [44] (fun s wx => s = .bool false ∧ Ext wc wx)
          case first =>
            go_region_with (first  | (go_at_call 40; refine (toPlan_any (HP.out _ (by repeat (first | (with_reducible exact hS.ext) | (with_reducible assumption) | (with_reducible exact Ext.refl _) | with_reducible apply Ext.alloc | with_reducible apply Ext.drewN | with_reducible apply Ext.drew | with_reducible refine Ext.setCell ?_ (by simp only []; omega) _))) hpn' HPL.out).mono ?_; rintro e wd ⟨uc, rfl, hUc, hEc⟩; have hXc : Ext wc wd := Ext.trans (by repeat (first | (with_reducible assumption) | (with_reducible exact Ext.refl _) | apply Ext.alloc | apply Ext.drewN | apply Ext.drew)) hEc; have hT := hS.trans hXc; obtain ⟨m1, m2, m3, m4, m5, m6, m7, m8, m9, m10⟩ := hT.open4; have HUc := Lib.hid hUc.rd; clear hUc)  | (go_at_call 42; refine (eqPlan_same (HPb.out.ext hXc) HUc.out hpn hpl).mono ?_; rintro e we ⟨rfl, hEd⟩))
            all_goals
              go_wp2_with fail
              go_meet
              exact ⟨rfl, hXc.trans hEd⟩
          case rest =>
            obtain ⟨rfl, hXd⟩ := hcut
            go_wp2_with fail
            go_ret
            exact ⟨rfl, hS.ext.trans hXd⟩
  · have hc : cut 1048576 l.size = -1 := cut_neg (by omega)
    go_enter Try.func10, Try.ntmps10
    go_wp2_with fail
    refine (szLine_any (HL.out _ (by repeat (first | (with_reducible assumption) | (with_reducible exact Ext.refl _) | apply Ext.alloc | apply Ext.drewN | apply Ext.drew))) R _ (by omega) (by omega)).mono ?_
    rintro e w1 ⟨rfl, hE⟩
    rw [hc]
    go_wp2_with fail
    go_ret
    exact ⟨rfl, Ext.trans (by repeat (first | (with_reducible assumption) | (with_reducible exact Ext.refl _) | apply Ext.alloc | apply Ext.drewN | apply Ext.drew)) hE⟩
end Go.Proofs.Ythhkbfjolmgloaa
