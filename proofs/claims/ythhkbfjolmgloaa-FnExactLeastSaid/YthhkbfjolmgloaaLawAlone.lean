/- laws.FnExactAlone and laws.FnExactLeast answer true, at every line (and number) that can be read. No condition. (The walks; the rows stand in texts behind.) -/
import Derived.Test.YthhkbfjolmgloaaAlone
import Derived.Test.YthhkbfjolmgloaaLawLineOk
namespace Go.Proofs.Ythhkbfjolmgloaa
open Go.RowKit
set_option linter.unusedVariables false
set_option linter.unusedSimpArgs false

set_option maxRecDepth 100000 in
set_option maxHeartbeats 1000000 in
theorem lawAlone_any {w : World} {l : Line} {v : Value} (hl : IsLine w l v) (R : l.Room) (i : Int) :
    Calls Try.prog 6 #[v, .int .i64 i] w fun e w' => e = .returned (.bool true) ∧ Ext w w' := by
  have HL := Lib.hid (fun (W : World) (e : Ext w W) => hl.ext e)
  obtain ⟨A0, c0, A2, c2, rfl, h0, h2⟩ := hl
  clear h0 h2
  by_cases hs : l.size ≤ 1048576
  · have hc : cut 1048576 l.size = 1048576 - l.size := cut_ok (by omega)
    have S := Line.small_of hs
    have hc0 : (0 : Int) ≤ 1048576 - l.size := by omega
    go_enter Try.func6, Try.ntmps6
    go_wp2_with fail
    refine (szLine_any (HL.out _ (by repeat (first | (with_reducible assumption) | (with_reducible exact Ext.refl _) | apply Ext.alloc | apply Ext.drewN | apply Ext.drew))) R _ (by omega) (by omega)).mono ?_
    rintro e w1 ⟨rfl, hE⟩
    have hS := (Lp.start1 w _ _).trans hE; clear hE
    obtain ⟨k1, k2, k3, k4⟩ := hS.open1
    rw [hc]
    go_wp2_with fail
    refine (toLine_any (HL.out _ (by repeat (first | (with_reducible exact hS.ext) | (with_reducible assumption) | (with_reducible exact Ext.refl _) | with_reducible apply Ext.alloc | with_reducible apply Ext.drewN | with_reducible apply Ext.drew | with_reducible refine Ext.setCell ?_ (by simp only []; omega) _))) S).mono ?_
    rintro e w2 ⟨u, rfl, hU, hE⟩
    have hT := hS.trans hE; clear hS hE k1 k2 k3 k4
    go_wp2_with fail
    refine (spec_Alone_any hU.rd hs i).mono ?_
    rintro e w3 ⟨rfl, hE⟩
    have hS := hT.trans hE; clear hT hE hU
    obtain ⟨k1, k2, k3, k4⟩ := hS.open1
    go_wp2_with fail
    refine (toLine_any (HL.out _ (by repeat (first | (with_reducible exact hS.ext) | (with_reducible assumption) | (with_reducible exact Ext.refl _) | with_reducible apply Ext.alloc | with_reducible apply Ext.drewN | with_reducible apply Ext.drew | with_reducible refine Ext.setCell ?_ (by simp only []; omega) _))) S).mono ?_
    rintro e w4 ⟨u, rfl, hU, hE⟩
    have hT := hS.trans hE
    have HU := Lib.hid hU.rd
    obtain ⟨g0, g2, rfl⟩ := hU.form
    clear hE k1 k2 k3 k4 hU hS
    have hS := hT; clear hT
    obtain ⟨k1, k2, k3, k4⟩ := hS.open1
    go_wp2_with fail
    refine (impl_Alone_any (HU.out.ext (by repeat (first | (with_reducible assumption) | (with_reducible exact Ext.refl _) | apply Ext.alloc | apply Ext.drewN | apply Ext.drew))) hs i).mono ?_
    rintro e w5 ⟨rfl, hE⟩
    have hT := (hS.newAt #[.slice (some ⟨g0, 0, none⟩) l.tracks.length l.tracks.length, .int .i64 l.gap, .slice (some ⟨g2, 0, none⟩) l.trains.length l.trains.length] 33 rfl).trans hE
    have HU5 := Lib.hid ((HU.out.ext ((Ext.refl _).alloc _)).ext hE)
    clear HU hE k1 k2 k3 k4 hS
    have hS := hT; clear hT
    obtain ⟨k1, k2, k3, k4, k5, k6⟩ := hS.open2
    go_wp2_with fail
    go_region_with (first  | (go_at_call 23; refine (toLine_any (HL.out _ (by repeat (first | (with_reducible exact hS.ext) | (with_reducible assumption) | (with_reducible exact Ext.refl _) | with_reducible apply Ext.alloc | with_reducible apply Ext.drewN | with_reducible apply Ext.drew | with_reducible refine Ext.setCell ?_ (by simp only []; omega) _))) S).mono ?_; rintro e w7 ⟨u7, rfl, hU7, hE7⟩; have hX : Ext w5 w7 := Ext.trans (by repeat (first | (with_reducible assumption) | (with_reducible exact Ext.refl _) | apply Ext.alloc | apply Ext.drewN | apply Ext.drew)) hE7; have hT := hS.trans hX; obtain ⟨m1, m2, m3, m4, m5, m6⟩ := hT.open2; have HU7 := Lib.hid hU7.rd; clear hU7)  | (go_at_call 26; refine (eqLine_same (HU5.out.ext hX) HU7.out R).mono ?_; rintro e w8 ⟨rfl, hE8⟩))
    all_goals
      go_wp2_with fail
      go_ret
      exact ⟨rfl, hT.ext.trans hE8⟩
  · have hc : cut 1048576 l.size = -1 := cut_neg (by omega)
    go_enter Try.func6, Try.ntmps6
    go_wp2_with fail
    refine (szLine_any (HL.out _ (by repeat (first | (with_reducible assumption) | (with_reducible exact Ext.refl _) | apply Ext.alloc | apply Ext.drewN | apply Ext.drew))) R _ (by omega) (by omega)).mono ?_
    rintro e w1 ⟨rfl, hE⟩
    rw [hc]
    go_wp2_with fail
    go_ret
    exact ⟨rfl, Ext.trans (by repeat (first | (with_reducible assumption) | (with_reducible exact Ext.refl _) | apply Ext.alloc | apply Ext.drewN | apply Ext.drew)) hE⟩

set_option maxRecDepth 100000 in
set_option maxHeartbeats 1000000 in
theorem lawLeast_any {w : World} {l : Line} {v : Value} (hl : IsLine w l v) (R : l.Room) :
    Calls Try.prog 7 #[v] w fun e w' => e = .returned (.bool true) ∧ Ext w w' := by
  have HL := Lib.hid (fun (W : World) (e : Ext w W) => hl.ext e)
  obtain ⟨A0, c0, A2, c2, rfl, h0, h2⟩ := hl
  clear h0 h2
  by_cases hs : l.size ≤ 1048576
  · have hc : cut 1048576 l.size = 1048576 - l.size := cut_ok (by omega)
    have S := Line.small_of hs
    have hc0 : (0 : Int) ≤ 1048576 - l.size := by omega
    go_enter Try.func7, Try.ntmps7
    go_wp2_with fail
    refine (szLine_any (HL.out _ (by repeat (first | (with_reducible assumption) | (with_reducible exact Ext.refl _) | apply Ext.alloc | apply Ext.drewN | apply Ext.drew))) R _ (by omega) (by omega)).mono ?_
    rintro e w1 ⟨rfl, hE⟩
    have hS := (Lp.start1 w _ _).trans hE; clear hE
    obtain ⟨k1, k2, k3, k4⟩ := hS.open1
    rw [hc]
    go_wp2_with fail
    refine (toLine_any (HL.out _ (by repeat (first | (with_reducible exact hS.ext) | (with_reducible assumption) | (with_reducible exact Ext.refl _) | with_reducible apply Ext.alloc | with_reducible apply Ext.drewN | with_reducible apply Ext.drew | with_reducible refine Ext.setCell ?_ (by simp only []; omega) _))) S).mono ?_
    rintro e w2 ⟨u, rfl, hU, hE⟩
    have hT := hS.trans hE; clear hS hE k1 k2 k3 k4
    go_wp2_with fail
    refine (spec_Least_any hU.rd hs).mono ?_
    rintro e w3 ⟨rfl, hE⟩
    have hS := hT.trans hE; clear hT hE hU
    obtain ⟨k1, k2, k3, k4⟩ := hS.open1
    go_wp2_with fail
    refine (toLine_any (HL.out _ (by repeat (first | (with_reducible exact hS.ext) | (with_reducible assumption) | (with_reducible exact Ext.refl _) | with_reducible apply Ext.alloc | with_reducible apply Ext.drewN | with_reducible apply Ext.drew | with_reducible refine Ext.setCell ?_ (by simp only []; omega) _))) S).mono ?_
    rintro e w4 ⟨u, rfl, hU, hE⟩
    have hT := hS.trans hE
    have HU := Lib.hid hU.rd
    obtain ⟨g0, g2, rfl⟩ := hU.form
    clear hE k1 k2 k3 k4 hU hS
    have hS := hT; clear hT
    obtain ⟨k1, k2, k3, k4⟩ := hS.open1
    go_wp2_with fail
    refine (impl_Least_any (HU.out.ext (by repeat (first | (with_reducible assumption) | (with_reducible exact Ext.refl _) | apply Ext.alloc | apply Ext.drewN | apply Ext.drew))) hs).mono ?_
    rintro e w5 ⟨rfl, hE⟩
    have hT := (hS.newAt #[.slice (some ⟨g0, 0, none⟩) l.tracks.length l.tracks.length, .int .i64 l.gap, .slice (some ⟨g2, 0, none⟩) l.trains.length l.trains.length] 33 rfl).trans hE
    have HU5 := Lib.hid ((HU.out.ext ((Ext.refl _).alloc _)).ext hE)
    clear HU hE k1 k2 k3 k4 hS
    have hS := hT; clear hT
    obtain ⟨k1, k2, k3, k4, k5, k6⟩ := hS.open2
    go_wp2_with fail
    go_region_with (first  | (go_at_call 23; refine (toLine_any (HL.out _ (by repeat (first | (with_reducible exact hS.ext) | (with_reducible assumption) | (with_reducible exact Ext.refl _) | with_reducible apply Ext.alloc | with_reducible apply Ext.drewN | with_reducible apply Ext.drew | with_reducible refine Ext.setCell ?_ (by simp only []; omega) _))) S).mono ?_; rintro e w7 ⟨u7, rfl, hU7, hE7⟩; have hX : Ext w5 w7 := Ext.trans (by repeat (first | (with_reducible assumption) | (with_reducible exact Ext.refl _) | apply Ext.alloc | apply Ext.drewN | apply Ext.drew)) hE7; have hT := hS.trans hX; obtain ⟨m1, m2, m3, m4, m5, m6⟩ := hT.open2; have HU7 := Lib.hid hU7.rd; clear hU7)  | (go_at_call 26; refine (eqLine_same (HU5.out.ext hX) HU7.out R).mono ?_; rintro e w8 ⟨rfl, hE8⟩))
    all_goals
      go_wp2_with fail
      go_ret
      exact ⟨rfl, hT.ext.trans hE8⟩
  · have hc : cut 1048576 l.size = -1 := cut_neg (by omega)
    go_enter Try.func7, Try.ntmps7
    go_wp2_with fail
    refine (szLine_any (HL.out _ (by repeat (first | (with_reducible assumption) | (with_reducible exact Ext.refl _) | apply Ext.alloc | apply Ext.drewN | apply Ext.drew))) R _ (by omega) (by omega)).mono ?_
    rintro e w1 ⟨rfl, hE⟩
    rw [hc]
    go_wp2_with fail
    go_ret
    exact ⟨rfl, Ext.trans (by repeat (first | (with_reducible assumption) | (with_reducible exact Ext.refl _) | apply Ext.alloc | apply Ext.drewN | apply Ext.drew)) hE⟩
end Go.Proofs.Ythhkbfjolmgloaa
