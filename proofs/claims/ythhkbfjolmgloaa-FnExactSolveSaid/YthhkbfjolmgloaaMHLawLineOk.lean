/- laws.FnExactLineOk answers true, at every line that can be read. No condition. (The walk; the row stands in the text behind it.) -/
import Derived.Test.YthhkbfjolmgloaaMHLineOk
import Derived.Deep.RegionWith
namespace Go.Proofs.Ythhkbfjolmgloaa
open Go.RowKit
set_option linter.unusedVariables false
set_option linter.unusedSimpArgs false
theorem OwnLine.form {B : Nat} {w : World} {u : Value} {l : Line} (h : OwnLine B w u l) : ∃ g0 g2, u = .agg #[.slice (some ⟨g0, 0, none⟩) l.tracks.length l.tracks.length, .int .i64 l.gap, .slice (some ⟨g2, 0, none⟩) l.trains.length l.trains.length] := by
  obtain ⟨v0, v2, rfl, ⟨g0, rfl, _⟩, ⟨g2, rows, rfl, _⟩⟩ := h
  exact ⟨g0, g2, rfl⟩
set_option maxRecDepth 100000 in
set_option maxHeartbeats 1000000 in
theorem lawLineOk_any {w : World} {l : Line} {v : Value} (hl : IsLine w l v) (R : l.Room) :
    Calls Try.prog 4 #[v] w fun e w' => e = .returned (.bool true) ∧ Ext w w' := by
  have HL := Lib.hid (fun (W : World) (e : Ext w W) => hl.ext e)
  obtain ⟨A0, c0, A2, c2, rfl, h0, h2⟩ := hl
  clear h0 h2
  by_cases hs : l.size ≤ 1048576
  · have hc : cut 1048576 l.size = 1048576 - l.size := cut_ok (by omega)
    have S := Line.small_of hs
    have hc0 : (0 : Int) ≤ 1048576 - l.size := by omega
    generalize hf : fault l = f
    obtain ⟨fa, fb⟩ := f
    have HF := Lib.hid hf; clear hf
    go_enter Try.func4, Try.ntmps4
    go_wp2_with fail
    refine (szLine_any (HL.out _ (by repeat (first | (with_reducible assumption) | (with_reducible exact Ext.refl _) | apply Ext.alloc | apply Ext.drewN | apply Ext.drew))) R _ (by omega) (by omega)).mono ?_
    rintro e w1 ⟨rfl, hE⟩
    have hS := (Lp.start1 w _ _).trans hE; clear hE
    obtain ⟨k1, k2, k3, k4⟩ := hS.open1
    rw [hc]
    go_wp2_with fail
    refine (toLine_any (HL.out _ (by repeat (first | (with_reducible exact hS.ext) | (with_reducible assumption) | (with_reducible exact Ext.refl _) | with_reducible apply Ext.alloc | with_reducible apply Ext.drewN | with_reducible apply Ext.drew | with_reducible refine Ext.setCell ?_ (by simp only []; omega) _))) S).mono ?_
    rintro e w2 ⟨u, rfl, hU, hE⟩
    have hT := hS.trans hE; clear hS hE k1 k2 k3 k4
    go_wp2_with fail
    refine (spec_LineOk_any hU.rd hs).mono ?_
    rw [HF.out]
    rintro e w3 ⟨rfl, hE⟩
    have hS := hT.trans hE; clear hT hE hU
    obtain ⟨k1, k2, k3, k4⟩ := hS.open1
    simp only [faultV]
    go_wp2_with fail
    refine (toLine_any (HL.out _ (by repeat (first | (with_reducible exact hS.ext) | (with_reducible assumption) | (with_reducible exact Ext.refl _) | with_reducible apply Ext.alloc | with_reducible apply Ext.drewN | with_reducible apply Ext.drew | with_reducible refine Ext.setCell ?_ (by simp only []; omega) _))) S).mono ?_
    rintro e w4 ⟨u, rfl, hU, hE⟩
    have hT := (hS.newAt #[.int .i64 fa, .int .i64 fb] 29 rfl).trans hE
    have HU := Lib.hid hU.rd
    obtain ⟨g0, g2, rfl⟩ := hU.form
    clear hE k1 k2 k3 k4 hU hS
    have hS := hT; clear hT
    obtain ⟨k1, k2, k3, k4, k5, k6⟩ := hS.open2
    go_wp2_with fail
    refine (impl_LineOk_any (HU.out.ext (by repeat (first | (with_reducible assumption) | (with_reducible exact Ext.refl _) | apply Ext.alloc | apply Ext.drewN | apply Ext.drew))) hs).mono ?_
    rw [HF.out]
    rintro e w5 ⟨rfl, hE⟩
    have hT := (hS.newAt #[.slice (some ⟨g0, 0, none⟩) l.tracks.length l.tracks.length, .int .i64 l.gap, .slice (some ⟨g2, 0, none⟩) l.trains.length l.trains.length] 33 rfl).trans hE
    have HU5 := Lib.hid ((HU.out.ext ((Ext.refl _).alloc _)).ext hE)
    clear HU hE k1 k2 k3 k4 k5 k6 hS
    have hS := hT; clear hT
    obtain ⟨k1, k2, k3, k4, k5, k6, k7, k8⟩ := hS.open3
    simp only [faultV]
    go_wp2_with fail
    refine (eqFault_same fa fb _).mono ?_
    rintro e w6 ⟨rfl, hE⟩
    have hT := (hS.alloc _).trans hE
    have HU := Lib.hid ((HU5.out.ext ((Ext.refl _).alloc _)).ext hE)
    clear HU5 hE k1 k2 k3 k4 k5 k6 k7 k8 hS
    have hS := hT; clear hT
    obtain ⟨k1, k2, k3, k4, k5, k6, k7, k8⟩ := hS.open3
    go_wp2_with fail
    go_region_with (first  | (go_at_call 23; refine (toLine_any (HL.out _ (by repeat (first | (with_reducible exact hS.ext) | (with_reducible assumption) | (with_reducible exact Ext.refl _) | with_reducible apply Ext.alloc | with_reducible apply Ext.drewN | with_reducible apply Ext.drew | with_reducible refine Ext.setCell ?_ (by simp only []; omega) _))) S).mono ?_; rintro e w7 ⟨u7, rfl, hU7, hE7⟩; have hX : Ext w6 w7 := Ext.trans (by repeat (first | (with_reducible assumption) | (with_reducible exact Ext.refl _) | apply Ext.alloc | apply Ext.drewN | apply Ext.drew)) hE7; have hT := hS.trans hX; obtain ⟨m1, m2, m3, m4, m5, m6, m7, m8⟩ := hT.open3; have HU7 := Lib.hid hU7.rd; clear hU7)  | (go_at_call 26; refine (eqLine_same (HU.out.ext hX) HU7.out R).mono ?_; rintro e w8 ⟨rfl, hE8⟩))
    all_goals
      go_wp2_with fail
      go_ret
      exact ⟨rfl, hT.ext.trans hE8⟩
  · have hc : cut 1048576 l.size = -1 := cut_neg (by omega)
    go_enter Try.func4, Try.ntmps4
    go_wp2_with fail
    refine (szLine_any (HL.out _ (by repeat (first | (with_reducible assumption) | (with_reducible exact Ext.refl _) | apply Ext.alloc | apply Ext.drewN | apply Ext.drew))) R _ (by omega) (by omega)).mono ?_
    rintro e w1 ⟨rfl, hE⟩
    rw [hc]
    go_wp2_with fail
    go_ret
    exact ⟨rfl, Ext.trans (by repeat (first | (with_reducible assumption) | (with_reducible exact Ext.refl _) | apply Ext.alloc | apply Ext.drewN | apply Ext.drew)) hE⟩
end Go.Proofs.Ythhkbfjolmgloaa
