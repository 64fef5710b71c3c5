/- The laws' count of how much an argument holds: laws.szIntS, szLegS, szTrain, szTrainS, szLine, szIntSS, szPlan answer what is left, or -1. Conditions: lengths below 2^63, what is left at most 2^20. -/
import Derived.Test.YthhkbfjolmgloaaBase
namespace Go.Proofs.Ythhkbfjolmgloaa
open Go.RowKit
set_option linter.unusedVariables false
set_option linter.unusedSimpArgs false
def cut (left : Int) (n : Nat) : Int := if left < n then -1 else left - n
theorem cut_neg {left : Int} {n : Nat} (h : left < n) : cut left n = -1 := if_pos h
theorem cut_ok {left : Int} {n : Nat} (h : ¬ left < n) : cut left n = left - n := if_neg h
theorem szIntS_any (A : Option Addr) (n c : Nat) (left : Int) (w : World) (hn : n ≤ 9223372036854775807) (h0 : 0 ≤ left) (h1 : left ≤ 1048576) :
    Calls Try.prog 73 #[.slice A n c, .int .i64 left] w fun e w' => e = .returned (.int .i64 (cut left n)) ∧ Ext w w' := by
  by_cases h : left < n
  all_goals
    go_enter Try.func73, Try.ntmps73
    go_wp2
    go_ret
    exact ⟨ret_i64 (by unfold cut; omega), Ext.refl _⟩
theorem szLegS_any (A : Option Addr) (n c : Nat) (left : Int) (w : World) (hn : n ≤ 9223372036854775807) (h0 : 0 ≤ left) (h1 : left ≤ 1048576) :
    Calls Try.prog 139 #[.slice A n c, .int .i64 left] w fun e w' => e = .returned (.int .i64 (cut left n)) ∧ Ext w w' := by
  by_cases h : left < n
  all_goals
    go_enter Try.func139, Try.ntmps139
    go_wp2
    go_ret
    exact ⟨ret_i64 (by unfold cut; omega), Ext.refl _⟩
theorem szTrain_any {w : World} {t : Train} {v : Value} (ht : IsTrain w t v) (left : Int) (hn : t.legs.length ≤ 9223372036854775807) (h0 : 0 ≤ left) (h1 : left ≤ 1048576) :
    Calls Try.prog 124 #[v, .int .i64 left] w fun e w' => e = .returned (.int .i64 (cut left t.legs.length)) ∧ Ext w w' := by
  obtain ⟨A4, c4, rfl, hR⟩ := ht
  by_cases h : left < t.legs.length
  · have hc := cut_neg h
    go_enter Try.func124, Try.ntmps124
    go_wp2_with (go_at_call 139; refine (szLegS_any _ _ _ _ _ hn h0 h1).mono ?_; rintro e w' ⟨rfl, hE⟩)
    go_ret
    exact ⟨ret_i64 hc.symm, Ext.trans (by repeat (first | (with_reducible assumption) | (with_reducible exact Ext.refl _) | apply Ext.alloc | apply Ext.drewN | apply Ext.drew)) hE⟩
  · have hc := cut_ok h
    have hc' : 0 ≤ left - t.legs.length := by omega
    go_enter Try.func124, Try.ntmps124
    go_wp2_with (go_at_call 139; refine (szLegS_any _ _ _ _ _ hn h0 h1).mono ?_; rintro e w' ⟨rfl, hE⟩)
    go_ret
    exact ⟨ret_i64 hc.symm, Ext.trans (by repeat (first | (with_reducible assumption) | (with_reducible exact Ext.refl _) | apply Ext.alloc | apply Ext.drewN | apply Ext.drew)) hE⟩
/-- How many legs trains have in all. -/
def legsN : List Train → Nat
  | [] => 0
  | t :: ts => t.legs.length + legsN ts
theorem legsN_at {ts : List Train} {i : Nat} {t : Train} (h : ts[i]? = some t) : legsN (ts.drop i) = t.legs.length + legsN (ts.drop (i + 1)) := by
  rw [drop_some h]
  rfl
theorem legsN_end {ts : List Train} {i : Nat} (h : ts.length ≤ i) : legsN (ts.drop i) = 0 := by
  rw [drop_end h]
  rfl
set_option maxRecDepth 100000 in
set_option maxHeartbeats 1000000 in
theorem szTrainS_any {w : World} {ts : List Train} {A : Option Addr} (c : Nat) (hA : RdTrain w A ts) (left : Int) (hn : ts.length ≤ 9223372036854775807) (hl : ∀ (i : Nat) (t : Train), ts[i]? = some t → t.legs.length ≤ 9223372036854775807) (h0 : 0 ≤ left) (h1 : left ≤ 1048576) :
    Calls Try.prog 74 #[.slice A ts.length c, .int .i64 left] w fun e w' => e = .returned (.int .i64 (cut left (ts.length + legsN ts))) ∧ Ext w w' := by
  by_cases h : left < ts.length
  · have hc : cut left (ts.length + legsN ts) = -1 := cut_neg (by omega)
    have HC := Lib.hid hc; clear hc
    go_enter Try.func74, Try.ntmps74
    go_wp2
    go_ret
    exact ⟨ret_i64 HC.out.symm, Ext.refl _⟩
  · go_enter Try.func74, Try.ntmps74
    go_wp2
    go_loopw [1, 5] (fun a j wr => ∃ (jj : Nat) (q : Int), jj ≤ ts.length ∧ j = .int .i64 jj ∧ a = .int .i64 q ∧ 0 ≤ q ∧ q ≤ 1048576 ∧ Hid (cut q (legsN (ts.drop jj)) = cut left (ts.length + legsN ts)) ∧ Ext w wr) (fun _ j _ => ts.length - (intOf j).toNat)
    case atStart => exact ⟨0, left - ts.length, Nat.zero_le _, rfl, rfl, by omega, by omega, by simp [Hid, cut]; omega, Ext.refl _⟩
    case round =>
      obtain ⟨jj, q, hjj, rfl, rfl, hq0, hq1, HS, hE0⟩ := hrel
      obtain ⟨hcl, hup⟩ := (Lp.of_ext hE0).open0
      by_cases hlt : jj < ts.length
      · obtain ⟨t, ht⟩ := hid_of_lt hlt
        obtain ⟨b, o, rfl, hb⟩ := hA.base hlt
        obtain ⟨e0, e1, e2, e3, A4, c4, e4, hR⟩ := hA.at_ ht.out
        have hT := Lib.hid (isTrain_mk (c4 := c4) (hR.ext hE0))
        have hN := hl _ _ ht.out
        by_cases hq : q < t.legs.length
        · have hcq := cut_neg hq
          go_wp2_with (go_at_call 124; refine (szTrain_any hT.out _ hN hq0 hq1).mono ?_; rintro e w' ⟨rfl, hE⟩)
          go_ret
          exact ⟨ret_i64 (by rw [← HS.out, legsN_at ht.out, cut_neg (by omega)]), hE0.trans hE⟩
        · have hcq := cut_ok hq
          have hq' : 0 ≤ q - t.legs.length := by omega
          go_wp2_with (go_at_call 124; refine (szTrain_any hT.out _ hN hq0 hq1).mono ?_; rintro e w' ⟨rfl, hE⟩)
          exact ⟨⟨jj + 1, q - t.legs.length, by omega, by go_num, rfl, by omega, by omega, by rw [← HS.out, legsN_at ht.out]; unfold Hid cut; omega, hE0.trans hE⟩, (by simp [intOf]; omega)⟩
      · have he : legsN (ts.drop jj) = 0 := legsN_end (by omega)
        have HE := Lib.hid he; clear he
        go_wp2
        go_ret
        exact ⟨ret_i64 (by rw [← HS.out, HE.out]; unfold cut; omega), hE0⟩
def Line.size (l : Line) : Nat := l.tracks.length + (l.trains.length + legsN l.trains)
/-- Each list is no longer than memory has room for. -/
structure Line.Room (l : Line) : Prop where
  tracks : l.tracks.length ≤ 9223372036854775807
  trains : l.trains.length ≤ 9223372036854775807
  legs : ∀ (i : Nat) (t : Train), l.trains[i]? = some t → t.legs.length ≤ 9223372036854775807
set_option maxRecDepth 100000 in
set_option maxHeartbeats 1000000 in
theorem szLine_any {w : World} {l : Line} {v : Value} (hl : IsLine w l v) (R : l.Room) (left : Int) (h0 : 0 ≤ left) (h1 : left ≤ 1048576) :
    Calls Try.prog 21 #[v, .int .i64 left] w fun e w' => e = .returned (.int .i64 (cut left l.size)) ∧ Ext w w' := by
  obtain ⟨A0, c0, A2, c2, rfl, hR0, hR2⟩ := hl
  have r1 := R.tracks
  have r2 := R.trains
  have HR2 := Lib.hid hR2
  by_cases h : left < l.tracks.length
  · have hc := cut_neg h
    have hc2 : cut left l.size = -1 := cut_neg (by unfold Line.size; omega)
    have HC := Lib.hid hc2; clear hc2
    go_enter Try.func21, Try.ntmps21
    go_wp2_with (go_at_call 73; refine (szIntS_any _ _ _ _ _ r1 h0 h1).mono ?_; rintro e w' ⟨rfl, hE⟩)
    go_ret
    exact ⟨ret_i64 HC.out.symm, Ext.trans (by repeat (first | (with_reducible assumption) | (with_reducible exact Ext.refl _) | apply Ext.alloc | apply Ext.drewN | apply Ext.drew)) hE⟩
  · have hc := cut_ok h
    have hc' : 0 ≤ left - l.tracks.length ∧ left - l.tracks.length ≤ 1048576 := by omega
    have hq : (left - l.tracks.length < (l.trains.length + legsN l.trains : Nat)) ∨ ¬ (left - l.tracks.length < (l.trains.length + legsN l.trains : Nat)) := Classical.em _
    rcases hq with hq | hq
    · have hcq := cut_neg hq
      have hc2 : cut left l.size = -1 := cut_neg (by unfold Line.size; omega)
      have HC := Lib.hid hc2; clear hc2
      go_enter Try.func21, Try.ntmps21
      go_wp2_with (first | (go_at_call 73; refine (szIntS_any _ _ _ _ _ r1 h0 h1).mono ?_; rintro e w1 ⟨rfl, hE⟩; have hS := (Lp.start1 w _ _).trans hE; obtain ⟨k1, k2, k3, k4⟩ := hS.open1) | (go_at_call 74; refine (szTrainS_any c2 (HR2.out.ext hS.ext) _ r2 R.legs hc'.1 hc'.2).mono ?_; rintro e w2 ⟨rfl, hE2⟩))
      go_ret
      exact ⟨ret_i64 HC.out.symm, hS.ext.trans hE2⟩
    · have hcq := cut_ok hq
      have hq' : 0 ≤ left - l.tracks.length - (l.trains.length + legsN l.trains : Nat) := by omega
      have hc2 : cut left l.size = left - l.tracks.length - (l.trains.length + legsN l.trains : Nat) := by unfold cut Line.size; omega
      have HC := Lib.hid hc2; clear hc2
      go_enter Try.func21, Try.ntmps21
      go_wp2_with (first | (go_at_call 73; refine (szIntS_any _ _ _ _ _ r1 h0 h1).mono ?_; rintro e w1 ⟨rfl, hE⟩; have hS := (Lp.start1 w _ _).trans hE; obtain ⟨k1, k2, k3, k4⟩ := hS.open1) | (go_at_call 74; refine (szTrainS_any c2 (HR2.out.ext hS.ext) _ r2 R.legs hc'.1 hc'.2).mono ?_; rintro e w2 ⟨rfl, hE2⟩))
      go_ret
      exact ⟨ret_i64 HC.out.symm, hS.ext.trans hE2⟩
end Go.Proofs.Ythhkbfjolmgloaa
