/- spec.l3floor answers the least cost that a placing so far can end with. Condition: the line is right, the legs were placed so. -/
import Derived.Test.YthhkbfjolmgloaaML13a
import Derived.BigQuiet
import Derived.Deep.QuietTactic
import Derived.StillTailTactics
import Derived.Deep.DeepCutAuto
import Derived.Deep.RegionHeld3
namespace Go.Proofs.Ythhkbfjolmgloaa
open Go.RowKit
set_option linter.unusedVariables false
set_option linter.unusedSimpArgs false
def flM (l : Line) (b : Int) (i m : Nat) (a : Int) : Int := max (a + (l.leg i m).stay) b + (l.leg i m).run
def fl0 (l : Line) (p : List (List Int)) (i : Nat) : Int := if rl p i = 0 then (l.tr i).ready else st p i (rl p i - 1) + (l.leg i (rl p i - 1)).run
theorem floorT_rl (l : Line) (p : List (List Int)) (b : Int) (i : Nat) : floorT l p b i = foldF (flM l b i) (rl p i) (l.tr i).legs.length (fl0 l p i) := rfl
set_option maxRecDepth 100000 in
set_option maxHeartbeats 8000000 in
theorem floor_any {w : World} {l : Line} {p : List (List Int)} {last : Int} {gp : Nat} {A0 : Option Addr} {c0 : Nat} {A2 : Option Addr} {c2 : Nat} {AR : Option Addr} {cR gr : Nat} {br : Nat → Nat} (R : RdP w l p last gp A0 c0 A2 c2 AR cR gr br) (O : Ok l) (F : Few l p) (hl0 : 0 ≤ last) (hl : last ≤ 1000000) :
    Calls Try.prog 127 #[.pointer (some ⟨gp, 0, none⟩)] w fun e w' => e = .returned (.int .i64 (floorS l p last)) ∧ Ext w w' := by
  obtain ⟨A0', c0', A2', c2', hv, h0, h2⟩ := R.line
  simp only [Value.agg.injEq, Array.mk.injEq, List.cons.injEq, Value.slice.injEq, and_true, true_and] at hv
  obtain ⟨⟨rfl, rfl⟩, rfl, rfl⟩ := hv
  obtain ⟨b0, o0, b2, o2, bl, ol, cl, SL⟩ := seeL O h0 h2
  clear h0 h2
  have HB := Lib.hid O.bd
  have HS := Lib.hid SL
  have HF := Lib.hid F
  have HP := Lib.hid R
  have HO := Lib.hid O
  have n5 := HB.out.n5
  have hgp := R.lt
  have p2 := R.b2
  have p3 := R.b3
  have p4 := R.b4
  clear SL R F O
  go_enter Try.func127, Try.ntmps127
  go_wp2_with fail
  go_loopw [3, 14] (fun a j wr => ∃ (jj : Nat) (q : Int), jj ≤ l.trains.length ∧ j = .int .i64 jj ∧ a = .int .i64 q ∧ 0 ≤ q ∧ q ≤ 200000000 * jj ∧ Hid (floorS l p last = q + sumF (fun i => lateT (l.tr i) (floorT l p last i)) jj l.trains.length) ∧ Ext w wr) (fun _ j _ => l.trains.length - (intOf j).toNat)
  case atStart => exact ⟨0, 0, Nat.zero_le _, rfl, rfl, by omega, by omega, by unfold Hid floorS; omega, (by repeat (first | (with_reducible assumption) | (with_reducible exact Ext.refl _) | apply Ext.alloc | apply Ext.drewN | apply Ext.drew))⟩
  case round =>
    obtain ⟨jj, q, hjj, rfl, rfl, hq0, hq1, HC, hE⟩ := hrel
    obtain ⟨k1, k2⟩ := (Lp.of_ext hE).open0
    by_cases hlt : jj < l.trains.length
    · obtain ⟨rfl, hgr⟩ := HP.out.base (by omega)
      obtain ⟨rfl, hb2⟩ := HS.out.base2 (by omega)
      obtain ⟨e0, e1, e2, e3, e4, hbl⟩ := HS.out.train jj hlt
      obtain ⟨Aj, cj, r0, hbj⟩ := HP.out.row jj hlt
      obtain ⟨m10, m11⟩ := HB.out.nl1 jj hlt
      obtain ⟨t0, t1⟩ := HB.out.tr jj hlt
      have hlen := HF.out.len jj hlt
      have HBJ := Lib.hid hbj; clear hbj
      have HTJ := Lib.hid (HS.out.isTrain hlt)
      have hT := Lib.hid (HO.out.train jj _ (Line.tr_at hlt))
      have HN := Lib.hid (sumF_at (fun i => lateT (l.tr i) (floorT l p last i)) hlt)
      have hz2 : (0 : Int) ≤ rl p jj := by omega
      obtain ⟨wo, rfl⟩ : ∃ wo, wo = wr := ⟨_, rfl⟩
      go_upto_if 31 with fail
      have hS := (Lp.of_ext hE).newAt (g := wo.heap.size) #[.int .i64 (l.tr jj).frm, .int .i64 (l.tr jj).ready, .int .i64 (l.tr jj).due, .int .i64 (l.tr jj).weight, .slice (some ⟨bl jj, ol jj, none⟩) (l.tr jj).legs.length (cl jj)] 80 rfl
      have hw0 : w.heap.size ≤ wo.heap.size := hE.size
      generalize wo.alloc (.cells #[.int .i64 (l.tr jj).frm, .int .i64 (l.tr jj).ready, .int .i64 (l.tr jj).due, .int .i64 (l.tr jj).weight, .slice (some ⟨bl jj, ol jj, none⟩) (l.tr jj).legs.length (cl jj)] 80) = wa at hS ⊢
      clear k1 k2 hE
      obtain ⟨k1, k2, k3, k4⟩ := hS.open1
      go_cut [6] (fun s wx => s = .int .i64 (fl0 l p jj) ∧ Lp w wx [(wo.heap.size, #[.int .i64 (l.tr jj).frm, .int .i64 (l.tr jj).ready, .int .i64 (l.tr jj).due, .int .i64 (l.tr jj).weight, .slice (some ⟨bl jj, ol jj, none⟩) (l.tr jj).legs.length (cl jj)], 80)])
      case first =>
        by_cases hz : rl p jj = 0
        · have hv : Hid (fl0 l p jj = (l.tr jj).ready) := by unfold Hid fl0; rw [if_pos hz]
          have hz1 : decide (0 < rl p jj) = false := by simp; omega
          have hz2 : decide ((0 : Int) < (rl p jj : Int)) = false := by simp; omega
          have hz3 : ¬ 0 < rl p jj := by omega
          have HZ := Lib.hid hz; clear hz
          go_wp2_with fail
          go_meet
          exact ⟨i64_eq hv.out.symm, (by repeat (first | (with_reducible exact hS) | apply Lp.alloc | apply Lp.drewN | apply Lp.drew))⟩
        · obtain ⟨k, hkk⟩ : ∃ k, rl p jj = k + 1 := ⟨rl p jj - 1, by omega⟩
          have HKK := Lib.hid hkk
          have hkr : k < rl p jj := by omega
          have hkl : k < (l.tr jj).legs.length := by omega
          have hv : Hid (fl0 l p jj = st p jj k + (l.leg jj k).run) := by unfold Hid fl0; rw [if_neg hz, HKK.out]; rfl
          obtain ⟨rfl, hbr⟩ := HBJ.out (by omega)
          have s0 := HP.out.st jj k hlt hkr
          obtain ⟨g0, g1, g2⟩ := HS.out.leg jj k hlt hkl
          obtain ⟨z0, z1⟩ := HF.out.at_ jj k hlt hkr
          obtain ⟨_, _, y1, y2, _, _⟩ := HB.out.leg jj k hlt hkl
          have hz1 : decide (0 < rl p jj) = true := by simp; omega
          have hsub : ((rl p jj : Int) - 1) = (k : Int) := by omega
          have hw : IntKind.i64.wrap ((rl p jj : Int) - 1) = (k : Int) := by rw [hsub]; exact IntWalk.i64_in _ (by omega)
          clear hkk hz
          go_wp2_with fail
          go_quiet (fail)
          go_wp2_with fail
          go_meet
          exact ⟨i64_eq hv.out.symm, (by repeat (first | (with_reducible exact hS) | apply Lp.alloc | apply Lp.drewN | apply Lp.drew))⟩
      case rest =>
        obtain ⟨rfl, hS2⟩ := hcut
        clear k1 k2 k3 k4 hS
        have hS := hS2; clear hS2
        have hf0 : 0 ≤ fl0 l p jj ∧ fl0 l p jj ≤ 1010000 := by
          unfold fl0
          by_cases e : rl p jj = 0
          · rw [if_pos e]; omega
          · rw [if_neg e]
            have a1 := HF.out.at_ jj (rl p jj - 1) hlt (by omega)
            have a2 := HB.out.leg jj (rl p jj - 1) hlt (by omega)
            omega
        go_wp2_with fail
        go_loopw [6, 7] (fun a j wr => ∃ (m : Nat) (a' : Int), m ≤ (l.tr jj).legs.length ∧ j = .int .i64 m ∧ a = .int .i64 a' ∧ 0 ≤ a' ∧ a' ≤ 1010000 + 20000 * m ∧ Hid (floorT l p last jj = foldF (flM l last jj) m (l.tr jj).legs.length a') ∧ Lp w wr [(wo.heap.size, #[.int .i64 (l.tr jj).frm, .int .i64 (l.tr jj).ready, .int .i64 (l.tr jj).due, .int .i64 (l.tr jj).weight, .slice (some ⟨bl jj, ol jj, none⟩) (l.tr jj).legs.length (cl jj)], 80)]) (fun _ j _ => (l.tr jj).legs.length - (intOf j).toNat)
        case atStart => exact ⟨rl p jj, fl0 l p jj, hlen, rfl, rfl, hf0.1, by omega, floorT_rl l p last jj, hS⟩
        case round =>
          clear hS
          obtain ⟨m, a, hm, rfl, rfl, ha0, ha1, HD, hS⟩ := hrel
          obtain ⟨k1, k2, k3, k4⟩ := hS.open1
          by_cases hlm : m < (l.tr jj).legs.length
          · obtain ⟨f0, f1, f2⟩ := HS.out.leg jj m hlt hlm
            obtain ⟨_, _, y1, y2, y3, y4⟩ := HB.out.leg jj m hlt hlm
            have HM := Lib.hid (foldF_at (flM l last jj) hlm a)
            by_cases hc : a + (l.leg jj m).stay < last
            · have hv : Hid (flM l last jj m a = last + (l.leg jj m).run) := by unfold Hid flM; rw [Int.max_eq_right (by omega)]
              go_wp2_with fail
              exact ⟨⟨m + 1, _, by omega, by go_num, rfl, by omega, by omega, by rw [HD.out, HM.out, hv.out]; rfl, (by repeat (first | (with_reducible exact hS) | apply Lp.alloc | apply Lp.drewN | apply Lp.drew))⟩, (by simp [intOf]; omega)⟩
            · have hv : Hid (flM l last jj m a = a + (l.leg jj m).stay + (l.leg jj m).run) := by unfold Hid flM; rw [Int.max_eq_left (by omega)]
              go_wp2_with fail
              exact ⟨⟨m + 1, _, by omega, by go_num, rfl, by omega, by omega, by rw [HD.out, HM.out, hv.out]; rfl, (by repeat (first | (with_reducible exact hS) | apply Lp.alloc | apply Lp.drewN | apply Lp.drew))⟩, (by simp [intOf]; omega)⟩
          · obtain rfl : m = (l.tr jj).legs.length := by omega
            have hv : Hid (floorT l p last jj = a) := by unfold Hid; rw [HD.out, foldF_end _ (Nat.le_refl _)]
            obtain ⟨hb0, hb1⟩ := lateT_bd hT.out (e := a) (by omega)
            have hX := hS.ext
            go_wp2_with fail
            refine (l1late_any (HTJ.out.ext (hX.trans (by repeat (first | (with_reducible assumption) | (with_reducible exact Ext.refl _) | apply Ext.alloc | apply Ext.drewN | apply Ext.drew)))) hT.out a (by omega) (by omega)).mono ?_
            rintro e w1 ⟨rfl, hE⟩
            have hT1 := hS.trans (Ext.trans (by repeat (first | (with_reducible assumption) | (with_reducible exact Ext.refl _) | apply Ext.alloc | apply Ext.drewN | apply Ext.drew)) hE)
            have hY := hT1.ext
            go_wp2_with fail
            exact ⟨⟨jj + 1, q + lateT (l.tr jj) a, by omega, by go_num, rfl, by omega, by omega, by rw [HC.out, HN.out, hv.out]; unfold Hid; omega, hY⟩, (by simp [intOf]; omega)⟩
    · obtain rfl : jj = l.trains.length := by omega
      have hv : Hid (floorS l p last = q) := by unfold Hid; rw [HC.out, sumF_end _ (Nat.le_refl _)]; omega
      go_wp2_with fail
      go_ret
      exact ⟨ret_i64 hv.out.symm, hE⟩
end Go.Proofs.Ythhkbfjolmgloaa
