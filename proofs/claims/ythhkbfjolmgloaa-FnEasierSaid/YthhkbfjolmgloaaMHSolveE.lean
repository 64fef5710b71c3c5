/- impl's search at a part of a plan. Condition: the line is right, the part was placed so. -/
import Derived.Test.YthhkbfjolmgloaaMHSolveC
namespace Go.Proofs.Ythhkbfjolmgloaa
open Go.RowKit Go.Deep
set_option linter.unusedVariables false
set_option linter.unusedSimpArgs false
set_option maxRecDepth 100000 in
set_option maxHeartbeats 16000000 in
theorem step87_more {l : Line} {B gl gq gb gf gp gr : Nat} {A0 : Option Addr} {c0 : Nat} {A2 : Option Addr} {c2 : Nat} {AR : Option Addr} {cR : Nat} (O : Ok l) (hgb : B ≤ gb) {m : Nat} (IH : LookI l B gl gq gb gf gp gr A0 c0 A2 c2 AR cR m) {w : World} {p : List (List Int)} {last : Int} {vs : Nat → Value} {acc : Acc} (X : SrBx w l A0 c0 A2 c2 gl gq gb gf gp gr) (P : Plc w B 112 l p last gp A0 c0 A2 c2 AR cR gr vs) (F : SrF gl gq gb gf l.trains.length vs) (G : Good l p last) (hn : ((m + 1 : Nat) : Int) = remain l p) (h10 : m + 1 ≤ 10) (hl : last + 20000 * ((m + 1 : Nat) : Int) ≤ 400000) (hA : BestIn w B gb l (SrS gb gp gr l.trains.length vs) acc) (hov : over (floorS l p 0) acc = false) :
    Calls Try.prog 87 #[.pointer (some ⟨gl, 0, none⟩), .pointer (some ⟨gq, 0, none⟩), .pointer (some ⟨gb, 0, none⟩), .pointer (some ⟨gf, 0, none⟩)] w fun e w' => (∃ v, e = .returned v) ∧ LookPost l B gb gp gr A0 c0 A2 c2 AR cR p last vs w (lookS l (fun _ => 0) (m + 1) p last acc) w' := by
  have HIH := Lib.hid IH
  clear IH
  have HOVR := Lib.hid hov
  clear hov
  have HX := Lib.hid X
  have HP := Lib.hid P
  have HF := Lib.hid F
  have HG := Lib.hid G
  have HN := Lib.hid hn
  have HA := Lib.hid hA
  have HO := Lib.hid O
  obtain ⟨A0', c0', A2', c2', hv, h0, h2⟩ := P.rd.line
  simp only [Value.agg.injEq, Array.mk.injEq, List.cons.injEq, Value.slice.injEq, and_true, true_and] at hv
  obtain ⟨⟨rfl, rfl⟩, rfl, rfl⟩ := hv
  obtain ⟨b0, o0, b2, o2, bl, ol, cl, SL⟩ := seeL O h0 h2
  have HS := Lib.hid SL
  have HB := Lib.hid O.bd
  have HR := Lib.hid P.rd
  have HFW := Lib.hid (G.few (by omega))
  have n5 := HB.out.n5
  have hgp := P.rd.lt
  have p3 := P.rd.b3
  have x0 := box_cell X.bl 2
  have x1 := box_cell X.bq 0
  have hgl := box_lt X.bl
  have hgq := box_lt X.bq
  have hgf := box_lt X.bf
  obtain ⟨ok, cst, AP, np, cP, hbx, hm⟩ := hA
  have y0 := box_cell hbx 0
  have y1 := box_cell hbx 1
  have y2 := box_cell hbx 2
  have hgbl := box_lt hbx
  have HBX := Lib.hid hbx
  have HM := Lib.hid hm
  clear X P F G hn O h0 h2 SL hbx hm
  go_enter Try.func87, Try.ntmps87
  go_wp2_with fail
  go_loopw [4, 5, 20] (fun al a j wr => ∃ (jj : Nat) (q : Int) (b : Bool), jj ≤ l.trains.length ∧ j = .int .i64 jj ∧ a = .int .i64 q ∧ al = .bool b ∧ 0 ≤ q ∧ q ≤ 200000000 * jj ∧ Hid (floorS l p 0 = q + sumF (fun i => lateT (l.tr i) (floorT l p 0 i)) jj l.trains.length) ∧ Hid (b = true ↔ ∀ i, i < jj → rl p i = (l.tr i).legs.length) ∧ Ext w wr) (fun _ _ j _ => l.trains.length - (intOf j).toNat)
  case atStart => exact ⟨0, 0, true, Nat.zero_le _, rfl, rfl, rfl, by omega, by omega, by unfold Hid floorS; omega, by simp [Hid], (by repeat (first | (with_reducible assumption) | (with_reducible exact Ext.refl _) | apply Ext.alloc | apply Ext.drewN | apply Ext.drew))⟩
  case round =>
    obtain ⟨jj, q, b, hjj, rfl, rfl, rfl, hq0, hq1, HC, HAL, hE⟩ := hrel
    obtain ⟨k1, k2⟩ := (Lp.of_ext hE).open0
    by_cases hlt : jj < l.trains.length
    · clear y0 y1 y2
      obtain ⟨rfl, hgr⟩ := HR.out.base (by omega)
      obtain ⟨rfl, hb2⟩ := HS.out.base2 (by omega)
      obtain ⟨e0, e1, e2, e3, e4, hbl⟩ := HS.out.train jj hlt
      obtain ⟨Aj, cj, r0, hbj⟩ := HR.out.row jj hlt
      obtain ⟨m10, m11⟩ := HB.out.nl1 jj hlt
      obtain ⟨t0, t1⟩ := HB.out.tr jj hlt
      have hlen := HFW.out.len jj hlt
      have HBJ := Lib.hid hbj; clear hbj
      have HTJ := Lib.hid (HS.out.isTrain hlt)
      have hT := Lib.hid (HO.out.train jj _ (Line.tr_at hlt))
      have HNN := Lib.hid (sumF_at (fun i => lateT (l.tr i) (floorT l p 0 i)) hlt)
      have hz2 : (0 : Int) ≤ rl p jj := by omega
      obtain ⟨wo, rfl⟩ : ∃ wo, wo = wr := ⟨_, rfl⟩
      go_upto_if 36 with fail
      have hS := (Lp.of_ext hE).newAt (g := wo.heap.size) #[.int .i64 (l.tr jj).frm, .int .i64 (l.tr jj).ready, .int .i64 (l.tr jj).due, .int .i64 (l.tr jj).weight, .slice (some ⟨bl jj, ol jj, none⟩) (l.tr jj).legs.length (cl jj)] 80 rfl
      have hw0 : w.heap.size ≤ wo.heap.size := hE.size
      generalize wo.alloc (.cells #[.int .i64 (l.tr jj).frm, .int .i64 (l.tr jj).ready, .int .i64 (l.tr jj).due, .int .i64 (l.tr jj).weight, .slice (some ⟨bl jj, ol jj, none⟩) (l.tr jj).legs.length (cl jj)] 80) = wa at hS ⊢
      clear k1 k2 hE
      obtain ⟨k1, k2, k3, k4⟩ := hS.open1
      go_cut [9] (fun s wx => s = .int .i64 (fl0 l p jj) ∧ Lp w wx [(wo.heap.size, #[.int .i64 (l.tr jj).frm, .int .i64 (l.tr jj).ready, .int .i64 (l.tr jj).due, .int .i64 (l.tr jj).weight, .slice (some ⟨bl jj, ol jj, none⟩) (l.tr jj).legs.length (cl jj)], 80)])
      case first =>
        by_cases hz : rl p jj = 0
        · have hv : Hid (fl0 l p jj = (l.tr jj).ready) := by unfold Hid fl0; rw [if_pos hz]
          have hz1 : decide (0 < rl p jj) = false := by simp; omega
          have hz2 : decide ((0 : Int) < (rl p jj : Int)) = false := by simp; omega
          have hz3 : ¬ 0 < rl p jj := by omega
          have HZ := Lib.hid hz; clear hz
          go_wp2_with fail
          go_meet
          exact ⟨i64_eq hv.out.symm, (by repeat (first | (with_reducible exact hS) | apply Lp.alloc | apply Lp.drewN | apply Lp.drew))⟩
        · obtain ⟨k, hkk⟩ : ∃ k, rl p jj = k + 1 := ⟨rl p jj - 1, by omega⟩
          have HKK := Lib.hid hkk
          have hkr : k < rl p jj := by omega
          have hkl : k < (l.tr jj).legs.length := by omega
          have hv : Hid (fl0 l p jj = st p jj k + (l.leg jj k).run) := by unfold Hid fl0; rw [if_neg hz, HKK.out]; rfl
          obtain ⟨rfl, hbr⟩ := HBJ.out (by omega)
          have s0 := HR.out.st jj k hlt hkr
          obtain ⟨g0, g1, g2⟩ := HS.out.leg jj k hlt hkl
          obtain ⟨z0, z1⟩ := HFW.out.at_ jj k hlt hkr
          obtain ⟨_, _, y1, y2, _, _⟩ := HB.out.leg jj k hlt hkl
          have hz1 : decide (0 < rl p jj) = true := by simp; omega
          have hsub : ((rl p jj : Int) - 1) = (k : Int) := by omega
          have hw : IntKind.i64.wrap ((rl p jj : Int) - 1) = (k : Int) := by rw [hsub]; exact IntWalk.i64_in _ (by omega)
          clear hkk hz
          go_wp2_with fail
          go_quiet (fail)
          go_wp2_with fail
          go_meet
          exact ⟨i64_eq hv.out.symm, (by repeat (first | (with_reducible exact hS) | apply Lp.alloc | apply Lp.drewN | apply Lp.drew))⟩
      case rest =>
        obtain ⟨rfl, hS2⟩ := hcut
        clear k1 k2 k3 k4 hS
        have hS := hS2; clear hS2
        have hf0 : 0 ≤ fl0 l p jj ∧ fl0 l p jj ≤ 1010000 := by
          unfold fl0
          by_cases e : rl p jj = 0
          · rw [if_pos e]; omega
          · rw [if_neg e]
            have a1 := HFW.out.at_ jj (rl p jj - 1) hlt (by omega)
            have a2 := HB.out.leg jj (rl p jj - 1) hlt (by omega)
            omega
        go_wp2_with fail
        go_loopw [4, 9, 10] (fun al a j wr => ∃ (m : Nat) (a' : Int) (b' : Bool), m ≤ (l.tr jj).legs.length ∧ rl p jj ≤ m ∧ j = .int .i64 m ∧ a = .int .i64 a' ∧ al = .bool b' ∧ Hid (b' = (b && decide (m = rl p jj))) ∧ 0 ≤ a' ∧ a' ≤ 1010000 + 20000 * m ∧ Hid (floorT l p 0 jj = foldF (flM l 0 jj) m (l.tr jj).legs.length a') ∧ Lp w wr [(wo.heap.size, #[.int .i64 (l.tr jj).frm, .int .i64 (l.tr jj).ready, .int .i64 (l.tr jj).due, .int .i64 (l.tr jj).weight, .slice (some ⟨bl jj, ol jj, none⟩) (l.tr jj).legs.length (cl jj)], 80)]) (fun _ _ j _ => (l.tr jj).legs.length - (intOf j).toNat)
        case atStart => exact ⟨rl p jj, fl0 l p jj, b, hlen, Nat.le_refl _, rfl, rfl, rfl, by simp [Hid], hf0.1, by omega, floorT_rl l p 0 jj, hS⟩
        case round =>
          clear hS
          obtain ⟨m, a, b', hm, hrm, rfl, rfl, rfl, HBB, ha0, ha1, HD, hS⟩ := hrel
          obtain ⟨k1, k2, k3, k4⟩ := hS.open1
          by_cases hlm : m < (l.tr jj).legs.length
          · obtain ⟨f0, f1, f2⟩ := HS.out.leg jj m hlt hlm
            obtain ⟨_, _, y1, y2, y3, y4⟩ := HB.out.leg jj m hlt hlm
            have HMM := Lib.hid (foldF_at (flM l 0 jj) hlm a)
            have hv : Hid (flM l 0 jj m a = a + ((l.leg jj m).stay + (l.leg jj m).run)) := flM_zero (by omega)
            have hB2 : Hid (false = (b && decide (m + 1 = rl p jj))) := by
              have : ¬ m + 1 = rl p jj := by omega
              simp [Hid, this]
            clear HBB
            go_upto_region 12 with fail
            go_quiet (fail)
            go_wp2_with fail
            exact ⟨⟨m + 1, _, false, by omega, by omega, by go_num, rfl, rfl, hB2.out, by omega, by omega, by rw [HD.out, HMM.out, hv.out]; rfl, (by repeat (first | (with_reducible exact hS) | apply Lp.alloc | apply Lp.drewN | apply Lp.drew))⟩, (by simp [intOf]; omega)⟩
          · obtain rfl : m = (l.tr jj).legs.length := by omega
            have hv : Hid (floorT l p 0 jj = a) := by unfold Hid; rw [HD.out, foldF_end _ (Nat.le_refl _)]
            have HAL2 : Hid (b' = true ↔ ∀ i, i < jj + 1 → rl p i = (l.tr i).legs.length) := by
              unfold Hid
              rw [HBB.out, Bool.and_eq_true, HAL.out, decide_eq_true_eq]
              constructor
              · rintro ⟨q1, q2⟩ i hi
                by_cases e : i = jj
                · subst e; exact q2.symm
                · exact q1 i (by omega)
              · intro q
                exact ⟨fun i hi => q i (by omega), (q jj (by omega)).symm⟩
            obtain ⟨hb0, hb1⟩ := lateT_bd hT.out (e := a) (by omega)
            have hX := hS.ext
            clear HAL HBB
            go_wp2_with fail
            refine (late_any (HTJ.out.ext (hX.trans (by repeat (first | (with_reducible assumption) | (with_reducible exact Ext.refl _) | apply Ext.alloc | apply Ext.drewN | apply Ext.drew)))) hT.out a (by omega) (by omega)).mono ?_
            rintro e w1 ⟨rfl, hE⟩
            have hT1 := hS.trans (Ext.trans (by repeat (first | (with_reducible assumption) | (with_reducible exact Ext.refl _) | apply Ext.alloc | apply Ext.drewN | apply Ext.drew)) hE)
            have hY := hT1.ext
            go_wp2_with fail
            exact ⟨⟨jj + 1, q + lateT (l.tr jj) a, b', by omega, by go_num, rfl, rfl, by omega, by omega, by rw [HC.out, HNN.out, hv.out]; unfold Hid; omega, HAL2.out, hY⟩, (by simp [intOf]; omega)⟩
    · obtain rfl : jj = l.trains.length := by omega
      have hv : Hid (floorS l p 0 = q) := by unfold Hid; rw [HC.out, sumF_end _ (Nat.le_refl _)]; omega
      have hbe : Hid (b = true ↔ m + 1 = 0) := by
        unfold Hid
        rw [HAL.out]
        constructor
        · intro h
          have : remain l p = 0 := sumF_zero fun j _ hj => by have := h j hj; unfold rl at this; omega
          have := HN.out
          omega
        · intro h
          omega
      have HEX := Lib.hid hE
      clear HC HAL hE
      have HOV : Hid (over q acc = false) := by unfold Hid; rw [← hv.out]; exact HOVR.out
      have hgo : (ok = false ∨ (ok = true ∧ decide (cst < q) = false)) := by
        cases acc with
        | none => exact Or.inl HM.out.1
        | some cb => obtain ⟨c, b⟩ := cb; obtain ⟨q1, rfl, _⟩ := HM.out; exact Or.inr ⟨q1, HOV.out⟩
      go_upto_region 16 with fail
      go_cut [92] (fun s wx => s = .bool false ∧ wx = wr)
      case first =>
        rcases hgo with rfl | ⟨rfl, hd⟩
        all_goals (
          go_wp2_with fail
          go_meet
          exact ⟨rfl, rfl⟩)
      case rest =>
        obtain ⟨rfl, rfl⟩ := hcut
        clear hgo
        obtain rfl : b = false := by
          have := hbe.out
          cases b with
          | false => rfl
          | true => exact absurd (this.1 rfl) (by omega)
        have hend : Hid (lookS l (fun _ => 0) (m + 1) p last acc = foldF (kidF l (fun _ => 0) m p last) 0 l.trains.length acc) := lookS_go (fl := fun _ => 0) (by rw [hv.out]; exact HOV.out)
        have HLP0 : Hid (LookPost l B gb gp gr A0 c0 A2 c2 AR cR p last vs w acc wc) := lookPost_same HP.out HA.out HEX.out
        have hlw : last ≤ 1000000 := by omega
        go_wp2_with fail
        clear k1 k2 y0 y1 y2
        go_loopw [138] (fun j wr => ∃ (jj : Nat) (acc' : Acc), jj ≤ l.trains.length ∧ j = .int .i64 jj ∧ Hid (foldF (kidF l (fun _ => 0) m p last) jj l.trains.length acc' = lookS l (fun _ => 0) (m + 1) p last acc) ∧ Hid (LookPost l B gb gp gr A0 c0 A2 c2 AR cR p last vs w acc' wr)) (fun j _ => l.trains.length - (intOf j).toNat)
        case atStart => exact ⟨0, acc, Nat.zero_le _, rfl, hend.out.symm, HLP0.out⟩
        case round =>
          clear HLP0 hend
          obtain ⟨jj, acc', hjj, rfl, HT, HLP⟩ := hrel
          by_cases hlt : jj < l.trains.length
          · obtain ⟨vs2, hP2, hV2, hB2, hC2⟩ := HLP.out
            have HP2 := Lib.hid hP2
            have HV2 := Lib.hid hV2
            have HB2 := Lib.hid hB2
            have HC2 := Lib.hid hC2
            have HX2 := Lib.hid (HX.out.keep HF.out hC2)
            have HF2 := Lib.hid (hV2.far HF.out (by omega))
            have hw0 := hC2.size
            clear hP2 hV2 hB2 hC2 HLP
            obtain ⟨B0', B0c, B2', B2c, hv, h0, h2⟩ := HP2.out.rd.line
            simp only [Value.agg.injEq, Array.mk.injEq, List.cons.injEq, Value.slice.injEq, and_true, true_and] at hv
            obtain ⟨⟨rfl, rfl⟩, rfl, rfl⟩ := hv
            obtain ⟨b0, o0, b2, o2, bl, ol, cl, SL⟩ := seeL HO.out h0 h2
            obtain ⟨rfl, hb2⟩ := SL.base2 (by omega)
            obtain ⟨e0, e1, e2, e3, e4, hbl⟩ := SL.train jj hlt
            have m10 := HB.out.nl1 jj hlt
            have hlen : rl p jj ≤ (l.tr jj).legs.length := HG.out.len jj hlt
            clear SL h0 h2
            obtain ⟨wo, rfl⟩ : ∃ wo, wo = wr := ⟨_, rfl⟩
            go_upto_region 28 with fail
            have hS := (Lp.nil wo).newAt (g := wo.heap.size) #[.int .i64 (l.tr jj).frm, .int .i64 (l.tr jj).ready, .int .i64 (l.tr jj).due, .int .i64 (l.tr jj).weight, .slice (some ⟨bl jj, ol jj, none⟩) (l.tr jj).legs.length (cl jj)] 80 rfl
            generalize wo.alloc (.cells #[.int .i64 (l.tr jj).frm, .int .i64 (l.tr jj).ready, .int .i64 (l.tr jj).due, .int .i64 (l.tr jj).weight, .slice (some ⟨bl jj, ol jj, none⟩) (l.tr jj).legs.length (cl jj)] 80) = wa at hS ⊢
            have hEa := Lib.hid hS.ext
            have HPa := Lib.hid (HP2.out.ext hS.ext)
            obtain ⟨k1, k2, k3, k4⟩ := hS.open1
            have p3 := HPa.out.rd.b3
            have p4 := HPa.out.rd.b4
            have hgp2 := HPa.out.rd.lt
            obtain ⟨rfl, hgr2⟩ := HPa.out.rd.base (by omega)
            obtain ⟨Aj, cj, r0, hbj⟩ := HPa.out.rd.row jj hlt
            have hvi : Hid (vs2 jj = .slice Aj (rl p jj) cj) := HPa.out.row_val hlt r0
            have bq2 := hS.ext.box HX2.out.bq
            have v1 := box_cell bq2 0
            have v2 := box_lt bq2
            clear k1 k2 bq2 hbj
            by_cases hf : rl p jj < (l.tr jj).legs.length
            · have hq : ((rl p jj : Int) == ((l.tr jj).legs.length : Int)) = false := by simp; omega
              go_quiet (fail)
              have hR := HPa.out.rd
              have HNX := Lib.hid (fun (W : World) (e : Ext wa W) => pnext_any (hR.ext e) HO.out HG.out hlw hlt hf)
              rcases hst : stepT l p last jj with _ | t
              · have hsv := stepV_none hst
                rw [hsv] at HNX
                have hT2 : Hid (foldF (kidF l (fun _ => 0) m p last) (jj + 1) l.trains.length acc' = lookS l (fun _ => 0) (m + 1) p last acc) := by
                  have := HT.out; rw [foldF_at _ hlt, kidF_none hf hst] at this; exact this
                clear hR hst HT
                go_wp2_with fail
                refine (HNX.out _ (by repeat (first | (with_reducible assumption) | (with_reducible exact Ext.refl _) | apply Ext.alloc | apply Ext.drewN | apply Ext.drew))).mono ?_
                rintro e w5 ⟨rfl, hE5⟩
                have hE6 : Ext wo w5 := hEa.out.trans (Ext.trans (by repeat (first | (with_reducible assumption) | (with_reducible exact Ext.refl _) | apply Ext.alloc | apply Ext.drewN | apply Ext.drew)) hE5)
                have HL6 : Hid (LookPost l B gb gp gr A0 c0 (some ⟨b2, o2, none⟩) c2 (some ⟨gr, 0, none⟩) cR p last vs w acc' w5) := ⟨vs2, HP2.out.ext hE6, HV2.out, HB2.out.keep (S' := fun _ => False) (Chg.of_ext hE6) id (fun _ _ h => h.elim) (fun _ _ h => h), HC2.out.trans (Chg.of_ext hE6)⟩
                go_wp2_with fail
                exact ⟨⟨jj + 1, acc', by omega, by go_num, hT2.out, HL6.out⟩, (by simp [intOf]; omega)⟩
              · have hsv := stepV_some hst
                rw [hsv] at HNX
                have hT2 : Hid (foldF (kidF l (fun _ => 0) m p last) (jj + 1) l.trains.length (lookS l (fun _ => 0) m (put p jj t) t acc') = lookS l (fun _ => 0) (m + 1) p last acc) := by
                  have := HT.out; rw [foldF_at _ hlt, kidF_some hf hst] at this; exact this
                have hbd := stepT_ok HO.out HG.out hlt hf (by omega) hst
                have hl0 := HG.out.last0
                have ht0 : 0 ≤ t := by omega
                have ht1 : t + 20000 * m ≤ 400000 := by omega
                have hd0 : decide (t < 0) = false := by simp; omega
                have HG3 := Lib.hid (HG.out.step HO.out hlt hf (by omega) hst)
                have hip : jj < p.length := by rw [HP2.out.rows]; exact hlt
                have HN3 : Hid ((m : Int) = remain l (put p jj t)) := by unfold Hid; rw [remain_put hip hlt, ← HN.out]; omega
                clear hR hst HT hbd
                go_wp2_with fail
                refine (HNX.out _ (by repeat (first | (with_reducible assumption) | (with_reducible exact Ext.refl _) | apply Ext.alloc | apply Ext.drewN | apply Ext.drew))).mono ?_
                rintro e w5 ⟨rfl, hE5⟩
                have hXw : Ext wo w5 := hEa.out.trans (Ext.trans (by repeat (first | (with_reducible assumption) | (with_reducible exact Ext.refl _) | apply Ext.alloc | apply Ext.drewN | apply Ext.drew)) hE5)
                clear p3 p4 r0 hgp2 hgr2 v1 v2 k3 k4 hS hE5
                have HP5 := Lib.hid (HP2.out.ext hXw)
                have bq5 := hXw.box HX2.out.bq
                have v1 := box_cell bq5 0
                have v2 := box_lt bq5
                have p4 := HP5.out.rd.b4
                have hgp5 := HP5.out.rd.lt
                go_upto_region 32 with fail
                clear p4 hgp5
                have HE0 : Hid (Ext wo w5.drew) := hXw.drew
                have hBd : B ≤ (w5.drew.alloc (.cells #[.int .i64 t] 3)).heap.size := by rw [alloc_size]; have := HP2.out.lo_le; have := HE0.out.size; omega
                have hN10 : rl p jj ≤ 1000000 := by omega
                have hne := HP2.out.ne
                have hgqr : gq ≠ gr := HX.out.nq.2.2
                have HO1 := Lib.hid (ownsRow_ext (HP2.out.own jj hlt) (HE0.out.alloc (.cells #[.int .i64 t] 3)))
                rw [hvi.out] at HO1
                obtain ⟨q1, q2, q3, q4, q5⟩ := plc_facts HP2.out hlt HE0.out
                obtain ⟨u1, u2, u3, u4, u5⟩ := plc_facts HP2.out hlt (HE0.out.alloc (.cells #[.int .i64 t] 3))
                rw [hvi.out] at q3 u3
                have u6 : (w5.alloc (.cells #[.int .i64 t] 3)).cell? ⟨gr, jj, none⟩ = some (.slice Aj (rl p jj) cj) := u3
                have hbq : w5.drew.heap[gq]? = some (.cells #[.pointer (some ⟨gp, 0, none⟩)] 110 (0, 0)) := bq5
                have hbu : (w5.drew.alloc (.cells #[.int .i64 t] 3)).heap[gq]? = some (.cells #[.pointer (some ⟨gp, 0, none⟩)] 110 (0, 0)) := box_old hbq _
                have hgqv : Hid ((vs2 jj).ownBlock ≠ some gq) := fun e => (HF2.out jj gq hlt e).2.1 rfl
                have hb0 := stepU_mk (stepT_mk ⟨q1, q2, q4, q5⟩) hbq
                have hb1 := stepU_mk (stepT_mk ⟨u1, u2, u4, u5⟩) hbu
                clear q1 q2 q4 q5 u1 u2 u4 u5 v1 v2 bq5
                go_cut [179] (fun s wx => ∃ g cap w6, Hid (NextFin 112 B l p last gp A0 c0 (some ⟨b2, o2, none⟩) c2 (some ⟨gr, 0, none⟩) cR gr vs2 jj t wo w6 g cap) ∧ (w6.cell? ⟨gq, 0, none⟩ = some (.pointer (some ⟨gp, 0, none⟩)) ∧ gq < w6.heap.size) ∧ wx = w6.setCell ⟨gr, jj, none⟩ (.slice (some ⟨g, 0, none⟩) (rl p jj + 1) cap))
                case first =>
                  refine wp_region_held_drew (S := StepU gp gq gr jj (.slice (some ⟨gr, 0, none⟩) l.trains.length cR)) (by kernel_rfl) hb0 (fun _ => ?_)
                  refine wpAnyH_take (i := 0) (oi := _) (v := ?_) rfl (by kernel_rfl) (by kernel_rfl) (by kernel_rfl) (fun _ _ _ h => h) (Or.inl ⟨by rfl, ?_⟩) (by assumption) ?_
                  rotate_left 1
                  · intro w hSw
                    obtain ⟨hs1, hs2, hs3, hs4, hs5, hs6⟩ := hSw
                    go_simp
                    try with_reducible rfl
                  try simp only [Act.put, List.setIfInBounds_toArray, List.set_cons_zero, List.set_cons_succ]
                  refine wpAnyH_take (i := 1) (oi := _) (v := ?_) rfl (by kernel_rfl) (by kernel_rfl) (by kernel_rfl) (fun _ _ _ h => h) (Or.inl ⟨by rfl, ?_⟩) (by assumption) ?_
                  rotate_left 1
                  · intro w hSw
                    obtain ⟨hs1, hs2, hs3, hs4, hs5, hs6⟩ := hSw
                    go_simp
                    try with_reducible rfl
                  try simp only [Act.put, List.setIfInBounds_toArray, List.set_cons_zero, List.set_cons_succ]
                  refine wpAnyH_take (i := 2) (oi := _) (v := ?_) rfl (by kernel_rfl) (by kernel_rfl) (by kernel_rfl) (fun _ _ _ h => h) (Or.inl ⟨by rfl, ?_⟩) (by assumption) ?_
                  rotate_left 1
                  · intro w hSw
                    obtain ⟨hs1, hs2, hs3, hs4, hs5, hs6⟩ := hSw
                    go_simp
                    try with_reducible rfl
                  try simp only [Act.put, List.setIfInBounds_toArray, List.set_cons_zero, List.set_cons_succ]
                  refine wpAnyH_take (i := 3) (oi := _) (v := ?_) rfl (by kernel_rfl) (by kernel_rfl) (by kernel_rfl) (fun _ _ _ h => h) (Or.inl ⟨by rfl, ?_⟩) (by assumption) ?_
                  rotate_left 1
                  · intro w hSw
                    obtain ⟨hs1, hs2, hs3, hs4, hs5, hs6⟩ := hSw
                    go_simp
                    try with_reducible rfl
                  try simp only [Act.put, List.setIfInBounds_toArray, List.set_cons_zero, List.set_cons_succ]
                  refine wpAnyH_take (i := 4) (oi := _) (v := ?_) rfl (by kernel_rfl) (by kernel_rfl) (by kernel_rfl) (fun _ _ _ h => h) (Or.inl ⟨by rfl, ?_⟩) (by assumption) ?_
                  rotate_left 1
                  · intro w hSw
                    obtain ⟨hs1, hs2, hs3, hs4, hs5, hs6⟩ := hSw
                    go_simp
                    try with_reducible rfl
                  try simp only [Act.put, List.setIfInBounds_toArray, List.set_cons_zero, List.set_cons_succ]
                  refine wpAnyH_take (i := 5) (oi := _) (v := ?_) rfl (by kernel_rfl) (by kernel_rfl) (by kernel_rfl) (fun _ _ _ h => h) (Or.inl ⟨by rfl, ?_⟩) (by assumption) ?_
                  rotate_left 1
                  · intro w hSw
                    obtain ⟨hs1, hs2, hs3, hs4, hs5, hs6⟩ := hSw
                    go_simp
                    try with_reducible rfl
                  try simp only [Act.put, List.setIfInBounds_toArray, List.set_cons_zero, List.set_cons_succ]
                  refine wpAnyH_take (i := 6) (oi := _) (v := ?_) rfl (by kernel_rfl) (by kernel_rfl) (by kernel_rfl) (fun _ _ _ h => h) (Or.inl ⟨by rfl, ?_⟩) (by assumption) ?_
                  rotate_left 1
                  · intro w hSw
                    obtain ⟨hs1, hs2, hs3, hs4, hs5, hs6⟩ := hSw
                    go_simp
                    try with_reducible rfl
                  try simp only [Act.put, List.setIfInBounds_toArray, List.set_cons_zero, List.set_cons_succ]
                  refine wpAnyH_take (i := 7) (oi := _) (v := ?_) rfl (by kernel_rfl) (by kernel_rfl) (by kernel_rfl) (fun _ _ _ h => h) (Or.inl ⟨by rfl, ?_⟩) (by assumption) ?_
                  rotate_left 1
                  · intro w hSw
                    obtain ⟨hs1, hs2, hs3, hs4, hs5, hs6⟩ := hSw
                    go_simp
                    try with_reducible rfl
                  try simp only [Act.put, List.setIfInBounds_toArray, List.set_cons_zero, List.set_cons_succ]
                  refine wpAnyH_take (i := 8) (oi := _) (v := ?_) rfl (by kernel_rfl) (by kernel_rfl) (by kernel_rfl) (fun _ _ _ h => h) (Or.inl ⟨by rfl, ?_⟩) (by assumption) ?_
                  rotate_left 1
                  · intro w hSw
                    obtain ⟨hs1, hs2, hs3, hs4, hs5, hs6⟩ := hSw
                    go_simp
                    try with_reducible rfl
                  try simp only [Act.put, List.setIfInBounds_toArray, List.set_cons_zero, List.set_cons_succ]
                  refine wpAnyH_take (i := 9) (oi := _) (v := ?_) rfl (by kernel_rfl) (by kernel_rfl) (by kernel_rfl) (fun _ _ _ h => h) (Or.inl ⟨by rfl, ?_⟩) (by assumption) ?_
                  rotate_left 1
                  · intro w hSw
                    obtain ⟨hs1, hs2, hs3, hs4, hs5, hs6⟩ := hSw
                    go_simp
                    try with_reducible rfl
                  try simp only [Act.put, List.setIfInBounds_toArray, List.set_cons_zero, List.set_cons_succ]
                  refine wpAnyH_take (i := 10) (oi := _) (v := ?_) rfl (by kernel_rfl) (by kernel_rfl) (by kernel_rfl) (fun _ _ _ h => h) (Or.inl ⟨by rfl, ?_⟩) (by assumption) ?_
                  rotate_left 1
                  · intro w hSw
                    obtain ⟨hs1, hs2, hs3, hs4, hs5, hs6⟩ := hSw
                    go_simp
                    try with_reducible rfl
                  try simp only [Act.put, List.setIfInBounds_toArray, List.set_cons_zero, List.set_cons_succ]
                  refine wpAnyH_take (i := 12) (oi := _) (v := ?_) rfl (by kernel_rfl) (by kernel_rfl) (by kernel_rfl) (fun _ _ _ h => h) (Or.inl ⟨by rfl, ?_⟩) (by assumption) ?_
                  rotate_left 1
                  · intro w hSw
                    obtain ⟨hs1, hs2, hs3, hs4, hs5, hs6⟩ := hSw
                    go_simp
                    try with_reducible rfl
                  try simp only [Act.put, List.setIfInBounds_toArray, List.set_cons_zero, List.set_cons_succ]
                  refine wpAnyH_ready (rs := [11, 13]) (by kernel_rfl) (by simp) ?_
                  refine AllReadyH.cons rfl (fun K hK => ?_) ?_
                  · go_simp
                    refine hK.out _ _ hb0 (fun _ => ?_)
                    clear hK K
                    refine wpAnyH_ready (rs := [13]) (by kernel_rfl) (by simp) ?_
                    refine AllReadyH.cons rfl (fun K hK => ?_) AllReadyH.nil
                    go_simp
                    refine hK.out _ _ hb1 (fun _ => ?_)
                    clear hK K
                    refine wpAnyH_ready (rs := [14]) (by kernel_rfl) (by simp) ?_
                    refine AllReadyH.cons rfl (fun K hK => ?_) AllReadyH.nil
                    refine app_step rfl (.tmp 175) (.tmp 177) 23 rfl B 3 1 8 _ Try.underlying23 info3 rfl (by decide) _ _ _ rfl HO1.out hBd _ _ #[.int .i64 t] _ rfl (box_new _ _) rfl (one_int _) hN10 (by decide) _ rfl ?_
                    intro g cap w6 hown hgrow hg hlt6
                    have hgrow2 : (w5.drew.alloc (.cells #[.int .i64 t] 3)).grownBy w6 (vs2 jj).ownBlock := gb_of hgrow rfl hvi.out.symm
                    have hg2 : (vs2 jj).ownBlock = some g ∨ g = (w5.drew.alloc (.cells #[.int .i64 t] 3)).heap.size := ob_of (W := w5.drew.alloc (.cells #[.int .i64 t] 3)) hg rfl hvi.out.symm
                    obtain ⟨j1, j2, j3, j4, j5⟩ := plc_facts6 HP2.out hlt HE0.out hgrow2
                    have hb6 := stepU_kept hbu hgrow2 hgqv.out (stepT_mk ⟨j1, j2, j4, j5⟩)
                    have hb7 := stepU_set (u := .slice (some ⟨g, 0, none⟩) (rl p jj + 1) cap) hb6 hne hgqr
                    have HST := Lib.hid (nextFin_mk (x := t) HP2.out hlt HE0.out hown hgrow2 hg2)
                    clear hown hgrow hg hgrow2 hg2
                    refine hK.out _ _ hb6 (fun _ => ?_)
                    clear hK K
                    refine wpAnyH_take (i := 15) (oi := _) (v := ?_) rfl (by kernel_rfl) (by kernel_rfl) (by kernel_rfl) (fun _ _ _ h => h) (Or.inl ⟨by rfl, ?_⟩) (by assumption) ?_
                    rotate_left 1
                    · intro w hSw
                      obtain ⟨hs1, hs2, hs3, hs4, hs5, hs6⟩ := hSw
                      go_simp
                      try with_reducible rfl
                    try simp only [Act.put, List.setIfInBounds_toArray, List.set_cons_zero, List.set_cons_succ]
                    refine wpAnyH_ready (rs := [16]) (by kernel_rfl) (by simp) ?_
                    refine AllReadyH.cons rfl (fun K hK => ?_) AllReadyH.nil
                    go_simp
                    refine hK.out _ _ hb7 (fun _ => ?_)
                    clear hK K
                    refine wpAnyH_done (by kernel_rfl) ?_ _
                    go_wp2_with fail
                    go_meet
                    exact ⟨_, _, _, HST, (by exact ⟨hb6.2.2.2.2.1, hb6.2.2.2.2.2⟩), rfl⟩
                  refine AllReadyH.cons rfl (fun K hK => ?_) AllReadyH.nil
                  go_simp
                  refine hK.out _ _ hb1 (fun _ => ?_)
                  clear hK K
                  refine wpAnyH_ready (rs := [11]) (by kernel_rfl) (by simp) ?_
                  refine AllReadyH.cons rfl (fun K hK => ?_) AllReadyH.nil
                  go_simp
                  refine hK.out _ _ hb1 (fun _ => ?_)
                  clear hK K
                  refine wpAnyH_ready (rs := [14]) (by kernel_rfl) (by simp) ?_
                  refine AllReadyH.cons rfl (fun K hK => ?_) AllReadyH.nil
                  refine app_step rfl (.tmp 175) (.tmp 177) 23 rfl B 3 1 8 _ Try.underlying23 info3 rfl (by decide) _ _ _ rfl HO1.out hBd _ _ #[.int .i64 t] _ rfl (box_new _ _) rfl (one_int _) hN10 (by decide) _ rfl ?_
                  intro g cap w6 hown hgrow hg hlt6
                  have hgrow2 : (w5.drew.alloc (.cells #[.int .i64 t] 3)).grownBy w6 (vs2 jj).ownBlock := gb_of hgrow rfl hvi.out.symm
                  have hg2 : (vs2 jj).ownBlock = some g ∨ g = (w5.drew.alloc (.cells #[.int .i64 t] 3)).heap.size := ob_of (W := w5.drew.alloc (.cells #[.int .i64 t] 3)) hg rfl hvi.out.symm
                  obtain ⟨j1, j2, j3, j4, j5⟩ := plc_facts6 HP2.out hlt HE0.out hgrow2
                  have hb6 := stepU_kept hbu hgrow2 hgqv.out (stepT_mk ⟨j1, j2, j4, j5⟩)
                  have hb7 := stepU_set (u := .slice (some ⟨g, 0, none⟩) (rl p jj + 1) cap) hb6 hne hgqr
                  have HST := Lib.hid (nextFin_mk (x := t) HP2.out hlt HE0.out hown hgrow2 hg2)
                  clear hown hgrow hg hgrow2 hg2
                  refine hK.out _ _ hb6 (fun _ => ?_)
                  clear hK K
                  refine wpAnyH_take (i := 15) (oi := _) (v := ?_) rfl (by kernel_rfl) (by kernel_rfl) (by kernel_rfl) (fun _ _ _ h => h) (Or.inl ⟨by rfl, ?_⟩) (by assumption) ?_
                  rotate_left 1
                  · intro w hSw
                    obtain ⟨hs1, hs2, hs3, hs4, hs5, hs6⟩ := hSw
                    go_simp
                    try with_reducible rfl
                  try simp only [Act.put, List.setIfInBounds_toArray, List.set_cons_zero, List.set_cons_succ]
                  refine wpAnyH_ready (rs := [16]) (by kernel_rfl) (by simp) ?_
                  refine AllReadyH.cons rfl (fun K hK => ?_) AllReadyH.nil
                  go_simp
                  refine hK.out _ _ hb7 (fun _ => ?_)
                  clear hK K
                  refine wpAnyH_done (by kernel_rfl) ?_ _
                  go_wp2_with fail
                  go_meet
                  exact ⟨_, _, _, HST, (by exact ⟨hb6.2.2.2.2.1, hb6.2.2.2.2.2⟩), rfl⟩
                case rest =>
                  obtain ⟨g, cap, w6, HST, ⟨q6, q7⟩, rfl⟩ := hcut
                  obtain ⟨c6p, f6p, l6p⟩ := HST.out.cells
                  obtain ⟨hP7, hC7, hnew⟩ := HST.out.post
                  clear q3 u3 u6 hbq hbu hb0 hb1 HO1
                  have hqr : gr ≠ gq := Ne.symm hgqr
                  have hpr : gr ≠ gp := Ne.symm hne
                  go_upto_region 34 with fail
                  generalize (w6.setCell ⟨gr, jj, none⟩ (.slice (some ⟨g, 0, none⟩) (rl p jj + 1) cap)).setCell ⟨gp, 4, none⟩ (.int .i64 t) = w7 at hP7 hC7 ⊢
                  clear c6p f6p l6p q6 q7 HST
                  have hV7 : NewV wo.heap.size l.trains.length vs2 (upd vs2 jj (.slice (some ⟨g, 0, none⟩) (rl p jj + 1) cap)) := NewV.upd hlt hnew
                  have hC7s : Chg (SrS gb gp gr l.trains.length vs2) wo w7 := hC7.mono (fun g _ h => own3_srs hlt g h)
                  have hX7 := HX2.out.keep HF2.out hC7s
                  have hF7 : SrF gl gq gb gf l.trains.length (upd vs2 jj (.slice (some ⟨g, 0, none⟩) (rl p jj + 1) cap)) := hV7.far HF2.out (by omega)
                  have hB7 : BestIn w7 B gb l (SrS gb gp gr l.trains.length (upd vs2 jj (.slice (some ⟨g, 0, none⟩) (rl p jj + 1) cap))) acc' := HB2.out.keep hC7 (by
                    rintro (e | e | e)
                    · exact HX.out.nb.1 e
                    · exact HX.out.nb.2 e
                    · exact (HF2.out jj gb hlt e).2.2.2 rfl) (fun g _ h => own3_srs hlt g h) (fun g hg h => hV7.srs g hg h)
                  have HCL := Lib.hid (HIH.out w7 (put p jj t) t _ acc' hX7 hP7 hF7 HG3.out HN3.out (by omega) ht1 hB7)
                  have HV7 := Lib.hid hV7
                  have HC7 := Lib.hid hC7s
                  have HF7 := Lib.hid hF7
                  have v3 := box_cell hX7.bf 0
                  have v4 := box_lt hX7.bf
                  have hX7' := Lib.hid hX7
                  have hws7 := hC7.size
                  clear hP7 hC7 hnew hV7 hC7s hF7 hB7 hX7
                  go_wp2_with fail
                  refine HCL.out.mono ?_
                  rintro e w8 ⟨⟨v8, rfl⟩, vs3, hP8, hV8, hB8, hC8⟩
                  clear v3 v4
                  have HX8 := Lib.hid (hX7'.out.keep HF7.out hC8)
                  have HF8 := Lib.hid (hV8.far HF7.out (by omega))
                  have HV8 := Lib.hid (HV7.out.trans hV8 hws7)
                  have HC8 := Lib.hid (Chg.comp HC7.out hC8 (fun g hg h => HV7.out.srs g hg h))
                  have HB8 := Lib.hid hB8
                  have HP8 := Lib.hid hP8
                  have v1 := box_cell HX8.out.bq 0
                  have v2 := box_lt HX8.out.bq
                  have c4 := box_cell hP8.box 4
                  have f4 := box_frozen hP8.box 4
                  have l4 := box_lt hP8.box
                  clear hV8 hC8 hB8 hP8
                  go_upto_region 36 with fail
                  have HP9 := Lib.hid (plc_last (last := last) HP8.out)
                  have hC9 : Chg (fun g => g = gp) w8 (w8.setCell ⟨gp, 4, none⟩ (.int .i64 last)) := (Chg.of_ext (S := fun g => g = gp) (Ext.refl w8)).setCell (Or.inl rfl) _ _
                  have bq9 := hC9.box HX8.out.bq HX.out.nq.2.1
                  clear v1 v2 c4 f4 l4
                  generalize w8.setCell ⟨gp, 4, none⟩ (.int .i64 last) = w9 at HP9 hC9 bq9 ⊢
                  have v1 := box_cell bq9 0
                  have v2 := box_lt bq9
                  have v3 := box_cell HP9.out.box 3
                  have v4 := box_lt HP9.out.box
                  have hrl9 : rl (put p jj t) jj = rl p jj + 1 := by rw [rl_put hip, if_pos rfl]
                  obtain ⟨gj, cj3, hvj, hgj, hob⟩ := plc_row1 HP9.out hlt (by omega)
                  rw [hrl9] at hvj
                  obtain ⟨_, csr, hcs, hcv⟩ := HP9.out.base (by omega)
                  have r9 : w9.cell? ⟨gr, jj, none⟩ = some (.slice (some ⟨gj, 0, none⟩) (rl p jj + 1) cj3) := by rw [box_cell hcs, hcv jj hlt, hvj]
                  have f9 : w9.frozen? ⟨gr, jj, none⟩ = false := box_frozen hcs jj
                  have v5 := box_lt hcs
                  have hcj : rl p jj + 1 ≤ cj3 := own_cap hvj (HP9.out.own jj hlt) hrl9
                  have hw9 : IntKind.i64.wrap (((rl p jj + 1 : Nat) : Int) - 1) = (rl p jj : Int) := by rw [IntWalk.i64_in _ (by omega)]; omega
                  have hw9' : IntKind.i64.wrap ((rl p jj : Int) + 1 - 1) = (rl p jj : Int) := by rw [IntWalk.i64_in _ (by omega)]; omega
                  have hc1 : (0 : Int) ≤ (rl p jj : Int) := by omega
                  have hc2 : (rl p jj : Int) ≤ (cj3 : Int) := by omega
                  have hc3 : rl p jj ≤ cj3 := by omega
                  have hw9c : IntKind.i64.wrap ((rl p jj : Nat) : Int) = (rl p jj : Int) := IntWalk.i64_in _ (by omega)
                  clear hcs hcv bq9
                  go_still_tail 23, (by kernel_rfl)
                  go_wp2_with fail
                  have HL : LookPost l B gb gp gr A0 c0 (some ⟨b2, o2, none⟩) c2 (some ⟨gr, 0, none⟩) cR p last vs w (lookS l (fun _ => 0) m (put p jj t) t acc') (w9.drew.setCell ⟨gr, jj, none⟩ (.slice (some ⟨gj, 0, none⟩) (rl p jj) cj3)) := by
                    obtain ⟨hP10, hob10⟩ := plc_back (i := jj) (c := cj3) (HP9.out.ext (Ext.refl w9).drew) hlt hvj
                    have hC10 : Chg (fun g => g = gp ∨ g = gr) w8 (w9.drew.setCell ⟨gr, jj, none⟩ (.slice (some ⟨gj, 0, none⟩) (rl p jj) cj3)) := ((hC9.mono (S' := fun g => g = gp ∨ g = gr) (fun g _ e => Or.inl e)).trans (Chg.of_ext (Ext.refl w9).drew)).setCell (Or.inl (Or.inr rfl)) _ _
                    have hV10 : NewV w.heap.size l.trains.length vs3 (upd vs3 jj (.slice (some ⟨gj, 0, none⟩) (rl p jj) cj3)) := NewV.upd hlt (fun g h => Or.inl (by rw [hob10] at h; exact h))
                    have hsrs : ∀ g, SrS gb gp gr l.trains.length (upd vs3 jj (.slice (some ⟨gj, 0, none⟩) (rl p jj) cj3)) g → SrS gb gp gr l.trains.length vs3 g := fun g h => (NewV.upd (H := g + 1) hlt (fun g h => Or.inl (by rw [hob10] at h; exact h))).srs g (by omega) h
                    refine ⟨_, hP10, (HV2.out.trans HV8.out hw0).trans hV10 (Nat.le_refl _), HB8.out.keep hC10 ?_ ?_ (fun g _ h => hsrs g h), Chg.comp (Chg.comp HC2.out HC8.out (fun g hg h => HV2.out.srs g hg h)) hC10 ?_⟩
                    · rintro (e | e)
                      · exact HX.out.nb.1 e
                      · exact HX.out.nb.2 e
                    · rintro g _ (e | e)
                      · exact Or.inr (Or.inl e)
                      · exact Or.inr (Or.inr (Or.inl e))
                    · rintro g _ (e | e)
                      · exact Or.inr (Or.inl e)
                      · exact Or.inr (Or.inr (Or.inl e))
                  exact ⟨⟨jj + 1, _, by omega, by go_num, hT2.out, HL⟩, (by simp [intOf]; omega)⟩
            · have hf' : rl p jj = (l.tr jj).legs.length := by omega
              have hq : ((rl p jj : Int) == ((l.tr jj).legs.length : Int)) = true := by simp; omega
              have hT2 : Hid (foldF (kidF l (fun _ => 0) m p last) (jj + 1) l.trains.length acc' = lookS l (fun _ => 0) (m + 1) p last acc) := by
                have := HT.out; rw [foldF_at _ hlt, kidF_full hf] at this; exact this
              clear HT
              have HL6 : ∀ n : Nat, LookPost l B gb gp gr A0 c0 (some ⟨b2, o2, none⟩) c2 (some ⟨gr, 0, none⟩) cR p last vs w acc' (wa.drewN n) := fun n => by
                have hE6 : Ext wo (wa.drewN n) := hEa.out.drewN n
                exact ⟨vs2, HP2.out.ext hE6, HV2.out, HB2.out.keep (S' := fun _ => False) (Chg.of_ext hE6) id (fun _ _ h => h.elim) (fun _ _ h => h), HC2.out.trans (Chg.of_ext hE6)⟩
              go_quiet (fail)
              go_wp2_with fail
              exact ⟨⟨jj + 1, acc', by omega, by go_num, hT2.out, HL6 _⟩, (by simp [intOf]; omega)⟩
          · obtain rfl : jj = l.trains.length := by omega
            have hT2 : lookS l (fun _ => 0) (m + 1) p last acc = acc' := by
              have := HT.out; rw [foldF_end _ (Nat.le_refl _)] at this; exact this.symm
            have HTT := Lib.hid hT2; clear hT2
            go_wp2_with fail
            exact bodyPost_end (v := .tuple #[]) (by simp [results, Try.results87, go_sem]) rfl ⟨⟨_, rfl⟩, by rw [HTT.out]; exact HLP.out⟩
end Go.Proofs.Ythhkbfjolmgloaa
