/- impl's search at a whole plan. Condition: the line is right, the part was placed so. -/
import Derived.Test.YthhkbfjolmgloaaMHSolveC
namespace Go.Proofs.Ythhkbfjolmgloaa
open Go.RowKit Go.Deep
set_option linter.unusedVariables false
set_option linter.unusedSimpArgs false
set_option maxRecDepth 100000 in
set_option maxHeartbeats 16000000 in
theorem step87_end {l : Line} {B gl gq gb gf gp gr : Nat} {A0 : Option Addr} {c0 : Nat} {A2 : Option Addr} {c2 : Nat} {AR : Option Addr} {cR : Nat} (O : Ok l) (hgb : B ≤ gb) {w : World} {p : List (List Int)} {last : Int} {vs : Nat → Value} {acc : Acc} (X : SrBx w l A0 c0 A2 c2 gl gq gb gf gp gr) (P : Plc w B 112 l p last gp A0 c0 A2 c2 AR cR gr vs) (F : SrF gl gq gb gf l.trains.length vs) (G : Good l p last) (hn : ((0 : Nat) : Int) = remain l p) (h10 : 0 ≤ 10) (hl : last + 20000 * ((0 : Nat) : Int) ≤ 400000) (hA : BestIn w B gb l (SrS gb gp gr l.trains.length vs) acc) (hov : over (floorS l p 0) acc = false) :
    Calls Try.prog 87 #[.pointer (some ⟨gl, 0, none⟩), .pointer (some ⟨gq, 0, none⟩), .pointer (some ⟨gb, 0, none⟩), .pointer (some ⟨gf, 0, none⟩)] w fun e w' => (∃ v, e = .returned v) ∧ LookPost l B gb gp gr A0 c0 A2 c2 AR cR p last vs w (lookS l (fun _ => 0) 0 p last acc) w' := by
  have HOVR := Lib.hid hov
  clear hov
  have HX := Lib.hid X
  have HP := Lib.hid P
  have HF := Lib.hid F
  have HG := Lib.hid G
  have HN := Lib.hid hn
  have HA := Lib.hid hA
  have HO := Lib.hid O
  obtain ⟨A0', c0', A2', c2', hv, h0, h2⟩ := P.rd.line
  simp only [Value.agg.injEq, Array.mk.injEq, List.cons.injEq, Value.slice.injEq, and_true, true_and] at hv
  obtain ⟨⟨rfl, rfl⟩, rfl, rfl⟩ := hv
  obtain ⟨b0, o0, b2, o2, bl, ol, cl, SL⟩ := seeL O h0 h2
  have HS := Lib.hid SL
  have HB := Lib.hid O.bd
  have HR := Lib.hid P.rd
  have HFW := Lib.hid (G.few (by omega))
  have n5 := HB.out.n5
  have hgp := P.rd.lt
  have p3 := P.rd.b3
  have x0 := box_cell X.bl 2
  have x1 := box_cell X.bq 0
  have hgl := box_lt X.bl
  have hgq := box_lt X.bq
  have hgf := box_lt X.bf
  obtain ⟨ok, cst, AP, np, cP, hbx, hm⟩ := hA
  have y0 := box_cell hbx 0
  have y1 := box_cell hbx 1
  have y2 := box_cell hbx 2
  have hgbl := box_lt hbx
  have HBX := Lib.hid hbx
  have HM := Lib.hid hm
  clear X P F G hn O h0 h2 SL hbx hm
  go_enter Try.func87, Try.ntmps87
  go_wp2_with fail
  go_loopw [4, 5, 20] (fun al a j wr => ∃ (jj : Nat) (q : Int) (b : Bool), jj ≤ l.trains.length ∧ j = .int .i64 jj ∧ a = .int .i64 q ∧ al = .bool b ∧ 0 ≤ q ∧ q ≤ 200000000 * jj ∧ Hid (floorS l p 0 = q + sumF (fun i => lateT (l.tr i) (floorT l p 0 i)) jj l.trains.length) ∧ Hid (b = true ↔ ∀ i, i < jj → rl p i = (l.tr i).legs.length) ∧ Ext w wr) (fun _ _ j _ => l.trains.length - (intOf j).toNat)
  case atStart => exact ⟨0, 0, true, Nat.zero_le _, rfl, rfl, rfl, by omega, by omega, by unfold Hid floorS; omega, by simp [Hid], (by repeat (first | (with_reducible assumption) | (with_reducible exact Ext.refl _) | apply Ext.alloc | apply Ext.drewN | apply Ext.drew))⟩
  case round =>
    obtain ⟨jj, q, b, hjj, rfl, rfl, rfl, hq0, hq1, HC, HAL, hE⟩ := hrel
    obtain ⟨k1, k2⟩ := (Lp.of_ext hE).open0
    by_cases hlt : jj < l.trains.length
    · clear y0 y1 y2
      obtain ⟨rfl, hgr⟩ := HR.out.base (by omega)
      obtain ⟨rfl, hb2⟩ := HS.out.base2 (by omega)
      obtain ⟨e0, e1, e2, e3, e4, hbl⟩ := HS.out.train jj hlt
      obtain ⟨Aj, cj, r0, hbj⟩ := HR.out.row jj hlt
      obtain ⟨m10, m11⟩ := HB.out.nl1 jj hlt
      obtain ⟨t0, t1⟩ := HB.out.tr jj hlt
      have hlen := HFW.out.len jj hlt
      have HBJ := Lib.hid hbj; clear hbj
      have HTJ := Lib.hid (HS.out.isTrain hlt)
      have hT := Lib.hid (HO.out.train jj _ (Line.tr_at hlt))
      have HNN := Lib.hid (sumF_at (fun i => lateT (l.tr i) (floorT l p 0 i)) hlt)
      have hz2 : (0 : Int) ≤ rl p jj := by omega
      obtain ⟨wo, rfl⟩ : ∃ wo, wo = wr := ⟨_, rfl⟩
      go_upto_if 36 with fail
      have hS := (Lp.of_ext hE).newAt (g := wo.heap.size) #[.int .i64 (l.tr jj).frm, .int .i64 (l.tr jj).ready, .int .i64 (l.tr jj).due, .int .i64 (l.tr jj).weight, .slice (some ⟨bl jj, ol jj, none⟩) (l.tr jj).legs.length (cl jj)] 80 rfl
      have hw0 : w.heap.size ≤ wo.heap.size := hE.size
      generalize wo.alloc (.cells #[.int .i64 (l.tr jj).frm, .int .i64 (l.tr jj).ready, .int .i64 (l.tr jj).due, .int .i64 (l.tr jj).weight, .slice (some ⟨bl jj, ol jj, none⟩) (l.tr jj).legs.length (cl jj)] 80) = wa at hS ⊢
      clear k1 k2 hE
      obtain ⟨k1, k2, k3, k4⟩ := hS.open1
      go_cut [9] (fun s wx => s = .int .i64 (fl0 l p jj) ∧ Lp w wx [(wo.heap.size, #[.int .i64 (l.tr jj).frm, .int .i64 (l.tr jj).ready, .int .i64 (l.tr jj).due, .int .i64 (l.tr jj).weight, .slice (some ⟨bl jj, ol jj, none⟩) (l.tr jj).legs.length (cl jj)], 80)])
      case first =>
        by_cases hz : rl p jj = 0
        · have hv : Hid (fl0 l p jj = (l.tr jj).ready) := by unfold Hid fl0; rw [if_pos hz]
          have hz1 : decide (0 < rl p jj) = false := by simp; omega
          have hz2 : decide ((0 : Int) < (rl p jj : Int)) = false := by simp; omega
          have hz3 : ¬ 0 < rl p jj := by omega
          have HZ := Lib.hid hz; clear hz
          go_wp2_with fail
          go_meet
          exact ⟨i64_eq hv.out.symm, (by repeat (first | (with_reducible exact hS) | apply Lp.alloc | apply Lp.drewN | apply Lp.drew))⟩
        · obtain ⟨k, hkk⟩ : ∃ k, rl p jj = k + 1 := ⟨rl p jj - 1, by omega⟩
          have HKK := Lib.hid hkk
          have hkr : k < rl p jj := by omega
          have hkl : k < (l.tr jj).legs.length := by omega
          have hv : Hid (fl0 l p jj = st p jj k + (l.leg jj k).run) := by unfold Hid fl0; rw [if_neg hz, HKK.out]; rfl
          obtain ⟨rfl, hbr⟩ := HBJ.out (by omega)
          have s0 := HR.out.st jj k hlt hkr
          obtain ⟨g0, g1, g2⟩ := HS.out.leg jj k hlt hkl
          obtain ⟨z0, z1⟩ := HFW.out.at_ jj k hlt hkr
          obtain ⟨_, _, y1, y2, _, _⟩ := HB.out.leg jj k hlt hkl
          have hz1 : decide (0 < rl p jj) = true := by simp; omega
          have hsub : ((rl p jj : Int) - 1) = (k : Int) := by omega
          have hw : IntKind.i64.wrap ((rl p jj : Int) - 1) = (k : Int) := by rw [hsub]; exact IntWalk.i64_in _ (by omega)
          clear hkk hz
          go_wp2_with fail
          go_quiet (fail)
          go_wp2_with fail
          go_meet
          exact ⟨i64_eq hv.out.symm, (by repeat (first | (with_reducible exact hS) | apply Lp.alloc | apply Lp.drewN | apply Lp.drew))⟩
      case rest =>
        obtain ⟨rfl, hS2⟩ := hcut
        clear k1 k2 k3 k4 hS
        have hS := hS2; clear hS2
        have hf0 : 0 ≤ fl0 l p jj ∧ fl0 l p jj ≤ 1010000 := by
          unfold fl0
          by_cases e : rl p jj = 0
          · rw [if_pos e]; omega
          · rw [if_neg e]
            have a1 := HFW.out.at_ jj (rl p jj - 1) hlt (by omega)
            have a2 := HB.out.leg jj (rl p jj - 1) hlt (by omega)
            omega
        go_wp2_with fail
        go_loopw [4, 9, 10] (fun al a j wr => ∃ (m : Nat) (a' : Int) (b' : Bool), m ≤ (l.tr jj).legs.length ∧ rl p jj ≤ m ∧ j = .int .i64 m ∧ a = .int .i64 a' ∧ al = .bool b' ∧ Hid (b' = (b && decide (m = rl p jj))) ∧ 0 ≤ a' ∧ a' ≤ 1010000 + 20000 * m ∧ Hid (floorT l p 0 jj = foldF (flM l 0 jj) m (l.tr jj).legs.length a') ∧ Lp w wr [(wo.heap.size, #[.int .i64 (l.tr jj).frm, .int .i64 (l.tr jj).ready, .int .i64 (l.tr jj).due, .int .i64 (l.tr jj).weight, .slice (some ⟨bl jj, ol jj, none⟩) (l.tr jj).legs.length (cl jj)], 80)]) (fun _ _ j _ => (l.tr jj).legs.length - (intOf j).toNat)
        case atStart => exact ⟨rl p jj, fl0 l p jj, b, hlen, Nat.le_refl _, rfl, rfl, rfl, by simp [Hid], hf0.1, by omega, floorT_rl l p 0 jj, hS⟩
        case round =>
          clear hS
          obtain ⟨m, a, b', hm, hrm, rfl, rfl, rfl, HBB, ha0, ha1, HD, hS⟩ := hrel
          obtain ⟨k1, k2, k3, k4⟩ := hS.open1
          by_cases hlm : m < (l.tr jj).legs.length
          · obtain ⟨f0, f1, f2⟩ := HS.out.leg jj m hlt hlm
            obtain ⟨_, _, y1, y2, y3, y4⟩ := HB.out.leg jj m hlt hlm
            have HMM := Lib.hid (foldF_at (flM l 0 jj) hlm a)
            have hv : Hid (flM l 0 jj m a = a + ((l.leg jj m).stay + (l.leg jj m).run)) := flM_zero (by omega)
            have hB2 : Hid (false = (b && decide (m + 1 = rl p jj))) := by
              have : ¬ m + 1 = rl p jj := by omega
              simp [Hid, this]
            clear HBB
            go_upto_region 12 with fail
            go_quiet (fail)
            go_wp2_with fail
            exact ⟨⟨m + 1, _, false, by omega, by omega, by go_num, rfl, rfl, hB2.out, by omega, by omega, by rw [HD.out, HMM.out, hv.out]; rfl, (by repeat (first | (with_reducible exact hS) | apply Lp.alloc | apply Lp.drewN | apply Lp.drew))⟩, (by simp [intOf]; omega)⟩
          · obtain rfl : m = (l.tr jj).legs.length := by omega
            have hv : Hid (floorT l p 0 jj = a) := by unfold Hid; rw [HD.out, foldF_end _ (Nat.le_refl _)]
            have HAL2 : Hid (b' = true ↔ ∀ i, i < jj + 1 → rl p i = (l.tr i).legs.length) := by
              unfold Hid
              rw [HBB.out, Bool.and_eq_true, HAL.out, decide_eq_true_eq]
              constructor
              · rintro ⟨q1, q2⟩ i hi
                by_cases e : i = jj
                · subst e; exact q2.symm
                · exact q1 i (by omega)
              · intro q
                exact ⟨fun i hi => q i (by omega), (q jj (by omega)).symm⟩
            obtain ⟨hb0, hb1⟩ := lateT_bd hT.out (e := a) (by omega)
            have hX := hS.ext
            clear HAL HBB
            go_wp2_with fail
            refine (late_any (HTJ.out.ext (hX.trans (by repeat (first | (with_reducible assumption) | (with_reducible exact Ext.refl _) | apply Ext.alloc | apply Ext.drewN | apply Ext.drew)))) hT.out a (by omega) (by omega)).mono ?_
            rintro e w1 ⟨rfl, hE⟩
            have hT1 := hS.trans (Ext.trans (by repeat (first | (with_reducible assumption) | (with_reducible exact Ext.refl _) | apply Ext.alloc | apply Ext.drewN | apply Ext.drew)) hE)
            have hY := hT1.ext
            go_wp2_with fail
            exact ⟨⟨jj + 1, q + lateT (l.tr jj) a, b', by omega, by go_num, rfl, rfl, by omega, by omega, by rw [HC.out, HNN.out, hv.out]; unfold Hid; omega, HAL2.out, hY⟩, (by simp [intOf]; omega)⟩
    · obtain rfl : jj = l.trains.length := by omega
      have hv : Hid (floorS l p 0 = q) := by unfold Hid; rw [HC.out, sumF_end _ (Nat.le_refl _)]; omega
      have hbe : Hid (b = true ↔ 0 = 0) := by
        unfold Hid
        rw [HAL.out]
        constructor
        · intro h
          have : remain l p = 0 := sumF_zero fun j _ hj => by have := h j hj; unfold rl at this; omega
          have := HN.out
          omega
        · intro _
          exact remain_zero HG.out HN.out.symm
      have HEX := Lib.hid hE
      clear HC HAL hE
      have HOV : Hid (over q acc = false) := by unfold Hid; rw [← hv.out]; exact HOVR.out
      have hgo : (ok = false ∨ (ok = true ∧ decide (cst < q) = false)) := by
        cases acc with
        | none => exact Or.inl HM.out.1
        | some cb => obtain ⟨c, b⟩ := cb; obtain ⟨q1, rfl, _⟩ := HM.out; exact Or.inr ⟨q1, HOV.out⟩
      go_upto_region 16 with fail
      go_cut [92] (fun s wx => s = .bool false ∧ wx = wr)
      case first =>
        rcases hgo with rfl | ⟨rfl, hd⟩
        all_goals (
          go_wp2_with fail
          go_meet
          exact ⟨rfl, rfl⟩)
      case rest =>
        obtain ⟨rfl, rfl⟩ := hcut
        clear hgo
        obtain rfl : b = true := hbe.out.2 rfl
        have hfull := remain_zero HG.out HN.out.symm
        have hf : Fits l p := (HG.out.can HO.out hfull (by omega)).1
        have HFT := Lib.hid hf
        have HFU := Lib.hid hfull
        have hend : Hid (lookS l (fun _ => 0) 0 p last acc = if better l p q acc = true then some (q, p) else acc) := by
          unfold Hid
          rw [lookS_end (fl := fun _ => 0) (by rw [hv.out]; exact HOV.out), hv.out, updS_better]
        obtain ⟨bt, hbt0⟩ : ∃ bt : Bool, Hid (better l p q acc = bt) := ⟨_, rfl⟩
        rw [hbt0.out] at hend
        have hpl : p.length = l.trains.length := HP.out.rows
        have HRP := Lib.hid HP.out.prows.rd
        clear hf hfull
        go_upto_region 18 with fail
        go_cut [112] (fun s wx => s = .bool bt ∧ Ext wc wx)
        case first =>
          cases acc with
          | none =>
            obtain ⟨rfl, rfl, rfl, rfl, rfl⟩ := HM.out
            have hbt : Hid (better l p q none = true) := rfl
            go_quiet (fail)
            go_wp2_with fail
            go_meet
            exact ⟨by rw [← hbt0.out, hbt.out], (by repeat (first | (with_reducible assumption) | (with_reducible exact Ext.refl _) | apply Ext.alloc | apply Ext.drewN | apply Ext.drew))⟩
          | some cb =>
            obtain ⟨c, bb⟩ := cb
            obtain ⟨rfl, rfl, hbl, hfb, grb, vsb, hPb, _⟩ := HM.out
            by_cases hlt2 : q < cst
            · have hd : decide (q < cst) = true := by simp [hlt2]
              have hbt : Hid (better l p q (some (cst, bb)) = true) := by simp [Hid, better, hd]
              clear hlt2
              go_quiet (fail)
              go_wp2_with fail
              go_meet
              exact ⟨by rw [← hbt0.out, hbt.out], (by repeat (first | (with_reducible assumption) | (with_reducible exact Ext.refl _) | apply Ext.alloc | apply Ext.drewN | apply Ext.drew))⟩
            · have hd : decide (q < cst) = false := by simp [hlt2]
              have hbt : Hid (better l p q (some (cst, bb)) = (cmpP l p bb == .lt)) := by simp [Hid, better, hd]
              have HCM : Hid (∀ W, Ext w W → Calls Try.prog 89 #[.slice AR l.trains.length cR, .slice AP np cP] W fun e w' => e = .returned (.bool (cmpP l p bb == .lt)) ∧ Ext W w') := fun W e => by
                have h := impl_less_any (c := cR) (d := cP) HO.out HFT.out hfb (HRP.out.ext e) (hPb.rd.ext e)
                rw [hpl, hbl] at h
                exact h
              clear hlt2 hPb
              go_still_tail 17, (by kernel_rfl)
              go_wp2_with fail
              refine (HCM.out _ (HEX.out.trans (by repeat (first | (with_reducible assumption) | (with_reducible exact Ext.refl _) | apply Ext.alloc | apply Ext.drewN | apply Ext.drew)))).mono ?_
              rintro e w5 ⟨rfl, hE5⟩
              go_wp2_with fail
              go_meet
              exact ⟨by rw [← hbt0.out, hbt.out], Ext.trans (by repeat (first | (with_reducible assumption) | (with_reducible exact Ext.refl _) | apply Ext.alloc | apply Ext.drewN | apply Ext.drew)) hE5⟩
        case rest =>
          obtain ⟨rfl, hE2⟩ := hcut
          have hEw := HEX.out.trans hE2
          cases bt with
          | true =>
            have hres : Hid (lookS l (fun _ => 0) 0 p last acc = some (q, p)) := by unfold Hid; rw [hend.out, if_pos rfl]
            obtain ⟨z1, z2⟩ := (Lp.of_ext hEw).open0
            have hbxw := hEw.box HBX.out
            have w0 := box_cell hbxw 0
            have w1 := box_cell hbxw 1
            have w2 := box_cell hbxw 2
            have f0 := box_frozen hbxw
            have hgw := box_lt hbxw
            have gq' := z2 gq hgq
            clear y0 y1 y2 k1 k2 z1 z2 hE2
            go_upto_region 20 with fail
            have hC0 : Chg (fun g => g = gb) w (((wc.setCell ⟨gb, 0, none⟩ (.bool true)).setCell ⟨gb, 1, none⟩ (.int .i64 q)).setCell ⟨gb, 2, none⟩ (.slice none 0 0)) := (((Chg.of_ext (S := fun g => g = gb) hEw).setCell (Or.inl rfl) _ _).setCell (Or.inl rfl) _ _).setCell (Or.inl rfl) _ _
            have hb0 : (((wc.setCell ⟨gb, 0, none⟩ (.bool true)).setCell ⟨gb, 1, none⟩ (.int .i64 q)).setCell ⟨gb, 2, none⟩ (.slice none 0 0)).heap[gb]? = some (.cells #[.bool true, .int .i64 q, .slice none 0 0] 44 (0, 0)) := by rw [box_set (box_set (box_set hbxw _ _) _ _) _ _]; rfl
            clear w0 w1 w2 f0 hgw hbxw
            generalize (((wc.setCell ⟨gb, 0, none⟩ (.bool true)).setCell ⟨gb, 1, none⟩ (.int .i64 q)).setCell ⟨gb, 2, none⟩ (.slice none 0 0)) = wy at hC0 hb0 ⊢
            have hne := HX.out.nb
            have bq := hC0.box HX.out.bq HX.out.nq.1
            have bp := hC0.box HP.out.box (Ne.symm hne.1)
            have v1 := box_cell bq 0
            have v2 := box_cell bp 3
            have v3 := box_lt bq
            have v4 := box_lt bp
            go_wp2_with fail
            clear v1 v2 v3 v4 bq bp
            go_loopw [121] (fun j wr => ∃ (jj : Nat) (v : Value) (vs3 : Nat → Value), jj ≤ l.trains.length ∧ j = .int .i64 jj ∧ wr.heap[gb]? = some (.cells #[.bool true, .int .i64 q, v] 44 (0, 0)) ∧ Hid (CpI wr w.heap.size p jj v vs3) ∧ Chg (fun g => g = gb) w wr) (fun j _ => l.trains.length - (intOf j).toNat)
            case atStart => exact ⟨0, .slice none 0 0, fun _ => .slice none 0 0, Nat.zero_le _, rfl, hb0, CpI.start _ _ _ _, hC0⟩
            case round =>
              clear hb0 hC0
              obtain ⟨jj, v, vs3, hjj, rfl, hbx, HCP, hCX0⟩ := hrel
              by_cases hlt : jj < l.trains.length
              · obtain ⟨m10, m11⟩ := HB.out.nl1 jj hlt
                have HRF := Lib.hid (HFU.out jj hlt)
                have hrl1 : rl p jj ≤ 1000000 := by have h : rl p jj = (l.tr jj).legs.length := HRF.out; omega
                obtain ⟨gj, cj, hvj, hgj, hob⟩ := plc_row1 HP.out hlt (by have h : rl p jj = (l.tr jj).legs.length := HRF.out; omega)
                obtain ⟨rfl, csr, hcs, hcv⟩ := HP.out.base (by omega)
                have hcr := hCX0.box hcs (Ne.symm hne.2)
                have r0 : wr.cell? ⟨gr, jj, none⟩ = some (.slice (some ⟨gj, 0, none⟩) (rl p jj) cj) := by rw [box_cell hcr, hcv jj hlt, hvj]
                have hgrl := box_lt hcr
                have hown : wr.ownsRow B 3 1 (.slice (some ⟨gj, 0, none⟩) (rl p jj) cj) (rl p jj) (nums (p.getD jj [])) := by
                  rw [← hvj]
                  exact ownsRow_keep (HP.out.own jj hlt) hCX0 (fun g hg e => (HF.out jj g hlt hg).2.2.2 e)
                have HCL : Hid (∀ W, Ext wr.drew W → Calls Try.prog 90 #[.slice (some ⟨gj, 0, none⟩) (rl p jj) cj] W fun e w' => ∃ gu cu, e = .returned (.slice (some ⟨gu, 0, none⟩) (rl p jj) cu) ∧ w'.ownsRow W.heap.size 3 1 (.slice (some ⟨gu, 0, none⟩) (rl p jj) cu) (rl p jj) (nums (p.getD jj [])) ∧ Ext W w') := fun W e => by
                  obtain ⟨_, A', c', he, hR⟩ := rd_of_ownsP (ownsRow_ext hown ((Ext.refl wr).drew.trans e))
                  simp only [Value.slice.injEq] at he
                  obtain ⟨rfl, _, rfl⟩ := he
                  exact clone_row _ rfl hrl1 hR
                have HC2 : Hid (CpI wr.drew w.heap.size p jj v vs3) := HCP.out.ext (Ext.refl wr).drew
                have hbxd : wr.drew.heap[gb]? = some (.cells #[.bool true, .int .i64 q, v] 44 (0, 0)) := hbx
                have hb0 : StepB gb v wr.drew := ⟨box_cell hbxd 2, box_lt hbxd, box_frozen hbxd 2⟩
                have hCX : Chg (fun g => g = gb) w wr.drew := hCX0.trans (Chg.of_ext (Ext.refl wr).drew)
                have hws : w.heap.size ≤ wr.drew.heap.size := hCX.size
                clear hown hcs hcv hcr
                go_upto_region 23 with fail
                clear r0
                have cb0 : wr.cell? ⟨gb, 2, none⟩ = some v := hb0.1
                refine wp_region_held_drew (S := StepD2 gb) (by kernel_rfl) hb0.2 (fun _ => ?_)
                refine wpAnyH_take (i := 0) (oi := _) (v := ?_) rfl (by kernel_rfl) (by kernel_rfl) (by kernel_rfl) (fun _ _ _ h => h) (Or.inl ⟨by rfl, ?_⟩) (by assumption) ?_
                rotate_left 1
                · intro w hSw
                  obtain ⟨hs1, hs2⟩ := hSw
                  go_simp
                  try with_reducible rfl
                try simp only [Act.put, List.setIfInBounds_toArray, List.set_cons_zero, List.set_cons_succ]
                refine wpAnyH_take (i := 1) (oi := _) (v := ?_) rfl (by kernel_rfl) (by kernel_rfl) (by kernel_rfl) (fun _ _ _ h => h) (Or.inl ⟨by rfl, ?_⟩) (by assumption) ?_
                rotate_left 1
                · intro w hSw
                  obtain ⟨hs1, hs2⟩ := hSw
                  go_simp
                  try with_reducible rfl
                try simp only [Act.put, List.setIfInBounds_toArray, List.set_cons_zero, List.set_cons_succ]
                refine wpAnyH_take (i := 3) (oi := _) (v := ?_) rfl (by kernel_rfl) (by kernel_rfl) (by kernel_rfl) (fun _ _ _ h => h) (Or.inl ⟨by rfl, ?_⟩) (by assumption) ?_
                rotate_left 1
                · intro w hSw
                  obtain ⟨hs1, hs2⟩ := hSw
                  go_simp
                  try with_reducible rfl
                try simp only [Act.put, List.setIfInBounds_toArray, List.set_cons_zero, List.set_cons_succ]
                refine wpAnyH_ready (rs := [2, 4]) (by kernel_rfl) (by simp) ?_
                refine AllReadyH.cons rfl (fun K hK => ?_) ?_
                · go_simp
                  refine hK.out _ _ hb0.2 (fun _ => ?_)
                  clear hK K
                  refine wpAnyH_ready (rs := [4]) (by kernel_rfl) (by simp) ?_
                  refine AllReadyH.cons rfl (fun K hK => ?_) AllReadyH.nil
                  go_simp
                  go_at_call 90
                  refine (HCL.out _ (Ext.refl _)).mono ?_
                  rintro e wb ⟨gu, cu, rfl, hru, hEb⟩
                  go_wp2_with fail
                  have HBA := Lib.hid hru
                  have hbB := stepB_ext hb0 hEb
                  have hbA := stepB_ext hbB ((Ext.refl wb).alloc (.cells #[.slice (some ⟨gu, 0, none⟩) (rl p jj) cu] 23))
                  have cb1 : wb.cell? ⟨gb, 2, none⟩ = some v := hbB.1
                  have cb2 : (wb.alloc (.cells #[.slice (some ⟨gu, 0, none⟩) (rl p jj) cu] 23)).cell? ⟨gb, 2, none⟩ = some v := hbA.1
                  have HOV := Lib.hid ((HC2.out.ext hEb).own.alloc (.cells #[.slice (some ⟨gu, 0, none⟩) (rl p jj) cu] 23))
                  refine hK.out _ _ hbB.2 (fun _ => ?_)
                  clear hK K
                  refine wpAnyH_ready (rs := [5]) (by kernel_rfl) (by simp) ?_
                  refine AllReadyH.cons rfl (fun K hK => ?_) AllReadyH.nil
                  go_simp
                  refine hK.out _ _ hbA.2 (fun _ => ?_)
                  clear hK K
                  refine wpAnyH_ready (rs := [6]) (by kernel_rfl) (by simp) ?_
                  refine AllReadyH.cons rfl (fun K hK => ?_) AllReadyH.nil
                  refine app_step rfl (.tmp 127) (.tmp 130) 40 rfl w.heap.size 23 1 24 _ Try.underlying40 info23 rfl (by decide) _ _ _ rfl HOV.out (by rw [alloc_size]; have := hEb.size; omega) _ _ #[.slice (some ⟨gu, 0, none⟩) (rl p jj) cu] _ rfl (box_new _ _) rfl (one_sl _ _ _) (by omega) (by decide) _ rfl ?_
                  intro g' cap' w6 hown hgrow hg hlt6
                  have hCP := cpc_step HC2.out hws rfl HBA.out hEb hgrow hown hg
                  have hCG := cpc_chg hCX hEb hgrow (fun k hk => (HC2.out.own.lt k hk).1)
                  have hb6 := stepD2_kept hbA.2 hgrow (fun e => by have := (HC2.out.own.lt gb e).1; omega)
                  have hbx6 : w6.heap[gb]? = _ := (hgrow.block gb (by have := box_lt (hEb.box hbxd); rw [alloc_size]; omega) (fun e => by have := (HC2.out.own.lt gb e.symm).1; omega)).trans (box_old (hEb.box hbxd) _)
                  have HF : Hid (_ ∧ _ ∧ _) := ⟨hCP, hCG, hbx6⟩
                  clear hown hgrow hg hCP hCG hbx6
                  refine hK.out _ _ hb6 (fun _ => ?_)
                  clear hK K
                  refine wpAnyH_take (i := 7) (oi := _) (v := ?_) rfl (by kernel_rfl) (by kernel_rfl) (by kernel_rfl) (fun _ _ _ h => h) (Or.inl ⟨by rfl, ?_⟩) (by assumption) ?_
                  rotate_left 1
                  · intro w hSw
                    obtain ⟨hs1, hs2⟩ := hSw
                    go_simp
                    try with_reducible rfl
                  try simp only [Act.put, List.setIfInBounds_toArray, List.set_cons_zero, List.set_cons_succ]
                  refine wpAnyH_take (i := 8) (oi := _) (v := ?_) rfl (by kernel_rfl) (by kernel_rfl) (by kernel_rfl) (fun _ _ _ h => h) (Or.inl ⟨by rfl, ?_⟩) (by assumption) ?_
                  rotate_left 1
                  · intro w hSw
                    obtain ⟨hs1, hs2⟩ := hSw
                    go_simp
                    try with_reducible rfl
                  try simp only [Act.put, List.setIfInBounds_toArray, List.set_cons_zero, List.set_cons_succ]
                  refine wpAnyH_ready (rs := [9]) (by kernel_rfl) (by simp) ?_
                  refine AllReadyH.cons rfl (fun K hK => ?_) AllReadyH.nil
                  have c6 := box_cell HF.out.2.2 2
                  have c6f := box_frozen HF.out.2.2
                  have c6l := box_lt HF.out.2.2
                  go_simp
                  refine hK.out _ _ (stepD2_set hb6) (fun _ => ?_)
                  clear hK K
                  refine wpAnyH_done (by kernel_rfl) ?_ _
                  go_wp2_with fail
                  exact ⟨⟨jj + 1, _, _, by omega, by go_num, by rw [box_set HF.out.2.2]; rfl, HF.out.1.set_far hgbl _ _, HF.out.2.1.setCell (Or.inl rfl) _ _⟩, (by simp [intOf]; omega)⟩
                refine AllReadyH.cons rfl (fun K hK => ?_) AllReadyH.nil
                go_simp
                go_at_call 90
                refine (HCL.out _ (Ext.refl _)).mono ?_
                rintro e wb ⟨gu, cu, rfl, hru, hEb⟩
                go_wp2_with fail
                have HBA := Lib.hid hru
                have hbB := stepB_ext hb0 hEb
                have hbA := stepB_ext hbB ((Ext.refl wb).alloc (.cells #[.slice (some ⟨gu, 0, none⟩) (rl p jj) cu] 23))
                have cb1 : wb.cell? ⟨gb, 2, none⟩ = some v := hbB.1
                have cb2 : (wb.alloc (.cells #[.slice (some ⟨gu, 0, none⟩) (rl p jj) cu] 23)).cell? ⟨gb, 2, none⟩ = some v := hbA.1
                have HOV := Lib.hid ((HC2.out.ext hEb).own.alloc (.cells #[.slice (some ⟨gu, 0, none⟩) (rl p jj) cu] 23))
                refine hK.out _ _ hbB.2 (fun _ => ?_)
                clear hK K
                refine wpAnyH_ready (rs := [2, 5]) (by kernel_rfl) (by simp) ?_
                refine AllReadyH.cons rfl (fun K hK => ?_) ?_
                · go_simp
                  refine hK.out _ _ hbB.2 (fun _ => ?_)
                  clear hK K
                  refine wpAnyH_ready (rs := [5]) (by kernel_rfl) (by simp) ?_
                  refine AllReadyH.cons rfl (fun K hK => ?_) AllReadyH.nil
                  go_simp
                  refine hK.out _ _ hbA.2 (fun _ => ?_)
                  clear hK K
                  refine wpAnyH_ready (rs := [6]) (by kernel_rfl) (by simp) ?_
                  refine AllReadyH.cons rfl (fun K hK => ?_) AllReadyH.nil
                  refine app_step rfl (.tmp 127) (.tmp 130) 40 rfl w.heap.size 23 1 24 _ Try.underlying40 info23 rfl (by decide) _ _ _ rfl HOV.out (by rw [alloc_size]; have := hEb.size; omega) _ _ #[.slice (some ⟨gu, 0, none⟩) (rl p jj) cu] _ rfl (box_new _ _) rfl (one_sl _ _ _) (by omega) (by decide) _ rfl ?_
                  intro g' cap' w6 hown hgrow hg hlt6
                  have hCP := cpc_step HC2.out hws rfl HBA.out hEb hgrow hown hg
                  have hCG := cpc_chg hCX hEb hgrow (fun k hk => (HC2.out.own.lt k hk).1)
                  have hb6 := stepD2_kept hbA.2 hgrow (fun e => by have := (HC2.out.own.lt gb e).1; omega)
                  have hbx6 : w6.heap[gb]? = _ := (hgrow.block gb (by have := box_lt (hEb.box hbxd); rw [alloc_size]; omega) (fun e => by have := (HC2.out.own.lt gb e.symm).1; omega)).trans (box_old (hEb.box hbxd) _)
                  have HF : Hid (_ ∧ _ ∧ _) := ⟨hCP, hCG, hbx6⟩
                  clear hown hgrow hg hCP hCG hbx6
                  refine hK.out _ _ hb6 (fun _ => ?_)
                  clear hK K
                  refine wpAnyH_take (i := 7) (oi := _) (v := ?_) rfl (by kernel_rfl) (by kernel_rfl) (by kernel_rfl) (fun _ _ _ h => h) (Or.inl ⟨by rfl, ?_⟩) (by assumption) ?_
                  rotate_left 1
                  · intro w hSw
                    obtain ⟨hs1, hs2⟩ := hSw
                    go_simp
                    try with_reducible rfl
                  try simp only [Act.put, List.setIfInBounds_toArray, List.set_cons_zero, List.set_cons_succ]
                  refine wpAnyH_take (i := 8) (oi := _) (v := ?_) rfl (by kernel_rfl) (by kernel_rfl) (by kernel_rfl) (fun _ _ _ h => h) (Or.inl ⟨by rfl, ?_⟩) (by assumption) ?_
                  rotate_left 1
                  · intro w hSw
                    obtain ⟨hs1, hs2⟩ := hSw
                    go_simp
                    try with_reducible rfl
                  try simp only [Act.put, List.setIfInBounds_toArray, List.set_cons_zero, List.set_cons_succ]
                  refine wpAnyH_ready (rs := [9]) (by kernel_rfl) (by simp) ?_
                  refine AllReadyH.cons rfl (fun K hK => ?_) AllReadyH.nil
                  have c6 := box_cell HF.out.2.2 2
                  have c6f := box_frozen HF.out.2.2
                  have c6l := box_lt HF.out.2.2
                  go_simp
                  refine hK.out _ _ (stepD2_set hb6) (fun _ => ?_)
                  clear hK K
                  refine wpAnyH_done (by kernel_rfl) ?_ _
                  go_wp2_with fail
                  exact ⟨⟨jj + 1, _, _, by omega, by go_num, by rw [box_set HF.out.2.2]; rfl, HF.out.1.set_far hgbl _ _, HF.out.2.1.setCell (Or.inl rfl) _ _⟩, (by simp [intOf]; omega)⟩
                refine AllReadyH.cons rfl (fun K hK => ?_) AllReadyH.nil
                go_simp
                refine hK.out _ _ hbA.2 (fun _ => ?_)
                clear hK K
                refine wpAnyH_ready (rs := [2]) (by kernel_rfl) (by simp) ?_
                refine AllReadyH.cons rfl (fun K hK => ?_) AllReadyH.nil
                go_simp
                refine hK.out _ _ hbA.2 (fun _ => ?_)
                clear hK K
                refine wpAnyH_ready (rs := [6]) (by kernel_rfl) (by simp) ?_
                refine AllReadyH.cons rfl (fun K hK => ?_) AllReadyH.nil
                refine app_step rfl (.tmp 127) (.tmp 130) 40 rfl w.heap.size 23 1 24 _ Try.underlying40 info23 rfl (by decide) _ _ _ rfl HOV.out (by rw [alloc_size]; have := hEb.size; omega) _ _ #[.slice (some ⟨gu, 0, none⟩) (rl p jj) cu] _ rfl (box_new _ _) rfl (one_sl _ _ _) (by omega) (by decide) _ rfl ?_
                intro g' cap' w6 hown hgrow hg hlt6
                have hCP := cpc_step HC2.out hws rfl HBA.out hEb hgrow hown hg
                have hCG := cpc_chg hCX hEb hgrow (fun k hk => (HC2.out.own.lt k hk).1)
                have hb6 := stepD2_kept hbA.2 hgrow (fun e => by have := (HC2.out.own.lt gb e).1; omega)
                have hbx6 : w6.heap[gb]? = _ := (hgrow.block gb (by have := box_lt (hEb.box hbxd); rw [alloc_size]; omega) (fun e => by have := (HC2.out.own.lt gb e.symm).1; omega)).trans (box_old (hEb.box hbxd) _)
                have HF : Hid (_ ∧ _ ∧ _) := ⟨hCP, hCG, hbx6⟩
                clear hown hgrow hg hCP hCG hbx6
                refine hK.out _ _ hb6 (fun _ => ?_)
                clear hK K
                refine wpAnyH_take (i := 7) (oi := _) (v := ?_) rfl (by kernel_rfl) (by kernel_rfl) (by kernel_rfl) (fun _ _ _ h => h) (Or.inl ⟨by rfl, ?_⟩) (by assumption) ?_
                rotate_left 1
                · intro w hSw
                  obtain ⟨hs1, hs2⟩ := hSw
                  go_simp
                  try with_reducible rfl
                try simp only [Act.put, List.setIfInBounds_toArray, List.set_cons_zero, List.set_cons_succ]
                refine wpAnyH_take (i := 8) (oi := _) (v := ?_) rfl (by kernel_rfl) (by kernel_rfl) (by kernel_rfl) (fun _ _ _ h => h) (Or.inl ⟨by rfl, ?_⟩) (by assumption) ?_
                rotate_left 1
                · intro w hSw
                  obtain ⟨hs1, hs2⟩ := hSw
                  go_simp
                  try with_reducible rfl
                try simp only [Act.put, List.setIfInBounds_toArray, List.set_cons_zero, List.set_cons_succ]
                refine wpAnyH_ready (rs := [9]) (by kernel_rfl) (by simp) ?_
                refine AllReadyH.cons rfl (fun K hK => ?_) AllReadyH.nil
                have c6 := box_cell HF.out.2.2 2
                have c6f := box_frozen HF.out.2.2
                have c6l := box_lt HF.out.2.2
                go_simp
                refine hK.out _ _ (stepD2_set hb6) (fun _ => ?_)
                clear hK K
                refine wpAnyH_done (by kernel_rfl) ?_ _
                go_wp2_with fail
                exact ⟨⟨jj + 1, _, _, by omega, by go_num, by rw [box_set HF.out.2.2]; rfl, HF.out.1.set_far hgbl _ _, HF.out.2.1.setCell (Or.inl rfl) _ _⟩, (by simp [intOf]; omega)⟩
              · obtain rfl : jj = l.trains.length := by omega
                go_wp2_with fail
                exact bodyPost_ret (v := .tuple #[]) (by simp [results, Try.results87, go_sem]) rfl ⟨⟨_, rfl⟩, by rw [hres.out]; exact lookPost_new HP.out HX.out HF.out hgb hgbl HFT.out hbx HCP.out hCX0⟩
          | false =>
            have hres : Hid (lookS l (fun _ => 0) 0 p last acc = acc) := by unfold Hid; rw [hend.out, if_neg (by decide)]
            go_wp2_with fail
            exact bodyPost_ret (v := .tuple #[]) (by simp [results, Try.results87, go_sem]) rfl ⟨⟨_, rfl⟩, by rw [hres.out]; exact lookPost_same HP.out HA.out (hEw.trans (by repeat (first | (with_reducible assumption) | (with_reducible exact Ext.refl _) | apply Ext.alloc | apply Ext.drewN | apply Ext.drew)))⟩
end Go.Proofs.Ythhkbfjolmgloaa
