/- impl.ReadLine reads a text as toldL says. -/
import Derived.Test.YthhkbfjolmgloaaDoorImplP
import Derived.Test.YthhkbfjolmgloaaDoorFew
namespace Go.Proofs.YthhkbfjolmgloaaDoor
open Go.RowKit Go.Deep
set_option linter.unusedVariables false
set_option linter.unusedSimpArgs false
def strLen : Value → Nat
  | .string b => b.size
  | _ => 0
set_option maxRecDepth 100000 in
set_option maxHeartbeats 8000000 in
theorem impl_ReadLine_any {w : World} {m : Int} (hm : Max0 m w) (s : ByteArray) : Calls Tryd.prog 5 #[.string s] w fun e w' => ∃ v, e = .returned v ∧ Told2 w.heap.size w' (toldL (toL s)) v ∧ Ext w w' := by
  by_cases hbig : 4000 < s.size
  · have g0 : decide ((4000 : Int) < (s.size : Int)) = true := by rw [decide_eq_true_eq]; omega
    have HT : Hid (toldL (toL s) = ((2, 0), noLine)) := by unfold Hid toldL; rw [if_pos (by rw [toL_len]; exact hbig)]
    go_enter Tryd.func5, Tryd.ntmps5
    go_wp2_with fail
    refine bodyPost_ret (v := .agg #[.int .i64 2, .int .i64 0, .slice none 0 0, .int .i64 0, .slice none 0 0]) (by simp [results, Tryd.results5, go_sem]) rfl ⟨_, rfl, told2_no HT.out, ?_⟩
    exact (by repeat (first | (with_reducible assumption) | (with_reducible exact Ext.refl _) | apply Ext.alloc | apply Ext.drewN | apply Ext.drew))
  · have HNB := Lib.hid hbig
    have g0 : decide ((4000 : Int) < (s.size : Int)) = false := by rw [decide_eq_false_iff_not]; omega
    obtain ⟨R, hR⟩ : ∃ R, Hid (readG ((toL s).length + 1) noLine 0 (toL s) = R) := ⟨_, rfl⟩
    have HT : Hid (toldL (toL s) = endL R) := by unfold Hid toldL; rw [if_neg (by rw [toL_len]; exact hbig), hR.out]
    have hsz : s.size ≤ 4000 := by omega
    clear hbig
    go_enter Tryd.func5, Tryd.ntmps5
    go_wp2_with fail
    clear g0
    have hI0 := lnI_new (w.alloc (.cells #[.int .i64 0, .int .i64 0, .slice none 0 0, .int .i64 0, .slice none 0 0] 27)) (B := w.heap.size) (by rw [alloc_size]; omega)
    rw [alloc_size] at hI0
    have HI0 := Lib.hid hI0
    clear hI0
    have hB0 : Hid (((w.alloc (.cells #[.int .i64 0, .int .i64 0, .slice none 0 0, .int .i64 0, .slice none 0 0] 27)).alloc (.cells #[.slice none 0 0, .int .i64 0, .slice none 0 0] 25)).heap[w.heap.size]? = some (.cells #[.int .i64 0, .int .i64 0, .slice none 0 0, .int .i64 0, .slice none 0 0] 27 (0, 0))) := heap_alloc2_old _ _ _
    go_loopw [0, 4] (fun a c wr => ∃ (n f : Nat) (t : ByteArray) (l : Line) (v0 v2 : Value) (vl : Nat → Value), a = .string t ∧ c = .int .i64 n ∧ n + t.size ≤ s.size ∧ t.size + 1 ≤ f ∧ Hid (LnI w.heap.size wr (w.heap.size + 1) l v0 v2 vl) ∧ Hid (wr.heap[w.heap.size]? = some (.cells #[.int .i64 0, .int .i64 0, .slice none 0 0, .int .i64 0, .slice none 0 0] 27 (0, 0))) ∧ Hid (Ext w wr) ∧ Hid (Sz n l) ∧ Hid (n = 0 → l = noLine) ∧ Hid (readG f l n (toL t) = R)) (fun a _ _ => strLen a)
    case atStart => exact ⟨0, s.size + 1, s, noLine, _, _, fun _ => .slice none 0 0, rfl, rfl, by omega, by omega, HI0.out, hB0.out, ((Ext.refl w).alloc _).alloc _, ⟨by simp [noLine], by simp [noLine, legsN]⟩, fun _ => rfl, by have := hR.out; rw [toL_len] at this; exact this⟩
    case round =>
      obtain ⟨n, f, t, l, v0, v2, vl, rfl, rfl, hnt, hf, HI, HB, HX, HZ, HF, HG⟩ := hrel
      by_cases hend : t.size = 0 ∧ 2 ≤ n
      · obtain ⟨f', rfl⟩ : ∃ f', f = f' + 1 := ⟨f - 1, by omega⟩
        have hRl : R = .inr l := by
          have := HG.out
          rw [readG_stop ⟨by rw [toL_len]; exact hend.1, hend.2⟩] at this
          exact this.symm
        have HT2 : Hid (toldL (toL s) = endL (.inr l)) := by unfold Hid; rw [HT.out, hRl]
        have g1 : t.toList.isEmpty = true := by
          rw [toList_eq, List.eq_nil_of_length_eq_zero (show (toL t).length = 0 by rw [toL_len]; exact hend.1)]; rfl
        have g2 : decide ((n : Int) < 2) = false := by rw [decide_eq_false_iff_not]; omega
        have hnz := hnt
        clear hRl hend
        obtain ⟨A2, c2, hv2, hr2⟩ := HI.out.own.2.1.rd
        obtain ⟨_, A0, c0, hv0, hr0⟩ := rd_of_ownsP HI.out.own.1
        subst hv2
        subst hv0
        obtain ⟨q0, q1, q2, q3, q4⟩ := LnI.facts HI.out
        have HL := Lib.hid (⟨A0, c0, A2, c2, rfl, hr0, hr2⟩ : IsLine wr l (.agg #[.slice A0 l.tracks.length c0, .int .i64 l.gap, .slice A2 l.trains.length c2]))
        have HF := Lib.hid (impl_LineOk_any HL.out (HZ.out.size (by omega)))
        obtain ⟨fc, fa, hfl⟩ : ∃ fc fa, Hid (fault l = (fc, fa)) := ⟨_, _, rfl⟩
        rw [hfl.out] at HF
        unfold faultV at HF
        simp only at HF
        clear hr0 hr2
        go_upto_region 39 with (go_at_call 15; refine HF.out.mono ?_; rintro e w1 ⟨rfl, hX1⟩)
        have hfb := fault_bd l
        rw [hfl.out] at hfb
        obtain ⟨hfb1, hfb2⟩ := hfb
        simp only at hfb1 hfb2
        have HI1 := Lib.hid (HI.out.ext hX1)
        have HX1 := Lib.hid (HX.out.trans hX1)
        have HB1 : Hid (w1.heap[w.heap.size]? = _) := hX1.box HB.out
        clear q0 q1 q2 q3 q4 hX1
        obtain ⟨q0, q1, q2, q3, q4⟩ := LnI.facts HI1.out
        have k0 := box_cell HB1.out 0
        have k1 := box_cell HB1.out 1
        have k2 := box_cell HB1.out 2
        have k3 := box_cell HB1.out 3
        have k4 := box_cell HB1.out 4
        have kf := fun j => box_frozen HB1.out j
        have kl := box_lt HB1.out
        by_cases hf0 : fc = 0
        · subst hf0
          have HT3 : Hid (toldL (toL s) = ((0, 0), l)) := by unfold Hid; rw [HT2.out]; unfold endL; simp only [hfl.out]; rfl
          go_wp2_with fail
          refine bodyPost_ret (v := .agg #[.int .i64 0, .int .i64 0, .slice A0 l.tracks.length c0, .int .i64 l.gap, .slice A2 l.trains.length c2]) (by simp [results, Tryd.results5, go_sem, k0, k1, k2, k3, k4, kf, kl]) rfl ⟨_, rfl, ⟨_, _, vl, by rw [HT3.out], ?_⟩, ?_⟩
          · rw [HT3.out]
            exact (HI1.out.own.told HB1.out _ _ _ _ _).ext ((Ext.refl _).alloc _)
          refine Ext.alloc ?_ _
          iterate 5 refine Ext.setCell ?_ (Nat.le_refl _) _
          exact HX1.out
        · have g4 : (fc != 0) = true := by simp [hf0]
          have HT3 : Hid (toldL (toL s) = ((2 + fc, 0), noLine)) := by unfold Hid; rw [HT2.out]; unfold endL; simp only [hfl.out]; exact if_neg hf0
          go_wp2_with fail
          refine bodyPost_ret (v := .agg #[.int .i64 (2 + fc), .int .i64 0, .slice none 0 0, .int .i64 0, .slice none 0 0]) (by simp [results, Tryd.results5, go_sem, k0, k1, k2, k3, k4, kf, kl]) rfl ⟨_, rfl, told2_no HT3.out, ?_⟩
          refine Ext.alloc ?_ _
          iterate 5 refine Ext.setCell ?_ (Nat.le_refl _) _
          exact HX1.out
      · obtain ⟨f', rfl⟩ : ∃ f', f = f' + 1 := ⟨f - 1, by omega⟩
        have HNE : Hid (¬ ((toL t).length = 0 ∧ 2 ≤ n)) := by unfold Hid; rw [toL_len]; exact hend
        have hm1 := (hm.ext HX.out).1
        have hC := Tryd.strings_Cut t ⟨#[10]⟩ m wr (by omega) hm1
        rw [show Lib.cut t.data.toList (⟨#[10]⟩ : ByteArray).data.toList = _ from cut_of (toL t) 10] at hC
        rcases hq : cutL 10 (toL t) with _ | ⟨a, b⟩
        · rw [hq] at hC
          have HT1 : Hid (toldL (toL s) = (((1 : Int), ((n + 1 : Nat) : Int)), noLine)) := by
            unfold Hid
            have := HG.out
            rw [readG_cut HNE.out hq] at this
            rw [HT.out, ← this]; rfl
          have HC := Lib.hid hC
          clear hC hq hm1
          by_cases ht : t.size = 0
          · have g1 : t.toList.isEmpty = true := by
              rw [toList_eq, List.eq_nil_of_length_eq_zero (show (toL t).length = 0 by rw [toL_len]; exact ht)]; rfl
            have g2 : decide ((n : Int) < 2) = true := by rw [decide_eq_true_eq]; omega
            clear ht hend
            go_upto_region 8 with (go_at_call 11; refine HC.out.mono ?_; rintro e w1 ⟨rfl, nq, rfl⟩)
            have HB1 : Hid ((wr.drewN nq).heap[w.heap.size]? = _) := ((Ext.refl wr).drewN nq).box HB.out
            have HX1 := Lib.hid (HX.out.trans ((Ext.refl wr).drewN nq))
            generalize wr.drewN nq = w1 at *
            have k0 := box_cell HB1.out 0
            have k1 := box_cell HB1.out 1
            have k2 := box_cell HB1.out 2
            have k3 := box_cell HB1.out 3
            have k4 := box_cell HB1.out 4
            have kf := fun j => box_frozen HB1.out j
            have kl := box_lt HB1.out
            go_wp2_with fail
            refine bodyPost_ret (v := .agg #[.int .i64 1, .int .i64 ((n : Int) + 1), .slice none 0 0, .int .i64 0, .slice none 0 0]) (by simp [results, Tryd.results5, go_sem, k0, k1, k2, k3, k4, kf, kl]) rfl ⟨_, rfl, told2_no (b := ((n + 1 : Nat) : Int)) HT1.out, ?_⟩
            refine Ext.alloc ?_ _
            iterate 5 refine Ext.setCell ?_ (Nat.le_refl _) _
            exact HX1.out
          · have g1 : t.toList.isEmpty = false := by
              rw [toList_eq, List.isEmpty_eq_false_iff]
              intro e
              have := toL_len t
              rw [e] at this
              exact ht this.symm
            clear ht hend
            go_upto_region 8 with (go_at_call 11; refine HC.out.mono ?_; rintro e w1 ⟨rfl, nq, rfl⟩)
            have HB1 : Hid ((wr.drewN nq).heap[w.heap.size]? = _) := ((Ext.refl wr).drewN nq).box HB.out
            have HX1 := Lib.hid (HX.out.trans ((Ext.refl wr).drewN nq))
            generalize wr.drewN nq = w1 at *
            have k0 := box_cell HB1.out 0
            have k1 := box_cell HB1.out 1
            have k2 := box_cell HB1.out 2
            have k3 := box_cell HB1.out 3
            have k4 := box_cell HB1.out 4
            have kf := fun j => box_frozen HB1.out j
            have kl := box_lt HB1.out
            go_wp2_with fail
            refine bodyPost_ret (v := .agg #[.int .i64 1, .int .i64 ((n : Int) + 1), .slice none 0 0, .int .i64 0, .slice none 0 0]) (by simp [results, Tryd.results5, go_sem, k0, k1, k2, k3, k4, kf, kl]) rfl ⟨_, rfl, told2_no (b := ((n + 1 : Nat) : Int)) HT1.out, ?_⟩
            refine Ext.alloc ?_ _
            iterate 5 refine Ext.setCell ?_ (Nat.le_refl _) _
            exact HX1.out
        · rw [hq] at hC
          obtain ⟨hab, hba⟩ := cutL_len hq
          obtain ⟨sa, hsa⟩ : ∃ x : ByteArray, Hid (toL x = a ∧ (⟨a.toArray⟩ : ByteArray) = x) := ⟨⟨a.toArray⟩, by simp [toL], rfl⟩
          obtain ⟨sb, hsb⟩ : ∃ x : ByteArray, Hid (toL x = b ∧ (⟨b.toArray⟩ : ByteArray) = x) := ⟨⟨b.toArray⟩, by simp [toL], rfl⟩
          simp only [hsa.out.2, hsb.out.2] at hC
          have hasz : sa.size = a.length := by rw [← hsa.out.1, toL_len]
          have hbsz : sb.size = b.length := by rw [← hsb.out.1, toL_len]
          rw [toL_len] at hab hba
          have htp : ¬ t.size = 0 := by omega
          have g1 : t.toList.isEmpty = false := by
            rw [toList_eq, List.isEmpty_eq_false_iff]
            intro e
            have := toL_len t
            rw [e] at this
            exact htp this.symm
          have HQ : Hid (cutL 10 (toL t) = some (toL sa, toL sb)) := by unfold Hid; rw [hq, hsa.out.1, hsb.out.1]
          have HSZ : Hid (sa.size + 1 + sb.size ≤ t.size) := by unfold Hid; omega
          have hsa4 : sa.size ≤ 4000 := by omega
          have HC := Lib.hid hC
          clear hC hq hm1 hab hba hasz hbsz htp hend
          go_upto_region 8 with (go_at_call 11; refine HC.out.mono ?_; rintro e w1 ⟨rfl, nq, rfl⟩)
          have HB1 : Hid ((wr.drewN nq).heap[w.heap.size]? = _) := ((Ext.refl wr).drewN nq).box HB.out
          have HX1 := Lib.hid (HX.out.trans ((Ext.refl wr).drewN nq))
          have HI1 := Lib.hid (HI.out.ext ((Ext.refl wr).drewN nq))
          clear HI HB HX HC
          generalize wr.drewN nq = w1 at *
          go_upto_region 12 with fail
          obtain ⟨z, hz⟩ : ∃ z : Int, Hid ((n : Int) + 1 = z) := ⟨_, rfl⟩
          rw [hz.out]
          have HE8 := Lib.hid ((Ext.refl w1).alloc (.cells #[.int .i64 1, .int .i64 z, .slice none 0 0, .int .i64 0, .slice none 0 0] 27))
          have H8b : Hid (BoxAt w1.heap.size #[.int .i64 1, .int .i64 z, .slice none 0 0, .int .i64 0, .slice none 0 0] 27 (w1.alloc (.cells #[.int .i64 1, .int .i64 z, .slice none 0 0, .int .i64 0, .slice none 0 0] 27))) := box_new _ _
          have HBb : Hid (BoxAt w.heap.size #[.int .i64 0, .int .i64 0, .slice none 0 0, .int .i64 0, .slice none 0 0] 27 (w1.alloc (.cells #[.int .i64 1, .int .i64 z, .slice none 0 0, .int .i64 0, .slice none 0 0] 27))) := HE8.out.box HB1.out
          have HXb := Lib.hid (HX1.out.trans HE8.out)
          have HIb := Lib.hid (HI1.out.ext HE8.out)
          clear HE8 HX1 HI1 HB1
          generalize w1.alloc (.cells #[.int .i64 1, .int .i64 z, .slice none 0 0, .int .i64 0, .slice none 0 0] 27) = wb at *
          generalize w1.heap.size = g8 at *
          have HMb := Lib.hid (hm.ext HXb.out)
          by_cases k0 : n = 0
          · subst k0
            have hl0 := HF.out rfl
            subst hl0
            obtain ⟨ss, hss⟩ : ∃ ss, Hid (Lib.splitB ⟨#[32]⟩ 0 (Lib.countB sa ⟨#[32]⟩) sa = ss) := ⟨_, rfl⟩
            have hmap : ss.map toL = splitL 32 (toL sa) := by rw [← hss.out]; exact splitB_of sa 32
            have hC := Tryd.strings_Split sa ⟨#[32]⟩ m wb (by omega) HMb.out.1 (by decide)
            rw [hss.out] at hC
            have hlen : Lib.countB sa ⟨#[32]⟩ + 1 = ss.length := by rw [← hss.out, Lib.splitB_all _ (by decide) 0 _ sa rfl]
            rw [hlen] at hC
            have HC := Lib.hid hC
            have HZS := Lib.hid (words_size hsa4 hmap)
            have hlw : ss.length ≤ 4001 := by rw [← List.length_map (f := toL), hmap]; have := splitL_len 32 (toL sa); rw [toL_len] at this; omega
            obtain ⟨x0, xs0, hx0⟩ := splitL_ne 32 (toL sa)
            obtain ⟨y, ys, hy⟩ : ∃ y ys, Hid (ss = y :: ys) := by
              cases ss with
              | nil => rw [hx0] at hmap; cases hmap
              | cons y ys => exact ⟨y, ys, rfl⟩
            have hsl : splitL 32 (toL sa) = toL y :: ys.map toL := by rw [← hmap, hy.out]; rfl
            have HTF := Lib.hid (takeL_first (l := noLine) hsl)
            have HNL : Hid (ss.length = ys.length + 1) := by unfold Hid; rw [hy.out]; rfl
            have hp : 0 < ss.length := by have := HNL.out; omega
            have f0 : (ss.map Value.string).toArray[0]? = some (.string y) := by rw [hy.out]; rfl
            have HF0 := Lib.hid f0
            have HYL : Hid (ys.length ≤ 4000) := by have := HNL.out; unfold Hid; omega
            clear hss hmap hC hlen hsl hx0 f0
            go_upto_region 23 with (go_at_call 12; refine HC.out.mono ?_; rintro e w2 ⟨rfl, rfl⟩)
            have HS2 : Hid (BoxAt wb.heap.size (ss.map Value.string).toArray 9 (wb.alloc (.cells (ss.map Value.string).toArray 9))) := box_new _ _
            have HE := Lib.hid ((Ext.refl wb).alloc (.cells (ss.map Value.string).toArray 9))
            generalize wb.alloc (.cells (ss.map Value.string).toArray 9) = w2 at *
            generalize wb.heap.size = gs at *
            have f0 := (box_cell HS2.out 0).trans HF0.out
            have fl := box_lt HS2.out
            clear HC
            by_cases hw : toL y = bTracks
            · have g1 : (!y.toList == [116, 114, 97, 99, 107, 115]) = false := by rw [toList_eq, hw]; rfl
              by_cases h2 : ss.length < 2
              · have g2 : decide ((ss.length : Int) < 2) = true := by rw [decide_eq_true_eq]; omega
                have hR0 : takeL noLine (toL sa) 0 = none := by
                  rw [HTF.out]
                  exact if_pos (Or.inr (Or.inl (by rw [List.length_map]; have := HNL.out; omega)))
                have HT1 : Hid (toldL (toL s) = (((1 : Int), z), noLine)) := by
                  unfold Hid
                  have := HG.out
                  rw [readG_bad HNE.out HQ.out hR0] at this
                  rw [HT.out, ← this, ← hz.out]; rfl
                have HB2 := Lib.hid (BoxAt.ext (w' := w2) HBb.out HE.out)
                have H82 := Lib.hid (BoxAt.ext (w' := w2) H8b.out HE.out)
                have HX2 := Lib.hid (HXb.out.trans HE.out)
                clear hR0 hw h2
                have k0 := box_cell HB2.out 0
                have k1 := box_cell HB2.out 1
                have k2 := box_cell HB2.out 2
                have k3 := box_cell HB2.out 3
                have k4 := box_cell HB2.out 4
                have kf := fun j => box_frozen HB2.out j
                have kl := box_lt HB2.out
                have j0 := box_cell H82.out 0
                have j1 := box_cell H82.out 1
                have j2 := box_cell H82.out 2
                have j3 := box_cell H82.out 3
                have j4 := box_cell H82.out 4
                have jl := box_lt H82.out
                go_wp2_with fail
                refine bodyPost_ret (v := .agg #[.int .i64 1, .int .i64 z, .slice none 0 0, .int .i64 0, .slice none 0 0]) (by simp [results, Tryd.results5, go_sem, k0, k1, k2, k3, k4, kf, kl]) rfl ⟨_, rfl, told2_no HT1.out, ?_⟩
                iterate 5 refine Ext.setCell ?_ (Nat.le_refl _) _
                exact HX2.out
              · have g2 : decide ((ss.length : Int) < 2) = false := by rw [decide_eq_false_iff_not]; omega
                by_cases h40 : 40 < ss.length
                · have g3 : decide ((40 : Int) < (ss.length : Int)) = true := by rw [decide_eq_true_eq]; omega
                  have hR0 : takeL noLine (toL sa) 0 = none := by
                    rw [HTF.out]
                    exact if_pos (Or.inr (Or.inr (by rw [List.length_map]; have := HNL.out; omega)))
                  have HT1 : Hid (toldL (toL s) = (((1 : Int), z), noLine)) := by
                    unfold Hid
                    have := HG.out
                    rw [readG_bad HNE.out HQ.out hR0] at this
                    rw [HT.out, ← this, ← hz.out]; rfl
                  have HB2 := Lib.hid (BoxAt.ext (w' := w2) HBb.out HE.out)
                  have H82 := Lib.hid (BoxAt.ext (w' := w2) H8b.out HE.out)
                  have HX2 := Lib.hid (HXb.out.trans HE.out)
                  clear hR0 hw h2 h40
                  have k0 := box_cell HB2.out 0
                  have k1 := box_cell HB2.out 1
                  have k2 := box_cell HB2.out 2
                  have k3 := box_cell HB2.out 3
                  have k4 := box_cell HB2.out 4
                  have kf := fun j => box_frozen HB2.out j
                  have kl := box_lt HB2.out
                  have j0 := box_cell H82.out 0
                  have j1 := box_cell H82.out 1
                  have j2 := box_cell H82.out 2
                  have j3 := box_cell H82.out 3
                  have j4 := box_cell H82.out 4
                  have jl := box_lt H82.out
                  go_wp2_with fail
                  refine bodyPost_ret (v := .agg #[.int .i64 1, .int .i64 z, .slice none 0 0, .int .i64 0, .slice none 0 0]) (by simp [results, Tryd.results5, go_sem, k0, k1, k2, k3, k4, kf, kl]) rfl ⟨_, rfl, told2_no HT1.out, ?_⟩
                  iterate 5 refine Ext.setCell ?_ (Nat.le_refl _) _
                  exact HX2.out
                · have g3 : decide ((40 : Int) < (ss.length : Int)) = false := by rw [decide_eq_false_iff_not]; omega
                  have HTK : Hid (takeL noLine (toL sa) 0 = (numsL (ys.map toL) (List.replicate (ys.map toL).length none)).map fun ns => { noLine with tracks := ns }) := by
                    unfold Hid
                    rw [HTF.out]
                    refine if_neg ?_
                    rintro (h | h | h)
                    · exact h hw
                    · rw [List.length_map] at h; have := HNL.out; omega
                    · rw [List.length_map] at h; have := HNL.out; omega
                  clear hw HTF
                  go_wp2_with fail
                  obtain ⟨R0, hR0⟩ : ∃ R0, Hid (numsL (ys.map toL) (List.replicate (ys.map toL).length none) = R0) := ⟨_, rfl⟩
                  have HI2 := Lib.hid (HIb.out.ext HE.out)
                  clear f0 fl g1 g2 g3 hlw
                  go_loopw [136] (fun o wr => ∃ (i : Nat) (acc : List Int) (v0 v2 : Value) (vl : Nat → Value), i ≤ ys.length ∧ o = .int .i64 i ∧ Hid (acc.length = i) ∧ Hid (LnI w.heap.size wr (w.heap.size + 1) { noLine with tracks := acc } v0 v2 vl) ∧ Hid (Chg (Soft w.heap.size wb) wb wr) ∧ Hid (BoxAt gs (ss.map Value.string).toArray 9 wr) ∧ Hid ((numsL ((ys.map toL).drop i) (List.replicate (ys.length - i) none)).map (fun ns => acc ++ ns) = R0)) (fun o _ => ys.length - (intOf o).toNat)
                  case atStart => exact ⟨0, [], v0, v2, vl, Nat.zero_le _, rfl, rfl, HI2.out, Chg.of_ext HE.out, HS2.out, by unfold Hid; rw [← hR0.out, List.drop_zero, Nat.sub_zero, List.length_map]; simp⟩
                  case round =>
                    clear HI2 HS2 HIb
                    obtain ⟨i, acc, v0, v2, vl, hi, rfl, hacc, HI, HC, HS, HE2⟩ := hrel
                    by_cases hlt : i < ys.length
                    · obtain ⟨x, hx⟩ := hid_of_lt hlt
                      have hls : i < ss.length - 1 := by have := HNL.out; omega
                      have fx : wr.cell? ⟨gs, 1 + i, none⟩ = some (.string x) := (box_cell HS.out (1 + i)).trans (by rw [hy.out, Nat.add_comm 1 i]; simp [hx.out])
                      have fl := box_lt HS.out
                      have hxz : x.size ≤ 4000 := HZS.out (i + 1) x (by rw [hy.out]; exact hx.out)
                      have HN := Lib.hid (number_any (w := wr) x hxz)
                      have HE3 : Hid ((numsL (toL x :: (ys.map toL).drop (i + 1)) (none :: List.replicate (ys.length - (i + 1)) none)).map (fun ns => acc ++ ns) = R0) := by
                        unfold Hid
                        have := HE2.out
                        rw [drop_some (l := ys.map toL) (x := toL x) (by rw [List.getElem?_map, hx.out]; rfl), show ys.length - i = (ys.length - (i + 1)) + 1 by omega, List.replicate_succ] at this
                        exact this
                      have HB2 := Lib.hid (soft_keep HC.out HBb.out)
                      have H82 := Lib.hid (soft_keep HC.out H8b.out)
                      have HX2 := Lib.hid (soft_ext HXb.out HC.out)
                      cases hnb : numL (toL x) with
                      | none =>
                        rw [hnb] at HN
                        have hT0 : takeL noLine (toL sa) 0 = none := by rw [HTK.out, hR0.out, nums_none HE3.out hnb]; rfl
                        have HT1 : Hid (toldL (toL s) = (((1 : Int), z), noLine)) := by
                          unfold Hid
                          have := HG.out
                          rw [readG_bad HNE.out HQ.out hT0] at this
                          rw [HT.out, ← this, ← hz.out]; rfl
                        clear hT0 hnb HE3 HE2
                        go_upto_region 29 with (go_at_call 13; refine HN.out.mono ?_; rintro e w3 ⟨he, hX3⟩; simp only [numV] at he; subst he)
                        have HB3 := Lib.hid (BoxAt.ext (w' := w3) HB2.out hX3)
                        have H83 := Lib.hid (BoxAt.ext (w' := w3) H82.out hX3)
                        have HX3 := Lib.hid (HX2.out.trans hX3)
                        clear fx fl hX3
                        have k0 := box_cell HB3.out 0
                        have k1 := box_cell HB3.out 1
                        have k2 := box_cell HB3.out 2
                        have k3 := box_cell HB3.out 3
                        have k4 := box_cell HB3.out 4
                        have kf := fun j => box_frozen HB3.out j
                        have kl := box_lt HB3.out
                        have j0 := box_cell H83.out 0
                        have j1 := box_cell H83.out 1
                        have j2 := box_cell H83.out 2
                        have j3 := box_cell H83.out 3
                        have j4 := box_cell H83.out 4
                        have jl := box_lt H83.out
                        go_wp2_with fail
                        refine bodyPost_ret (v := .agg #[.int .i64 1, .int .i64 z, .slice none 0 0, .int .i64 0, .slice none 0 0]) (by simp [results, Tryd.results5, go_sem, k0, k1, k2, k3, k4, kf, kl]) rfl ⟨_, rfl, told2_no HT1.out, ?_⟩
                        iterate 5 refine Ext.setCell ?_ (Nat.le_refl _) _
                        exact HX3.out
                      | some q =>
                        rw [hnb] at HN
                        have HE4 := Lib.hid (nums_more HE3.out hnb)
                        clear hnb HE3 HE2
                        go_upto_region 31 with (go_at_call 13; refine HN.out.mono ?_; rintro e w3 ⟨he, hX3⟩; simp only [numV] at he; subst he)
                        have HI3 := Lib.hid (HI.out.ext hX3)
                        have HC3 := Lib.hid (HC.out.trans (Chg.of_ext hX3))
                        have HS3 := Lib.hid (BoxAt.ext HS.out hX3)
                        obtain ⟨_, A0, c0, hv0, _⟩ := rd_of_ownsP HI3.out.own.1
                        subst hv0
                        obtain ⟨q0, q1, q2, q3, q4⟩ := LnI.facts HI3.out
                        have hN : acc.length ≤ 1000000 := by have := hacc.out; have := HYL.out; omega
                        clear fx fl hX3 HI HC HS HN HB2 H82 HX2
                        go_wp2_with (at_builtin; refine app_any rfl _ _ 22 rfl w.heap.size 3 1 8 _ Tryd.underlying22 info3 rfl (by decide) _ _ _ rfl (HI3.out.own.1.alloc _) (by rw [alloc_size]; have := box_lt HI3.out.box; omega) _ _ #[.int .i64 q] _ rfl (box_new _ _) rfl (one_int _) hN (by decide) _ rfl ?_)
                        intro g cap w6 hown hgrow hg hlt6
                        obtain ⟨HI6, hbx⟩ := HI3.out.track hgrow hown
                        have HC6 := Lib.hid (chg_step HC3.out HI3.out.own.1 (by decide) hgrow hbx (by decide) HI3.out.low 0 (.slice (some ⟨g, 0, none⟩) (acc.length + 1) cap))
                        have HS6 := Lib.hid ((BoxAt.grown HS3.out HI3.out.own.1 (by decide) hgrow).set hbx (by decide) 0 (.slice (some ⟨g, 0, none⟩) (acc.length + 1) cap))
                        have HI7 := Lib.hid HI6
                        have t0 := box_lt hbx
                        have t1 := box_cell hbx 0
                        have t2 := box_frozen hbx 0
                        clear hown hgrow hg hbx q0 q1 q2 q3 q4 HI6 HI3 HC3 HS3
                        go_wp2_with fail
                        exact ⟨⟨i + 1, acc ++ [q], _, _, _, by omega, by go_num, by unfold Hid; rw [List.length_append, hacc.out]; rfl, HI7.out, HC6.out, HS6.out, HE4.out⟩, by simp [intOf]; omega⟩
                    · have hls : ¬ i < ss.length - 1 := by have := HNL.out; omega
                      have hRS : R0 = some acc := by
                        rw [← HE2.out, drop_end (l := ys.map toL) (by simp; omega), show ys.length - i = 0 by omega]
                        simp [numsL]
                      have hT0 : takeL noLine (toL sa) 0 = some { noLine with tracks := acc } := by rw [HTK.out, hR0.out, hRS]; rfl
                      have HG7 := Lib.hid ((readG_go HNE.out HQ.out hT0).symm.trans HG.out)
                      have HZ7 := Lib.hid (takeL_sz HZ.out hT0)
                      have HI7 := HI.out
                      have HC7 := Lib.hid HC.out
                      clear hT0 hRS HE2
                      go_wp2_with fail
                      exact ⟨⟨0 + 1, f', sb, _, _, _, _, rfl, by go_num, by have := HSZ.out; omega, by have := HSZ.out; omega, HI7, soft_keep HC7.out HBb.out, soft_ext HXb.out HC7.out, HZ7.out, fun h => absurd h (Nat.succ_ne_zero _), HG7.out⟩, by have := HSZ.out; simp only [strLen]; omega⟩
            · have g1 : (!y.toList == [116, 114, 97, 99, 107, 115]) = true := by
                rw [toList_eq]
                simp only [Bool.not_eq_eq_eq_not, Bool.not_true, beq_eq_false_iff_ne]
                exact hw
              have hR0 : takeL noLine (toL sa) 0 = none := by
                rw [HTF.out]
                exact if_pos (Or.inl hw)
              have HT1 : Hid (toldL (toL s) = (((1 : Int), z), noLine)) := by
                unfold Hid
                have := HG.out
                rw [readG_bad HNE.out HQ.out hR0] at this
                rw [HT.out, ← this, ← hz.out]; rfl
              have HB2 := Lib.hid (BoxAt.ext (w' := w2) HBb.out HE.out)
              have H82 := Lib.hid (BoxAt.ext (w' := w2) H8b.out HE.out)
              have HX2 := Lib.hid (HXb.out.trans HE.out)
              clear hR0 hw
              have k0 := box_cell HB2.out 0
              have k1 := box_cell HB2.out 1
              have k2 := box_cell HB2.out 2
              have k3 := box_cell HB2.out 3
              have k4 := box_cell HB2.out 4
              have kf := fun j => box_frozen HB2.out j
              have kl := box_lt HB2.out
              have j0 := box_cell H82.out 0
              have j1 := box_cell H82.out 1
              have j2 := box_cell H82.out 2
              have j3 := box_cell H82.out 3
              have j4 := box_cell H82.out 4
              have jl := box_lt H82.out
              go_wp2_with fail
              refine bodyPost_ret (v := .agg #[.int .i64 1, .int .i64 z, .slice none 0 0, .int .i64 0, .slice none 0 0]) (by simp [results, Tryd.results5, go_sem, k0, k1, k2, k3, k4, kf, kl]) rfl ⟨_, rfl, told2_no HT1.out, ?_⟩
              iterate 5 refine Ext.setCell ?_ (Nat.le_refl _) _
              exact HX2.out
          · by_cases k1 : n = 1
            · subst k1
              have gn : ((1 : Int) == 0) = false := rfl
              have HC := Lib.hid (words_any (w := wb.alloc (.cells (strs nmP).toArray 9)) ((Max0.ext HMb.out ((Ext.refl wb).alloc _))) sa hsa4 (rd_lit wb nmP (by decide)) (by decide) (cB := 1))
              go_upto_region 35 with (go_at_call 14; refine HC.out.mono ?_; rintro e w2 ⟨hN, hX⟩; have HY := Lib.hid (((Ext.refl wb).alloc _).trans hX); have HI2 := Lib.hid (HIb.out.ext HY.out); obtain ⟨q0, q1, q2, q3, q4⟩ := LnI.facts HI2.out; rcases hN.casesP (cnt := 1) (by decide) (fun ns h => numsL_count h) with ⟨hR, rfl⟩ | ⟨ns, b, c2, cur, hR, rfl, hb, hcur, hf⟩ <;> clear hN hX)
              · have hR0 : takeL l (toL sa) 1 = none := by rw [takeL_gap]; exact (congrArg _ hR).trans rfl
                have HT1 : Hid (toldL (toL s) = (((1 : Int), z), noLine)) := by
                  unfold Hid
                  have := HG.out
                  rw [readG_bad HNE.out HQ.out hR0] at this
                  rw [HT.out, ← this, ← hz.out]; rfl  
                have HB2 := Lib.hid (BoxAt.ext (w' := w2) HBb.out HY.out)
                have H82 := Lib.hid (BoxAt.ext (w' := w2) H8b.out HY.out)
                have HX2 := Lib.hid (HXb.out.trans HY.out)
                clear hR hR0
                have k0 := box_cell HB2.out 0
                have k1 := box_cell HB2.out 1
                have k2 := box_cell HB2.out 2
                have k3 := box_cell HB2.out 3
                have k4 := box_cell HB2.out 4
                have kf := fun j => box_frozen HB2.out j
                have kl := box_lt HB2.out
                have j0 := box_cell H82.out 0
                have j1 := box_cell H82.out 1
                have j2 := box_cell H82.out 2
                have j3 := box_cell H82.out 3
                have j4 := box_cell H82.out 4
                have jl := box_lt H82.out
                go_wp2_with fail
                refine bodyPost_ret (v := .agg #[.int .i64 1, .int .i64 z, .slice none 0 0, .int .i64 0, .slice none 0 0]) (by simp [results, Tryd.results5, go_sem, k0, k1, k2, k3, k4, kf, kl]) rfl ⟨_, rfl, told2_no HT1.out, ?_⟩
                iterate 5 refine Ext.setCell ?_ (Nat.le_refl _) _
                exact HX2.out
              · have hR0 : takeL l (toL sa) 1 = some { l with gap := ns.getD 0 0 } := by rw [takeL_gap]; exact (congrArg _ hR).trans rfl
                have hC2 : Hid (Chg (Soft w.heap.size wb) wb w2) := Chg.of_ext HY.out
                have f0 := (box_cell hcur 0).trans (hf 0 (by decide))
                obtain ⟨n0, hn0⟩ : ∃ n, Hid (ns.getD 0 0 = n) := ⟨_, rfl⟩
                rw [hn0.out] at f0 hR0
                have HG7 := Lib.hid ((readG_go HNE.out HQ.out hR0).symm.trans HG.out)
                have HZ7 := Lib.hid (takeL_sz HZ.out hR0)
                clear hR hf hcur hR0
                go_wp2_with fail
                have HI7 := HI2.out.gap n0
                have HC7 := Lib.hid (HI2.out.set_soft hC2.out 1 (.int .i64 n0))
                exact ⟨⟨1 + 1, f', sb, _, _, _, _, rfl, by go_num, by have := HSZ.out; omega, by have := HSZ.out; omega, HI7, soft_keep HC7.out HBb.out, soft_ext HXb.out HC7.out, HZ7.out, fun h => absurd h (Nat.succ_ne_zero _), HG7.out⟩, by have := HSZ.out; simp only [strLen]; omega⟩
            · have gn0 : ((n : Int) == 0) = false := by rw [beq_eq_false_iff_ne]; omega
              have gn1 : ((n : Int) == 1) = false := by rw [beq_eq_false_iff_ne]; omega
              have HC := Lib.hid (words_any (w := wb.alloc (.cells (strs nmT).toArray 9)) ((Max0.ext HMb.out ((Ext.refl wb).alloc _))) sa hsa4 (rd_lit wb nmT (by decide)) (by decide) (cB := 4))
              go_upto_region 14 with (go_at_call 14; refine HC.out.mono ?_; rintro e w2 ⟨hN, hX⟩; have HY := Lib.hid (((Ext.refl wb).alloc _).trans hX); have HI2 := Lib.hid (HIb.out.ext HY.out); obtain ⟨q0, q1, q2, q3, q4⟩ := LnI.facts HI2.out; rcases hN.casesP (cnt := 4) (by decide) (fun ns h => numsL_count h) with ⟨hR, rfl⟩ | ⟨ns, b, c2, cur, hR, rfl, hb, hcur, hf⟩ <;> clear hN hX)
              · have HN1 : Hid (numsL (splitL 32 (toL sa)) (likeP [bTrain, bReady, bDue, bWeight]) = none) := hR
                have HB2 := Lib.hid (BoxAt.ext (w' := w2) HBb.out HY.out)
                have H82 := Lib.hid (BoxAt.ext (w' := w2) H8b.out HY.out)
                have HX2 := Lib.hid (HXb.out.trans HY.out)
                have HM2 := Lib.hid (HMb.out.ext HY.out)
                have HI2b := Lib.hid HI2.out
                have HY2 := Lib.hid HY.out
                clear hR HC HY HI2 q0 q1 q2 q3 q4
                have HC := Lib.hid (words_any (w := w2.alloc (.cells (strs nmG).toArray 9)) ((Max0.ext HM2.out ((Ext.refl w2).alloc _))) sa hsa4 (rd_lit w2 nmG (by decide)) (by decide) (cB := 3))
                go_upto_region 17 with (go_at_call 14; refine HC.out.mono ?_; rintro e w3 ⟨hN, hX⟩; have HY := Lib.hid (((Ext.refl w2).alloc _).trans hX); have HI2 := Lib.hid (HI2b.out.ext HY.out); obtain ⟨q0, q1, q2, q3, q4⟩ := LnI.facts HI2.out; rcases hN.casesP (cnt := 3) (by decide) (fun ns h => numsL_count h) with ⟨hR, rfl⟩ | ⟨ns, b, c2, cur, hR, rfl, hb, hcur, hf⟩ <;> clear hN hX)
                · have hR0 : takeL l (toL sa) n = none := late_none k0 k1 HN1.out hR
                  have HT1 : Hid (toldL (toL s) = (((1 : Int), z), noLine)) := by
                    unfold Hid
                    have := HG.out
                    rw [readG_bad HNE.out HQ.out hR0] at this
                    rw [HT.out, ← this, ← hz.out]; rfl
                  have HB3 := Lib.hid (BoxAt.ext (w' := w3) HB2.out HY.out)
                  have H83 := Lib.hid (BoxAt.ext (w' := w3) H82.out HY.out)
                  have HX3 := Lib.hid (HX2.out.trans HY.out)
                  clear hR hR0
                  have k0 := box_cell HB3.out 0
                  have k1 := box_cell HB3.out 1
                  have k2 := box_cell HB3.out 2
                  have k3 := box_cell HB3.out 3
                  have k4 := box_cell HB3.out 4
                  have kf := fun j => box_frozen HB3.out j
                  have kl := box_lt HB3.out
                  have j0 := box_cell H83.out 0
                  have j1 := box_cell H83.out 1
                  have j2 := box_cell H83.out 2
                  have j3 := box_cell H83.out 3
                  have j4 := box_cell H83.out 4
                  have jl := box_lt H83.out
                  go_wp2_with fail
                  refine bodyPost_ret (v := .agg #[.int .i64 1, .int .i64 z, .slice none 0 0, .int .i64 0, .slice none 0 0]) (by simp [results, Tryd.results5, go_sem, k0, k1, k2, k3, k4, kf, kl]) rfl ⟨_, rfl, told2_no HT1.out, ?_⟩
                  iterate 5 refine Ext.setCell ?_ (Nat.le_refl _) _
                  exact HX3.out
                · have hC2 : Hid (Chg (Soft w.heap.size wb) wb w3) := Chg.of_ext (HY2.out.trans HY.out)
                  have c0 := hf 0 (by decide)
                  have c1 := hf 1 (by decide)
                  have c2 := hf 2 (by decide)
                  by_cases hz0 : l.trains.length = 0
                  · have hR0 : takeL l (toL sa) n = none := late_few k0 k1 HN1.out hR hz0
                    have HT1 : Hid (toldL (toL s) = (((1 : Int), z), noLine)) := by
                      unfold Hid
                      have := HG.out
                      rw [readG_bad HNE.out HQ.out hR0] at this
                      rw [HT.out, ← this, ← hz.out]; rfl
                    have HB3 := Lib.hid (BoxAt.ext (w' := w3) HB2.out HY.out)
                    have H83 := Lib.hid (BoxAt.ext (w' := w3) H82.out HY.out)
                    have HX3 := Lib.hid (HX2.out.trans HY.out)
                    obtain ⟨A2, cA2, hv2, _⟩ := HI2.out.own.2.1.rd
                    rw [hz0] at hv2
                    subst hv2
                    clear hR hR0 hz0 hf c0 c1 c2 hcur
                    have k0 := box_cell HB3.out 0
                    have k1 := box_cell HB3.out 1
                    have k2 := box_cell HB3.out 2
                    have k3 := box_cell HB3.out 3
                    have k4 := box_cell HB3.out 4
                    have kf := fun j => box_frozen HB3.out j
                    have kl := box_lt HB3.out
                    have j0 := box_cell H83.out 0
                    have j1 := box_cell H83.out 1
                    have j2 := box_cell H83.out 2
                    have j3 := box_cell H83.out 3
                    have j4 := box_cell H83.out 4
                    have jl := box_lt H83.out
                    go_wp2_with fail
                    refine bodyPost_ret (v := .agg #[.int .i64 1, .int .i64 z, .slice none 0 0, .int .i64 0, .slice none 0 0]) (by simp [results, Tryd.results5, go_sem, k0, k1, k2, k3, k4, kf, kl]) rfl ⟨_, rfl, told2_no HT1.out, ?_⟩
                    iterate 5 refine Ext.setCell ?_ (Nat.le_refl _) _
                    exact HX3.out
                  · have hR0 : takeL l (toL sa) n = some { l with trains := addLeg l.trains ⟨ns.getD 0 0, ns.getD 1 0, ns.getD 2 0⟩ } := late_leg k0 k1 HN1.out hR hz0
                    have HR0 := Lib.hid hR0
                    clear hR hf hR0
                    generalize ns.getD 0 0 = n0 at *
                    generalize ns.getD 1 0 = n1 at *
                    generalize ns.getD 2 0 = n2 at *
                    have HG7 := Lib.hid ((readG_go HNE.out HQ.out HR0.out).symm.trans HG.out)
                    have HZ7 := Lib.hid (takeL_sz HZ.out HR0.out)
                    obtain ⟨m, hm⟩ : ∃ m, Hid (l.trains.length = m + 1) := ⟨l.trains.length - 1, by unfold Hid; omega⟩
                    obtain ⟨gT, cT, hv2⟩ := own_form HI2.out.own.2.1.own (by omega)
                    subst hv2
                    have hm5 : m < 5000 := by have := hm.out; have := (HZ.out.sm (by omega)).1; omega
                    have g3 : ((m : Int) + 1 == 0) = false := by rw [beq_eq_false_iff_ne]; omega
                    rw [hm.out] at q3
                    clear hz0
                    have HI4 := Lib.hid HI2.out
                    have hC4 := Lib.hid hC2.out
                    have hcur4 := hcur
                    go_upto_region 20 with fail
                    clear HI2 hC2 hcur q0 q1 q2 q3 q4 hb g3 HY
                    have HI3 := Lib.hid (HI4.out.ext (Ext.refl w3).drew)
                    have HC3 := Lib.hid (hC4.out.trans (Chg.of_ext (Ext.refl w3).drew))
                    have hS3 : RowAt b cur w3.drew := hcur4.ext (Ext.refl w3).drew
                    have hml : m < l.trains.length := by have := hm.out; omega
                    have hN : (l.trains.getD m default).legs.length ≤ 1000000 := (by have := (HZ.out.sm (by omega)).2 m; omega)
                    obtain ⟨nl, hnl⟩ : ∃ K, Hid ((l.trains.getD m default).legs.length = K) := ⟨_, rfl⟩
                    rw [hnl.out] at hN
                    have hLG := HI3.out.own.2.1.legs m hml
                    rw [hnl.out] at hLG
                    obtain ⟨A5, c5, hv5, _⟩ := rd_of_legs hLG hnl.out.symm
                    rw [hnl.out] at hv5
                    have HLG := Lib.hid hLG
                    rw [hv5] at hLG
                    have hBT : w.heap.size ≤ gT := (HI3.out.own.2.1.own.lt gT rfl).1
                    have r0 := (HI3.out.own.2.1.own.lt gT rfl).2
                    have r3 := ownsRow_cell HI3.out.own.2.1.own (trRows_at (vl := vl) (some_getD hml) (i := 4) (by omega))
                    change w3.drew.cell? ⟨gT, m * 5 + 4, none⟩ = some (vl m) at r3
                    have HR3 := Lib.hid r3
                    rw [hv5] at r3
                    have hBA : w.heap.size ≤ (w3.drew.alloc (.cells #[.int .i64 n0, .int .i64 n1, .int .i64 n2] 50)).heap.size := by rw [alloc_size]; omega
                    have HV5 := Lib.hid hv5
                    have HL5 := Lib.hid hLG
                    have hx0 : w3.drew.heap.size = w3.heap.size := rfl
                    clear hv5 hLG
                    refine wp_region_held_drew (S := RowAt b cur) (by kernel_rfl) hS3 (fun _ => ?_)
                    refine wpAnyH_take (i := 0) (oi := _) (v := ?_) rfl (by kernel_rfl) (by kernel_rfl) (by kernel_rfl) (fun _ _ _ h => h) (Or.inl ⟨by rfl, ?_⟩) (by assumption) ?_
                    rotate_left 1
                    · intro W hSw
                      go_simp
                      try with_reducible rfl
                    try simp only [Act.put, List.setIfInBounds_toArray, List.set_cons_zero, List.set_cons_succ]
                    refine wpAnyH_take (i := 1) (oi := _) (v := ?_) rfl (by kernel_rfl) (by kernel_rfl) (by kernel_rfl) (fun _ _ _ h => h) (Or.inl ⟨by rfl, ?_⟩) (by assumption) ?_
                    rotate_left 1
                    · intro W hSw
                      go_simp
                      try with_reducible rfl
                    try simp only [Act.put, List.setIfInBounds_toArray, List.set_cons_zero, List.set_cons_succ]
                    refine wpAnyH_take (i := 2) (oi := _) (v := ?_) rfl (by kernel_rfl) (by kernel_rfl) (by kernel_rfl) (fun _ _ _ h => h) (Or.inl ⟨by rfl, ?_⟩) (by assumption) ?_
                    rotate_left 1
                    · intro W hSw
                      go_simp
                      try with_reducible rfl
                    try simp only [Act.put, List.setIfInBounds_toArray, List.set_cons_zero, List.set_cons_succ]
                    refine wpAnyH_take (i := 3) (oi := _) (v := ?_) rfl (by kernel_rfl) (by kernel_rfl) (by kernel_rfl) (fun _ _ _ h => h) (Or.inl ⟨by rfl, ?_⟩) (by assumption) ?_
                    rotate_left 1
                    · intro W hSw
                      go_simp
                      try with_reducible rfl
                    try simp only [Act.put, List.setIfInBounds_toArray, List.set_cons_zero, List.set_cons_succ]
                    refine wpAnyH_take (i := 5) (oi := _) (v := ?_) rfl (by kernel_rfl) (by kernel_rfl) (by kernel_rfl) (fun _ _ _ h => h) (Or.inl ⟨by rfl, ?_⟩) (by assumption) ?_
                    rotate_left 1
                    · intro W hSw
                      go_simp
                      try with_reducible rfl
                    try simp only [Act.put, List.setIfInBounds_toArray, List.set_cons_zero, List.set_cons_succ]
                    refine wpAnyH_take (i := 6) (oi := _) (v := ?_) rfl (by kernel_rfl) (by kernel_rfl) (by kernel_rfl) (fun _ _ _ h => h) (Or.inl ⟨by rfl, ?_⟩) (by assumption) ?_
                    rotate_left 1
                    · intro W hSw
                      go_simp
                      try with_reducible rfl
                    try simp only [Act.put, List.setIfInBounds_toArray, List.set_cons_zero, List.set_cons_succ]
                    refine wpAnyH_take (i := 7) (oi := _) (v := ?_) rfl (by kernel_rfl) (by kernel_rfl) (by kernel_rfl) (fun _ _ _ h => h) (Or.inl ⟨by rfl, ?_⟩) (by assumption) ?_
                    rotate_left 1
                    · intro W hSw
                      have hs0 := (box_cell hSw 0).trans c0
                      go_simp
                      try with_reducible rfl
                    try simp only [Act.put, List.setIfInBounds_toArray, List.set_cons_zero, List.set_cons_succ]
                    refine wpAnyH_take (i := 8) (oi := _) (v := ?_) rfl (by kernel_rfl) (by kernel_rfl) (by kernel_rfl) (fun _ _ _ h => h) (Or.inl ⟨by rfl, ?_⟩) (by assumption) ?_
                    rotate_left 1
                    · intro W hSw
                      go_simp
                      try with_reducible rfl
                    try simp only [Act.put, List.setIfInBounds_toArray, List.set_cons_zero, List.set_cons_succ]
                    refine wpAnyH_take (i := 9) (oi := _) (v := ?_) rfl (by kernel_rfl) (by kernel_rfl) (by kernel_rfl) (fun _ _ _ h => h) (Or.inl ⟨by rfl, ?_⟩) (by assumption) ?_
                    rotate_left 1
                    · intro W hSw
                      go_simp
                      try with_reducible rfl
                    try simp only [Act.put, List.setIfInBounds_toArray, List.set_cons_zero, List.set_cons_succ]
                    refine wpAnyH_take (i := 10) (oi := _) (v := ?_) rfl (by kernel_rfl) (by kernel_rfl) (by kernel_rfl) (fun _ _ _ h => h) (Or.inl ⟨by rfl, ?_⟩) (by assumption) ?_
                    rotate_left 1
                    · intro W hSw
                      have hs1 := (box_cell hSw 1).trans c1
                      go_simp
                      try with_reducible rfl
                    try simp only [Act.put, List.setIfInBounds_toArray, List.set_cons_zero, List.set_cons_succ]
                    refine wpAnyH_take (i := 11) (oi := _) (v := ?_) rfl (by kernel_rfl) (by kernel_rfl) (by kernel_rfl) (fun _ _ _ h => h) (Or.inl ⟨by rfl, ?_⟩) (by assumption) ?_
                    rotate_left 1
                    · intro W hSw
                      go_simp
                      try with_reducible rfl
                    try simp only [Act.put, List.setIfInBounds_toArray, List.set_cons_zero, List.set_cons_succ]
                    refine wpAnyH_take (i := 12) (oi := _) (v := ?_) rfl (by kernel_rfl) (by kernel_rfl) (by kernel_rfl) (fun _ _ _ h => h) (Or.inl ⟨by rfl, ?_⟩) (by assumption) ?_
                    rotate_left 1
                    · intro W hSw
                      go_simp
                      try with_reducible rfl
                    try simp only [Act.put, List.setIfInBounds_toArray, List.set_cons_zero, List.set_cons_succ]
                    refine wpAnyH_take (i := 13) (oi := _) (v := ?_) rfl (by kernel_rfl) (by kernel_rfl) (by kernel_rfl) (fun _ _ _ h => h) (Or.inl ⟨by rfl, ?_⟩) (by assumption) ?_
                    rotate_left 1
                    · intro W hSw
                      have hs2 := (box_cell hSw 2).trans c2
                      go_simp
                      try with_reducible rfl
                    try simp only [Act.put, List.setIfInBounds_toArray, List.set_cons_zero, List.set_cons_succ]
                    refine wpAnyH_take (i := 14) (oi := _) (v := ?_) rfl (by kernel_rfl) (by kernel_rfl) (by kernel_rfl) (fun _ _ _ h => h) (Or.inl ⟨by rfl, ?_⟩) (by assumption) ?_
                    rotate_left 1
                    · intro W hSw
                      go_simp
                      try with_reducible rfl
                    try simp only [Act.put, List.setIfInBounds_toArray, List.set_cons_zero, List.set_cons_succ]
                    refine wpAnyH_ready (rs := [4, 15]) (by kernel_rfl) (by simp) ?_
                    refine AllReadyH.cons rfl (fun K hK => ?_) ?_
                    · go_simp
                      refine hK.out _ _ (hS3) (fun _ => ?_)
                      clear hK K
                      refine wpAnyH_ready (rs := [15]) (by kernel_rfl) (by simp) ?_
                      refine AllReadyH.cons rfl (fun K hK => ?_) AllReadyH.nil
                      go_simp
                      refine hK.out _ _ (hS3.ext ((Ext.refl _).alloc _)) (fun _ => ?_)
                      clear hK K
                      refine wpAnyH_ready (rs := [16]) (by kernel_rfl) (by simp) ?_
                      refine AllReadyH.cons rfl (fun K hK => ?_) AllReadyH.nil
                      refine app_step rfl (.tmp 99) (.tmp 110) 45 rfl w.heap.size 50 3 24 _ Tryd.underlying45 info50 rfl (by decide) _ _ _ rfl (HL5.out.alloc _) hBA _ _ #[.int .i64 n0, .int .i64 n1, .int .i64 n2] _ rfl (box_new _ _) rfl (three_int _ _ _) hN (by decide) _ rfl ?_
                      intro g cap w6 hown hgrow hg hlt6
                      rw [← HV5.out] at hgrow hg
                      obtain ⟨HI7, cu, hbx, hcx⟩ := HI3.out.leg (x := ⟨n0, n1, n2⟩) hm.out hnl.out hgrow hown hg
                      have HC7 := Lib.hid (chg_step HC3.out HLG.out (by decide) hgrow hbx (by decide) hBT (m * 5 + 4) (.slice (some ⟨g, 0, none⟩) (nl + 1) cap))
                      have hS6 := hS3.grown HLG.out (by decide) hgrow
                      have hS7 := hS6.set hbx (by decide) (m * 5 + 4) (.slice (some ⟨g, 0, none⟩) (nl + 1) cap)
                      refine hK.out _ _ (hS6) (fun _ => ?_)
                      clear hK K
                      refine wpAnyH_take (i := 17) (oi := _) (v := ?_) rfl (by kernel_rfl) (by kernel_rfl) (by kernel_rfl) (fun _ _ _ h => h) (Or.inl ⟨by rfl, ?_⟩) (by assumption) ?_
                      rotate_left 1
                      · intro W hSw
                        go_simp
                        try with_reducible rfl
                      try simp only [Act.put, List.setIfInBounds_toArray, List.set_cons_zero, List.set_cons_succ]
                      refine wpAnyH_take (i := 18) (oi := _) (v := ?_) rfl (by kernel_rfl) (by kernel_rfl) (by kernel_rfl) (fun _ _ _ h => h) (Or.inl ⟨by rfl, ?_⟩) (by assumption) ?_
                      rotate_left 1
                      · intro W hSw
                        go_simp
                        try with_reducible rfl
                      try simp only [Act.put, List.setIfInBounds_toArray, List.set_cons_zero, List.set_cons_succ]
                      refine wpAnyH_ready (rs := [19]) (by kernel_rfl) (by simp) ?_
                      refine AllReadyH.cons rfl (fun K hK => ?_) AllReadyH.nil
                      have t0 := box_lt hbx
                      have t2 := box_frozen hbx (m * 5 + 4)
                      go_simp
                      refine hK.out _ _ (hS7) (fun _ => ?_)
                      clear hK K
                      refine wpAnyH_done (by kernel_rfl) ?_ _
                      go_wp2_with fail
                      exact ⟨⟨n + 1, f', sb, _, _, _, _, rfl, by go_num, by have := HSZ.out; omega, by have := HSZ.out; omega, HI7, soft_keep HC7.out HBb.out, soft_ext HXb.out HC7.out, HZ7.out, fun h => absurd h (Nat.succ_ne_zero _), HG7.out⟩, by have := HSZ.out; simp only [strLen]; omega⟩
                    refine AllReadyH.cons rfl (fun K hK => ?_) AllReadyH.nil
                    go_simp
                    refine hK.out _ _ (hS3.ext ((Ext.refl _).alloc _)) (fun _ => ?_)
                    clear hK K
                    refine wpAnyH_ready (rs := [4]) (by kernel_rfl) (by simp) ?_
                    refine AllReadyH.cons rfl (fun K hK => ?_) AllReadyH.nil
                    have r0c : gT < w3.heap.size := r0
                    have r3c : w3.cell? ⟨gT, m * 5 + 4, none⟩ = some (.slice A5 nl c5) := r3
                    have r3b : (w3.drew.alloc (.cells #[.int .i64 n0, .int .i64 n1, .int .i64 n2] 50)).cell? ⟨gT, m * 5 + 4, none⟩ = some (.slice A5 nl c5) := (((Ext.refl w3.drew).alloc _).cells.1 gT _ r0).trans r3
                    have r0b : gT < (w3.drew.alloc (.cells #[.int .i64 n0, .int .i64 n1, .int .i64 n2] 50)).heap.size := by rw [alloc_size]; omega
                    go_simp
                    refine hK.out _ _ (hS3.ext ((Ext.refl _).alloc _)) (fun _ => ?_)
                    clear hK K
                    refine wpAnyH_ready (rs := [16]) (by kernel_rfl) (by simp) ?_
                    refine AllReadyH.cons rfl (fun K hK => ?_) AllReadyH.nil
                    refine app_step rfl (.tmp 99) (.tmp 110) 45 rfl w.heap.size 50 3 24 _ Tryd.underlying45 info50 rfl (by decide) _ _ _ rfl (HL5.out.alloc _) hBA _ _ #[.int .i64 n0, .int .i64 n1, .int .i64 n2] _ rfl (box_new _ _) rfl (three_int _ _ _) hN (by decide) _ rfl ?_
                    intro g cap w6 hown hgrow hg hlt6
                    rw [← HV5.out] at hgrow hg
                    obtain ⟨HI7, cu, hbx, hcx⟩ := HI3.out.leg (x := ⟨n0, n1, n2⟩) hm.out hnl.out hgrow hown hg
                    have HC7 := Lib.hid (chg_step HC3.out HLG.out (by decide) hgrow hbx (by decide) hBT (m * 5 + 4) (.slice (some ⟨g, 0, none⟩) (nl + 1) cap))
                    have hS6 := hS3.grown HLG.out (by decide) hgrow
                    have hS7 := hS6.set hbx (by decide) (m * 5 + 4) (.slice (some ⟨g, 0, none⟩) (nl + 1) cap)
                    refine hK.out _ _ (hS6) (fun _ => ?_)
                    clear hK K
                    refine wpAnyH_take (i := 17) (oi := _) (v := ?_) rfl (by kernel_rfl) (by kernel_rfl) (by kernel_rfl) (fun _ _ _ h => h) (Or.inl ⟨by rfl, ?_⟩) (by assumption) ?_
                    rotate_left 1
                    · intro W hSw
                      go_simp
                      try with_reducible rfl
                    try simp only [Act.put, List.setIfInBounds_toArray, List.set_cons_zero, List.set_cons_succ]
                    refine wpAnyH_take (i := 18) (oi := _) (v := ?_) rfl (by kernel_rfl) (by kernel_rfl) (by kernel_rfl) (fun _ _ _ h => h) (Or.inl ⟨by rfl, ?_⟩) (by assumption) ?_
                    rotate_left 1
                    · intro W hSw
                      go_simp
                      try with_reducible rfl
                    try simp only [Act.put, List.setIfInBounds_toArray, List.set_cons_zero, List.set_cons_succ]
                    refine wpAnyH_ready (rs := [19]) (by kernel_rfl) (by simp) ?_
                    refine AllReadyH.cons rfl (fun K hK => ?_) AllReadyH.nil
                    have t0 := box_lt hbx
                    have t2 := box_frozen hbx (m * 5 + 4)
                    go_simp
                    refine hK.out _ _ (hS7) (fun _ => ?_)
                    clear hK K
                    refine wpAnyH_done (by kernel_rfl) ?_ _
                    go_wp2_with fail
                    exact ⟨⟨n + 1, f', sb, _, _, _, _, rfl, by go_num, by have := HSZ.out; omega, by have := HSZ.out; omega, HI7, soft_keep HC7.out HBb.out, soft_ext HXb.out HC7.out, HZ7.out, fun h => absurd h (Nat.succ_ne_zero _), HG7.out⟩, by have := HSZ.out; simp only [strLen]; omega⟩
              · have hR0 : takeL l (toL sa) n = some { l with trains := l.trains ++ [⟨ns.getD 0 0, ns.getD 1 0, ns.getD 2 0, ns.getD 3 0, []⟩] } := late_train k0 k1 hR
                have hC2 : Hid (Chg (Soft w.heap.size wb) wb w2) := Chg.of_ext HY.out
                have c0 := hf 0 (by decide)
                have c1 := hf 1 (by decide)
                have c2 := hf 2 (by decide)
                have c3 := hf 3 (by decide)
                have HR0 := Lib.hid hR0
                clear hR hf hR0
                generalize ns.getD 0 0 = n0 at *
                generalize ns.getD 1 0 = n1 at *
                generalize ns.getD 2 0 = n2 at *
                generalize ns.getD 3 0 = n3 at *
                have HG7 := Lib.hid ((readG_go HNE.out HQ.out HR0.out).symm.trans HG.out)
                have HZ7 := Lib.hid (takeL_sz HZ.out HR0.out)
                go_upto_region 15 with fail
                have HI3 := Lib.hid (HI2.out.ext (Ext.refl w2).drew)
                have HC3 := Lib.hid (hC2.out.trans (Chg.of_ext (Ext.refl w2).drew))
                have hS3 : RowAt b cur w2.drew := hcur.ext (Ext.refl w2).drew
                obtain ⟨r0, r1, r2, r3, r4⟩ := LnI.facts HI3.out
                obtain ⟨A2, cA2, hv2, _⟩ := HI3.out.own.2.1.rd
                subst hv2
                refine wp_region_held_drew (S := RowAt b cur) (by kernel_rfl) hS3 (fun _ => ?_)
                refine wpAnyH_take (i := 0) (oi := _) (v := ?_) rfl (by kernel_rfl) (by kernel_rfl) (by kernel_rfl) (fun _ _ _ h => h) (Or.inl ⟨by rfl, ?_⟩) (by assumption) ?_
                rotate_left 1
                · intro W hSw
                  go_simp
                  try with_reducible rfl
                try simp only [Act.put, List.setIfInBounds_toArray, List.set_cons_zero, List.set_cons_succ]
                refine wpAnyH_take (i := 2) (oi := _) (v := ?_) rfl (by kernel_rfl) (by kernel_rfl) (by kernel_rfl) (fun _ _ _ h => h) (Or.inl ⟨by rfl, ?_⟩) (by assumption) ?_
                rotate_left 1
                · intro W hSw
                  go_simp
                  try with_reducible rfl
                try simp only [Act.put, List.setIfInBounds_toArray, List.set_cons_zero, List.set_cons_succ]
                refine wpAnyH_take (i := 3) (oi := _) (v := ?_) rfl (by kernel_rfl) (by kernel_rfl) (by kernel_rfl) (fun _ _ _ h => h) (Or.inl ⟨by rfl, ?_⟩) (by assumption) ?_
                rotate_left 1
                · intro W hSw
                  go_simp
                  try with_reducible rfl
                try simp only [Act.put, List.setIfInBounds_toArray, List.set_cons_zero, List.set_cons_succ]
                refine wpAnyH_take (i := 4) (oi := _) (v := ?_) rfl (by kernel_rfl) (by kernel_rfl) (by kernel_rfl) (fun _ _ _ h => h) (Or.inl ⟨by rfl, ?_⟩) (by assumption) ?_
                rotate_left 1
                · intro W hSw
                  have hs0 := (box_cell hSw 0).trans c0
                  go_simp
                  try with_reducible rfl
                try simp only [Act.put, List.setIfInBounds_toArray, List.set_cons_zero, List.set_cons_succ]
                refine wpAnyH_take (i := 5) (oi := _) (v := ?_) rfl (by kernel_rfl) (by kernel_rfl) (by kernel_rfl) (fun _ _ _ h => h) (Or.inl ⟨by rfl, ?_⟩) (by assumption) ?_
                rotate_left 1
                · intro W hSw
                  go_simp
                  try with_reducible rfl
                try simp only [Act.put, List.setIfInBounds_toArray, List.set_cons_zero, List.set_cons_succ]
                refine wpAnyH_take (i := 6) (oi := _) (v := ?_) rfl (by kernel_rfl) (by kernel_rfl) (by kernel_rfl) (fun _ _ _ h => h) (Or.inl ⟨by rfl, ?_⟩) (by assumption) ?_
                rotate_left 1
                · intro W hSw
                  go_simp
                  try with_reducible rfl
                try simp only [Act.put, List.setIfInBounds_toArray, List.set_cons_zero, List.set_cons_succ]
                refine wpAnyH_take (i := 7) (oi := _) (v := ?_) rfl (by kernel_rfl) (by kernel_rfl) (by kernel_rfl) (fun _ _ _ h => h) (Or.inl ⟨by rfl, ?_⟩) (by assumption) ?_
                rotate_left 1
                · intro W hSw
                  have hs1 := (box_cell hSw 1).trans c1
                  go_simp
                  try with_reducible rfl
                try simp only [Act.put, List.setIfInBounds_toArray, List.set_cons_zero, List.set_cons_succ]
                refine wpAnyH_take (i := 8) (oi := _) (v := ?_) rfl (by kernel_rfl) (by kernel_rfl) (by kernel_rfl) (fun _ _ _ h => h) (Or.inl ⟨by rfl, ?_⟩) (by assumption) ?_
                rotate_left 1
                · intro W hSw
                  go_simp
                  try with_reducible rfl
                try simp only [Act.put, List.setIfInBounds_toArray, List.set_cons_zero, List.set_cons_succ]
                refine wpAnyH_take (i := 9) (oi := _) (v := ?_) rfl (by kernel_rfl) (by kernel_rfl) (by kernel_rfl) (fun _ _ _ h => h) (Or.inl ⟨by rfl, ?_⟩) (by assumption) ?_
                rotate_left 1
                · intro W hSw
                  go_simp
                  try with_reducible rfl
                try simp only [Act.put, List.setIfInBounds_toArray, List.set_cons_zero, List.set_cons_succ]
                refine wpAnyH_take (i := 10) (oi := _) (v := ?_) rfl (by kernel_rfl) (by kernel_rfl) (by kernel_rfl) (fun _ _ _ h => h) (Or.inl ⟨by rfl, ?_⟩) (by assumption) ?_
                rotate_left 1
                · intro W hSw
                  have hs2 := (box_cell hSw 2).trans c2
                  go_simp
                  try with_reducible rfl
                try simp only [Act.put, List.setIfInBounds_toArray, List.set_cons_zero, List.set_cons_succ]
                refine wpAnyH_take (i := 11) (oi := _) (v := ?_) rfl (by kernel_rfl) (by kernel_rfl) (by kernel_rfl) (fun _ _ _ h => h) (Or.inl ⟨by rfl, ?_⟩) (by assumption) ?_
                rotate_left 1
                · intro W hSw
                  go_simp
                  try with_reducible rfl
                try simp only [Act.put, List.setIfInBounds_toArray, List.set_cons_zero, List.set_cons_succ]
                refine wpAnyH_take (i := 12) (oi := _) (v := ?_) rfl (by kernel_rfl) (by kernel_rfl) (by kernel_rfl) (fun _ _ _ h => h) (Or.inl ⟨by rfl, ?_⟩) (by assumption) ?_
                rotate_left 1
                · intro W hSw
                  go_simp
                  try with_reducible rfl
                try simp only [Act.put, List.setIfInBounds_toArray, List.set_cons_zero, List.set_cons_succ]
                refine wpAnyH_take (i := 13) (oi := _) (v := ?_) rfl (by kernel_rfl) (by kernel_rfl) (by kernel_rfl) (fun _ _ _ h => h) (Or.inl ⟨by rfl, ?_⟩) (by assumption) ?_
                rotate_left 1
                · intro W hSw
                  have hs3 := (box_cell hSw 3).trans c3
                  go_simp
                  try with_reducible rfl
                try simp only [Act.put, List.setIfInBounds_toArray, List.set_cons_zero, List.set_cons_succ]
                refine wpAnyH_take (i := 14) (oi := _) (v := ?_) rfl (by kernel_rfl) (by kernel_rfl) (by kernel_rfl) (fun _ _ _ h => h) (Or.inl ⟨by rfl, ?_⟩) (by assumption) ?_
                rotate_left 1
                · intro W hSw
                  go_simp
                  try with_reducible rfl
                try simp only [Act.put, List.setIfInBounds_toArray, List.set_cons_zero, List.set_cons_succ]
                refine wpAnyH_ready (rs := [1, 15]) (by kernel_rfl) (by simp) ?_
                refine AllReadyH.cons rfl (fun K hK => ?_) ?_
                · go_simp
                  refine hK.out _ _ (hS3) (fun _ => ?_)
                  clear hK K
                  refine wpAnyH_ready (rs := [15]) (by kernel_rfl) (by simp) ?_
                  refine AllReadyH.cons rfl (fun K hK => ?_) AllReadyH.nil
                  go_simp
                  refine hK.out _ _ (hS3.ext ((Ext.refl _).alloc _)) (fun _ => ?_)
                  clear hK K
                  refine wpAnyH_ready (rs := [16]) (by kernel_rfl) (by simp) ?_
                  refine AllReadyH.cons rfl (fun K hK => ?_) AllReadyH.nil
                  have hBA : w.heap.size ≤ (w2.drew.alloc (.cells #[.int .i64 n0, .int .i64 n1, .int .i64 n2, .int .i64 n3, .slice none 0 0] 47)).heap.size := by rw [alloc_size]; have := HI3.out.low; omega
                  refine app_step rfl (.tmp 56) (.tmp 70) 23 rfl w.heap.size 47 5 56 _ Tryd.underlying23 info47 rfl (by decide) _ _ _ rfl (HI3.out.own.2.1.own.alloc _) hBA _ _ #[.int .i64 n0, .int .i64 n1, .int .i64 n2, .int .i64 n3, .slice none 0 0] _ rfl (box_new _ _) rfl (tr_one _ _ _ _ _ _ _) (by have := (HZ.out.sm (by omega)).1; omega) (by decide) _ rfl ?_
                  intro g cap w6 hown hgrow hg hlt6
                  obtain ⟨HI7, hbx⟩ := HI3.out.train (t := ⟨n0, n1, n2, n3, []⟩) rfl hgrow hown hg
                  have HC7 := Lib.hid (chg_step HC3.out HI3.out.own.2.1.own (by decide) hgrow hbx (by decide) HI3.out.low 2 (.slice (some ⟨g, 0, none⟩) (l.trains.length + 1) cap))
                  have hS6 := hS3.grown HI3.out.own.2.1.own (by decide) hgrow
                  have hS7 := hS6.set hbx (by decide) 2 (.slice (some ⟨g, 0, none⟩) (l.trains.length + 1) cap)
                  refine hK.out _ _ (hS6) (fun _ => ?_)
                  clear hK K
                  refine wpAnyH_take (i := 17) (oi := _) (v := ?_) rfl (by kernel_rfl) (by kernel_rfl) (by kernel_rfl) (fun _ _ _ h => h) (Or.inl ⟨by rfl, ?_⟩) (by assumption) ?_
                  rotate_left 1
                  · intro W hSw
                    go_simp
                    try with_reducible rfl
                  try simp only [Act.put, List.setIfInBounds_toArray, List.set_cons_zero, List.set_cons_succ]
                  refine wpAnyH_ready (rs := [18]) (by kernel_rfl) (by simp) ?_
                  refine AllReadyH.cons rfl (fun K hK => ?_) AllReadyH.nil
                  have t0 := box_lt hbx
                  have t1 := box_cell hbx 2
                  have t2 := box_frozen hbx 2
                  go_simp
                  refine hK.out _ _ (hS7) (fun _ => ?_)
                  clear hK K
                  refine wpAnyH_done (by kernel_rfl) ?_ _
                  go_wp2_with fail
                  exact ⟨⟨n + 1, f', sb, _, _, _, _, rfl, by go_num, by have := HSZ.out; omega, by have := HSZ.out; omega, HI7, soft_keep HC7.out HBb.out, soft_ext HXb.out HC7.out, HZ7.out, fun h => absurd h (Nat.succ_ne_zero _), HG7.out⟩, by have := HSZ.out; simp only [strLen]; omega⟩
                refine AllReadyH.cons rfl (fun K hK => ?_) AllReadyH.nil
                go_simp
                refine hK.out _ _ (hS3.ext ((Ext.refl _).alloc _)) (fun _ => ?_)
                clear hK K
                refine wpAnyH_ready (rs := [1]) (by kernel_rfl) (by simp) ?_
                refine AllReadyH.cons rfl (fun K hK => ?_) AllReadyH.nil
                have r3b : (w2.drew.alloc (.cells #[.int .i64 n0, .int .i64 n1, .int .i64 n2, .int .i64 n3, .slice none 0 0] 47)).cell? ⟨(w.heap.size + 1), 2, none⟩ = some (.slice A2 l.trains.length cA2) := box_cell (((Ext.refl w2.drew).alloc _).box HI3.out.box) 2
                have r0b : (w.heap.size + 1) < (w2.drew.alloc (.cells #[.int .i64 n0, .int .i64 n1, .int .i64 n2, .int .i64 n3, .slice none 0 0] 47)).heap.size := by rw [alloc_size]; omega
                go_simp
                refine hK.out _ _ (hS3.ext ((Ext.refl _).alloc _)) (fun _ => ?_)
                clear hK K
                refine wpAnyH_ready (rs := [16]) (by kernel_rfl) (by simp) ?_
                refine AllReadyH.cons rfl (fun K hK => ?_) AllReadyH.nil
                have hBA : w.heap.size ≤ (w2.drew.alloc (.cells #[.int .i64 n0, .int .i64 n1, .int .i64 n2, .int .i64 n3, .slice none 0 0] 47)).heap.size := by rw [alloc_size]; have := HI3.out.low; omega
                refine app_step rfl (.tmp 56) (.tmp 70) 23 rfl w.heap.size 47 5 56 _ Tryd.underlying23 info47 rfl (by decide) _ _ _ rfl (HI3.out.own.2.1.own.alloc _) hBA _ _ #[.int .i64 n0, .int .i64 n1, .int .i64 n2, .int .i64 n3, .slice none 0 0] _ rfl (box_new _ _) rfl (tr_one _ _ _ _ _ _ _) (by have := (HZ.out.sm (by omega)).1; omega) (by decide) _ rfl ?_
                intro g cap w6 hown hgrow hg hlt6
                obtain ⟨HI7, hbx⟩ := HI3.out.train (t := ⟨n0, n1, n2, n3, []⟩) rfl hgrow hown hg
                have HC7 := Lib.hid (chg_step HC3.out HI3.out.own.2.1.own (by decide) hgrow hbx (by decide) HI3.out.low 2 (.slice (some ⟨g, 0, none⟩) (l.trains.length + 1) cap))
                have hS6 := hS3.grown HI3.out.own.2.1.own (by decide) hgrow
                have hS7 := hS6.set hbx (by decide) 2 (.slice (some ⟨g, 0, none⟩) (l.trains.length + 1) cap)
                refine hK.out _ _ (hS6) (fun _ => ?_)
                clear hK K
                refine wpAnyH_take (i := 17) (oi := _) (v := ?_) rfl (by kernel_rfl) (by kernel_rfl) (by kernel_rfl) (fun _ _ _ h => h) (Or.inl ⟨by rfl, ?_⟩) (by assumption) ?_
                rotate_left 1
                · intro W hSw
                  go_simp
                  try with_reducible rfl
                try simp only [Act.put, List.setIfInBounds_toArray, List.set_cons_zero, List.set_cons_succ]
                refine wpAnyH_ready (rs := [18]) (by kernel_rfl) (by simp) ?_
                refine AllReadyH.cons rfl (fun K hK => ?_) AllReadyH.nil
                have t0 := box_lt hbx
                have t1 := box_cell hbx 2
                have t2 := box_frozen hbx 2
                go_simp
                refine hK.out _ _ (hS7) (fun _ => ?_)
                clear hK K
                refine wpAnyH_done (by kernel_rfl) ?_ _
                go_wp2_with fail
                exact ⟨⟨n + 1, f', sb, _, _, _, _, rfl, by go_num, by have := HSZ.out; omega, by have := HSZ.out; omega, HI7, soft_keep HC7.out HBb.out, soft_ext HXb.out HC7.out, HZ7.out, fun h => absurd h (Nat.succ_ne_zero _), HG7.out⟩, by have := HSZ.out; simp only [strLen]; omega⟩
end Go.Proofs.YthhkbfjolmgloaaDoor
