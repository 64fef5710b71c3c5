/- The second closure of impl.Check: it answers its clash at a leg. Condition: the line is right, the plan fits. -/
import Derived.Test.YthhkbfjolmgloaaMHEach
import Derived.Deep.RegionWith
import Derived.Deep.DeepCutAuto
import Derived.Deep.RegionHeld3
namespace Go.Proofs.Ythhkbfjolmgloaa
open Go.RowKit
set_option linter.unusedVariables false
set_option linter.unusedSimpArgs false
theorem openS2 {w wr : World} {bs : List (Nat × Array Value × TypeId)} {b1 b2 : Nat} {cs1 cs2 : Array Value} {t1 t2 : TypeId} (h : Lp w wr ((b1, cs1, t1) :: (b2, cs2, t2) :: bs)) : Lp w wr ((b1, cs1, t1) :: (b2, cs2, t2) :: bs) ∧ (∀ j, wr.cell? ⟨b1, j, none⟩ = cs1[j]?) ∧ b1 < wr.heap.size ∧ (∀ j, wr.cell? ⟨b2, j, none⟩ = cs2[j]?) ∧ b2 < wr.heap.size := by
  obtain ⟨k1, k2, k3, k4, k5, k6⟩ := h.open2
  exact ⟨h, k3, k4, k5, k6⟩
set_option maxRecDepth 100000 in
set_option maxHeartbeats 8000000 in
theorem c95_any {w : World} {l : Line} {p : List (List Int)} {A0 A2 A3 : Option Addr} {c0 c2 c3 gl gp : Nat} (hl : IsLine w l (.agg #[.slice A0 l.tracks.length c0, .int .i64 l.gap, .slice A2 l.trains.length c2])) (hp : IsPlan w p (.agg #[.slice A3 p.length c3])) (O : Ok l) (F : Fits l p) (bx1 : w.heap[gl]? = some (.cells #[.slice A0 l.tracks.length c0, .int .i64 l.gap, .slice A2 l.trains.length c2] 33 (0, 0))) (bx2 : w.heap[gp]? = some (.cells #[.slice A3 p.length c3] 42 (0, 0))) {i k : Nat} (hi : i < l.trains.length) (hk : k < (l.tr i).legs.length) :
    Calls Try.prog 95 #[.int .i64 i, .int .i64 k, .pointer (some ⟨gl, 0, none⟩), .pointer (some ⟨gp, 0, none⟩)] w fun e w' => e = .returned (clV (cl3 l p i k)) ∧ Ext w w' := by
  have HL := Lib.hid (fun (W : World) (e : Ext w W) => hl.ext e)
  have HP := Lib.hid (fun (W : World) (e : Ext w W) => hp.ext e)
  obtain ⟨A0', c0', A2', c2', hq, h0, h2⟩ := hl
  simp only [Value.agg.injEq, Array.mk.injEq, List.cons.injEq, Value.slice.injEq, and_true, true_and] at hq
  obtain ⟨⟨rfl, rfl⟩, rfl, rfl⟩ := hq
  obtain ⟨A3', c3', hq, h3⟩ := hp
  simp only [Value.agg.injEq, Array.mk.injEq, List.cons.injEq, Value.slice.injEq, and_true, true_and] at hq
  obtain ⟨rfl, rfl⟩ := hq
  obtain ⟨b0, o0, b2, o2, bl, ol, cl, SL⟩ := seeL O h0 h2
  obtain ⟨b3, o3, br, or', cr, SP⟩ := seeP O F h3
  clear h0 h2 h3
  have B := O.bd
  have HB := Lib.hid B
  have HS := Lib.hid SL
  have HQ := Lib.hid SP
  have HF := Lib.hid F
  have HO := Lib.hid O
  obtain ⟨x0, x1, _⟩ := B.leg i k hi hk
  obtain ⟨rfl, hb0⟩ := SL.base0 (by omega)
  obtain ⟨rfl, hb2⟩ := SL.base2 (by omega)
  obtain ⟨rfl, hb3⟩ := SP.base (by omega)
  obtain ⟨e0, e1, e2, e3, e4, hbl⟩ := SL.train i hi
  obtain ⟨r0, hbr⟩ := SP.row i hi
  obtain ⟨f0, f1, f2⟩ := SL.leg i k hi hk
  have s0 := SP.st i k hi hk
  obtain ⟨z1, z2⟩ := F.bd hi hk
  have n10 := B.nl1 i hi
  have n5 := B.n5
  have q0 := SL.tk (l.leg i k).to.toNat x1
  have tb := B.tk (l.leg i k).to.toNat x1
  have n12 := B.tracks
  rw [F.rows] at HP bx2
  have g0 : w.cell? ⟨gl, 0, none⟩ = _ := box_cell bx1 0
  have g2 : w.cell? ⟨gl, 2, none⟩ = _ := box_cell bx1 2
  have g1 : w.cell? ⟨gl, 1, none⟩ = _ := box_cell bx1 1
  have g3 : w.cell? ⟨gp, 0, none⟩ = _ := box_cell bx2 0
  have hgl := box_lt bx1
  have hgp := box_lt bx2
  have d1 : bl i < w.heap.size + 1 := by omega
  have d3 : br i < w.heap.size + 1 := by omega
  have d5 : b3 < w.heap.size + 1 := by omega
  have d7 : gp < w.heap.size + 1 := by omega
  have d8 : gl < w.heap.size + 1 := by omega
  have d9 : b2 < w.heap.size + 1 := by omega
  clear SL SP F O B bx1 bx2
  have HI := Lib.hid (fun (W : World) (e : Ext w W) => (HS.out.isTrain hi).ext e)
  have HA := Lib.hid (show (l.tr i).trk k = min ((l.tr i).at_ k) (l.leg i k).to from rfl)
  have d10 : bl i < w.heap.size + 1 + 1 := by omega
  go_enter Try.func95, Try.ntmps95
  go_upto_region 3 with fail
  go_cut [9, 10] (fun s9 s10 wx => s9 = .int .i64 ((l.tr i).at_ k) ∧ s10 = .int .i64 (l.leg i k).to ∧ Lp w wx [(w.heap.size, #[.int .i64 0, .int .i64 0, .int .i64 0, .int .i64 0], 48)])
  case first =>
    have hS := (Lp.start2 w #[.int .i64 0, .int .i64 0, .int .i64 0, .int .i64 0] #[.int .i64 (l.tr i).frm, .int .i64 (l.tr i).ready, .int .i64 (l.tr i).due, .int .i64 (l.tr i).weight, .slice (some ⟨bl i, ol i, none⟩) (l.tr i).legs.length (cl i)] 48 80)
    go_region_with (go_at_call 96; refine (from_any (HI.out _ (by repeat (first | (with_reducible assumption) | (with_reducible exact Ext.refl _) | apply Ext.alloc | apply Ext.drewN | apply Ext.drew))) n10.2 hk).mono ?_; rintro e w1 ⟨rfl, hE⟩; have hT : Lp w w1 _ := (show Lp w _ _ from (by repeat (first | (with_reducible exact hS) | apply Lp.alloc | apply Lp.drewN | apply Lp.drew))).trans hE; obtain ⟨k1, k2, k3, k4, k5, k6⟩ := hT.open2)
    all_goals
      go_wp2_with fail
      go_meet
      exact ⟨rfl, rfl, hT.tail⟩
  case rest =>
  obtain ⟨rfl, rfl, hS⟩ := hcut
  clear e0 e1 e2 e3 e4 r0 f0 f1 f2 d1 d3 d5 d7 d8 d9 d10
  obtain ⟨k1, k2, k3, k4⟩ := hS.open1
  go_wp2_with fail
  clear s0 k1 k2 k3 k4
  go_loopw [42] (fun j wr => ∃ (jj : Nat), jj ≤ l.trains.length ∧ j = .int .i64 jj ∧ Hid (hit l p i k = findF (hitF l p i k) jj l.trains.length) ∧
    Lp w wr [(w.heap.size, #[.int .i64 0, .int .i64 0, .int .i64 0, .int .i64 0], 48)]) (fun j _ => l.trains.length - (intOf j).toNat)
  case atStart => exact ⟨0, Nat.zero_le _, rfl, rfl, hS⟩
  case round =>
    clear hS
    obtain ⟨jj, hjj, rfl, HT, hS⟩ := hrel
    obtain ⟨k1, k2, k3, k4⟩ := hS.open1
    by_cases hlt : jj < l.trains.length
    · obtain ⟨e0, e1, e2, e3, e4, hbj⟩ := HS.out.train jj hlt
      obtain ⟨r0, hbr'⟩ := HQ.out.row jj hlt
      obtain ⟨m10, m11⟩ := HB.out.nl1 jj hlt
      by_cases hij : jj = i
      · have hij' : ((jj : Int) == i) = true := by simp; omega
        have HE := Lib.hid (findF_none.2 (fun m _ _ => if_neg (by simp [tight, hij])) : hitF l p i k jj = none)
        clear hij
        go_wp2_with fail
        exact ⟨⟨jj + 1, by omega, by go_num, by rw [HT.out, findF_skip _ hlt HE.out]; rfl, (by repeat (first | (with_reducible exact hS) | apply Lp.alloc | apply Lp.drewN | apply Lp.drew))⟩, (by simp [intOf]; omega)⟩
      · have hij' : ((jj : Int) == i) = false := by simp; omega
        have HJ := Lib.hid (fun (W : World) (e : Ext w W) => (HS.out.isTrain hlt).ext e)
        have HIJ := Lib.hid hij; clear hij
        go_wp2_with fail
        have hS0 := hS.new #[.int .i64 (l.tr jj).frm, .int .i64 (l.tr jj).ready, .int .i64 (l.tr jj).due, .int .i64 (l.tr jj).weight, .slice (some ⟨bl jj, ol jj, none⟩) (l.tr jj).legs.length (cl jj)] 80
        have hwr := hS.ext.size
        obtain ⟨B, hB⟩ : ∃ B, wr.heap.size = B := ⟨_, rfl⟩
        rw [hB] at hS0 hwr ⊢
        clear k1 k2 k3 k4
        go_loopw [53] (fun j wi => ∃ (m : Nat), m ≤ (l.tr jj).legs.length ∧ j = .int .i64 m ∧ Hid (hitF l p i k jj = findF (fun m => if tight l p i k jj m then some jj else none) m (l.tr jj).legs.length) ∧
          Lp w wi [(B, #[.int .i64 (l.tr jj).frm, .int .i64 (l.tr jj).ready, .int .i64 (l.tr jj).due, .int .i64 (l.tr jj).weight, .slice (some ⟨bl jj, ol jj, none⟩) (l.tr jj).legs.length (cl jj)], 80), (w.heap.size, #[.int .i64 0, .int .i64 0, .int .i64 0, .int .i64 0], 48)]) (fun j _ => (l.tr jj).legs.length - (intOf j).toNat)
        case atStart => exact ⟨0, Nat.zero_le _, rfl, rfl, hS0⟩
        case round =>
          clear hS hS0
          obtain ⟨m, hm, rfl, HU, hS⟩ := hrel
          obtain ⟨k1, k2, k3, k4, k5, k6⟩ := hS.open2
          by_cases hlm : m < (l.tr jj).legs.length
          · obtain ⟨f0, f1, f2⟩ := HS.out.leg jj m hlt hlm
            have s1 := HQ.out.st jj m hlt hlm
            obtain ⟨z3, z4⟩ := HF.out.bd hlt hlm
            obtain ⟨_, _, y1, y2, _, _⟩ := HB.out.leg jj m hlt hlm
            obtain ⟨y3, y4⟩ := HB.out.gap
            have HA2 := Lib.hid (show (l.tr jj).trk m = min ((l.tr jj).at_ m) (l.leg jj m).to from rfl)
            go_upto_region 12 with fail
            have hS1 := hS.new #[.int .i64 (l.leg jj m).to, .int .i64 (l.leg jj m).run, .int .i64 (l.leg jj m).stay] 84
            go_cut [16] (fun s wx => ∃ q : Bool, s = .bool q ∧ Hid (q = decide ((l.tr i).trk k = (l.tr jj).trk m)) ∧ Lp w wx [(wr.heap.size, #[.int .i64 (l.leg jj m).to, .int .i64 (l.leg jj m).run, .int .i64 (l.leg jj m).stay], 84), (B, #[.int .i64 (l.tr jj).frm, .int .i64 (l.tr jj).ready, .int .i64 (l.tr jj).due, .int .i64 (l.tr jj).weight, .slice (some ⟨bl jj, ol jj, none⟩) (l.tr jj).legs.length (cl jj)], 80), (w.heap.size, #[.int .i64 0, .int .i64 0, .int .i64 0, .int .i64 0], 48)])
            case first =>
              clear k1 k2 k3 k4 k5 k6
              have hu : undef = Value.tuple #[] := rfl
              by_cases a1 : (l.leg i k).to < (l.tr i).at_ k
              all_goals
                by_cases a2 : (l.leg jj m).to < (l.tr jj).at_ m
                all_goals
                  go_region_held3 (fun W => Lp w W [(wr.heap.size, #[.int .i64 (l.leg jj m).to, .int .i64 (l.leg jj m).run, .int .i64 (l.leg jj m).stay], 84), (B, #[.int .i64 (l.tr jj).frm, .int .i64 (l.tr jj).ready, .int .i64 (l.tr jj).due, .int .i64 (l.tr jj).weight, .slice (some ⟨bl jj, ol jj, none⟩) (l.tr jj).legs.length (cl jj)], 80), (w.heap.size, #[.int .i64 0, .int .i64 0, .int .i64 0, .int .i64 0], 48)] ∧ (∀ j, W.cell? ⟨wr.heap.size, j, none⟩ = (#[.int .i64 (l.leg jj m).to, .int .i64 (l.leg jj m).run, .int .i64 (l.leg jj m).stay] : Array Value)[j]?) ∧ wr.heap.size < W.heap.size ∧ (∀ j, W.cell? ⟨B, j, none⟩ = (#[.int .i64 (l.tr jj).frm, .int .i64 (l.tr jj).ready, .int .i64 (l.tr jj).due, .int .i64 (l.tr jj).weight, .slice (some ⟨bl jj, ol jj, none⟩) (l.tr jj).legs.length (cl jj)] : Array Value)[j]?) ∧ B < W.heap.size) (first | assumption | exact openS2 hS1.drew | exact openS2 (Lp.trans (And.left (by assumption)) (by assumption))) (first  | (go_at_call 96; have hX := Lp.ext (And.left (by assumption : Lp w _ _ ∧ _)); with_reducible refine (from_any (HJ.out _ hX) m11 hlm).mono ?_; rintro e w5 ⟨rfl, hE5⟩))
                  all_goals
                    go_wp2_with fail
                    go_meet
                    exact ⟨decide ((l.tr i).trk k = (l.tr jj).trk m), by rw [HA.out, HA2.out]; congr 1; all_goals (rw [Bool.eq_iff_iff]; simp; try omega), rfl, And.left (by assumption)⟩
            case rest =>
              obtain ⟨q, rfl, hq, hT⟩ := hcut
              clear k1 k2 k3 k4 k5 k6 hS1
              obtain ⟨k1, k2, k3, k4, k5, k6, k7, k8⟩ := hT.open3
              have hT2 := hT.tail
              have hTe := hT.ext
              have fr := box_frozen (hT.box (w.heap.size, #[.int .i64 0, .int .i64 0, .int .i64 0, .int .i64 0], 48) (by simp))
              cases q with
              | true =>
                have C1 : Hid ((l.tr i).trk k = (l.tr jj).trk m) := by exact of_decide_eq_true (p := (l.tr i).trk k = (l.tr jj).trk m) hq.out.symm
                by_cases c2 : (st p jj m < st p i k ∨ (st p jj m = st p i k ∧ jj < i)) ∧ st p i k < st p jj m + (l.leg jj m).run + l.gap
                · have hv : Hid (tight l p i k jj m = true) := by unfold Hid tight; simp only [decide_eq_true_eq]; exact ⟨fun h => HIJ.out h.symm, C1.out, c2.1, c2.2⟩
                  have HE := Lib.hid (findF_hit (fun m => if tight l p i k jj m then some jj else none) (b := jj) hlm (by simp [hv.out]))
                  have hV : Hid (cl3 l p i k = ((3, (i : Int), (k : Int), (jj : Int)) : Cl)) := by unfold Hid cl3 hit; rw [show findF (hitF l p i k) 0 l.trains.length = some jj from HT.out.trans (findF_hit _ hlt (HU.out.trans HE.out))]
                  obtain ⟨c2, c3⟩ := c2
                  have c2' : st p jj m < st p i k ∨ (¬ st p jj m < st p i k ∧ (st p jj m == st p i k) = true ∧ jj < i) := by
                    by_cases e : st p jj m < st p i k
                    · exact Or.inl e
                    · exact Or.inr ⟨e, by simp; omega, by omega⟩
                  clear c2
                  rcases c2' with c4 | ⟨c4, c5, c6⟩
                  all_goals
                    go_wp2_with fail
                    exact bodyPost_ret (v := clV (3, i, k, jj)) (by simp [results, Try.results95, go_sem, clV, k7, k8]) rfl ⟨by rw [hV.out], (by repeat (first | (with_reducible exact hS.ext) | (with_reducible assumption) | (with_reducible exact Ext.refl _) | with_reducible apply Ext.alloc | with_reducible apply Ext.drewN | with_reducible apply Ext.drew | with_reducible refine Ext.setCell ?_ (by simp only []; omega) _))⟩
                · have hv : Hid (tight l p i k jj m = false) := by unfold Hid tight; simp only [decide_eq_false_iff_not]; exact fun h => c2 h.2.2
                  have HE := Lib.hid (findF_skip (fun m => if tight l p i k jj m then some jj else none) hlm (by simp [hv.out]))
                  have c2' : (st p jj m < st p i k ∧ ¬ st p i k < st p jj m + (l.leg jj m).run + l.gap) ∨ (¬ st p jj m < st p i k ∧ (st p jj m == st p i k) = false) ∨ (¬ st p jj m < st p i k ∧ (st p jj m == st p i k) = true ∧ ¬ jj < i) ∨ (¬ st p jj m < st p i k ∧ (st p jj m == st p i k) = true ∧ jj < i ∧ ¬ st p i k < st p jj m + (l.leg jj m).run + l.gap) := by
                    simp only [beq_iff_eq, beq_eq_false_iff_ne, ne_eq]
                    omega
                  clear c2
                  rcases c2' with ⟨c4, c5⟩ | ⟨c4, c5⟩ | ⟨c4, c5, c6⟩ | ⟨c4, c5, c6, c7⟩
                  · go_wp2_with fail
                    exact ⟨⟨m + 1, by omega, by go_num, HU.out.trans HE.out, hT2⟩, (by simp [intOf]; omega)⟩
                  · go_wp2_with fail
                    exact ⟨⟨m + 1, by omega, by go_num, HU.out.trans HE.out, hT2⟩, (by simp [intOf]; omega)⟩
                  · have c6a : decide ((jj : Int) < (i : Int)) = false := by simp; omega
                    have c6b : decide (jj < i) = false := by simp; omega
                    go_wp2_with fail
                    exact ⟨⟨m + 1, by omega, by go_num, HU.out.trans HE.out, hT2⟩, (by simp [intOf]; omega)⟩
                  · exfalso
                    simp only [beq_iff_eq] at c5
                    omega
              | false =>
                have hv : Hid (tight l p i k jj m = false) := by unfold Hid tight; simp only [decide_eq_false_iff_not]; intro h; have := hq.out; simp [h.2.1] at this
                have HE := Lib.hid (findF_skip (fun m => if tight l p i k jj m then some jj else none) hlm (by simp [hv.out]))
                go_wp2_with fail
                exact ⟨⟨m + 1, by omega, by go_num, HU.out.trans HE.out, hT2⟩, (by simp [intOf]; omega)⟩
          · have HE := Lib.hid (findF_end (fun m => if tight l p i k jj m then some jj else none) (i := m) (n := (l.tr jj).legs.length) (by omega))
            go_wp2_with fail
            exact ⟨⟨jj + 1, by omega, by go_num, by rw [HT.out, findF_skip _ hlt (by rw [HU.out, HE.out])]; rfl, hS.tail⟩, (by simp [intOf]; omega)⟩
    · have HE := Lib.hid (findF_end (hitF l p i k) (i := jj) (n := l.trains.length) (by omega))
      have fr := box_frozen (hS.box _ List.mem_cons_self)
      have hV : Hid (cl3 l p i k = ((0, 0, 0, 0) : Cl)) := by unfold Hid cl3; rw [HT.out, HE.out]
      go_wp2_with fail
      exact bodyPost_ret (v := clV (0, 0, 0, 0)) (by simp [results, Try.results95, go_sem, clV, k3, k4]) rfl ⟨by rw [hV.out], (by repeat (first | (with_reducible exact hS.ext) | (with_reducible assumption) | (with_reducible exact Ext.refl _) | with_reducible apply Ext.alloc | with_reducible apply Ext.drewN | with_reducible apply Ext.drew | with_reducible refine Ext.setCell ?_ (by simp only []; omega) _))⟩
end Go.Proofs.Ythhkbfjolmgloaa
