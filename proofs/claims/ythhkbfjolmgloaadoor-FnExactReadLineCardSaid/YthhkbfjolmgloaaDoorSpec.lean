/- spec.ReadLine reads a text as toldL says. Condition: the text's length fits into Go's int. -/
import Derived.Test.YthhkbfjolmgloaaDoorTake
import Derived.Test.YthhkbfjolmgloaaDoorLineOk
import Derived.Lib.Strings
namespace Go.Proofs.YthhkbfjolmgloaaDoor
open Go.RowKit Go.Deep
set_option linter.unusedVariables false
set_option linter.unusedSimpArgs false
theorem ext_of_chg {w w' : World} (h : Chg (Soft w.heap.size w) w w') : Ext w w' := Chg.below h (fun g hg => hg.1) (Nat.le_refl _)
def Sz (N : Nat) (l : Line) : Prop := l.tracks.length ≤ 40 ∧ l.trains.length + legsN l.trains ≤ N
theorem Sz.sm {N : Nat} {l : Line} (h : Sz N l) (hN : N ≤ 5000) : Sm 5000 l := by
  refine ⟨by have := h.2; omega, fun i => ?_⟩
  by_cases hi : i < l.trains.length
  · have := legsN_le (some_getD hi)
    have := h.2
    omega
  · rw [List.getD_eq_getElem?_getD, List.getElem?_eq_none (by omega)]
    exact Nat.zero_le _
theorem Sz.size {N : Nat} {l : Line} (h : Sz N l) (hN : N ≤ 5000) : l.size ≤ 1048576 := by unfold Line.size; have := h.1; have := h.2; omega
theorem legsN_append (ts : List Train) (t : Train) : legsN (ts ++ [t]) = legsN ts + t.legs.length := by
  induction ts with
  | nil => simp [legsN]
  | cons x ts ih => simp only [List.cons_append, legsN, ih]; omega
theorem legsN_set : ∀ {ts : List Train} {i : Nat} (t : Train), i < ts.length → legsN (ts.set i t) + (ts.getD i default).legs.length = legsN ts + t.legs.length
  | x :: ts, 0, t, _ => by simp only [List.set_cons_zero, legsN, List.getD_cons_zero]; omega
  | x :: ts, i + 1, t, h => by
    have := legsN_set (ts := ts) (i := i) t (by simpa using h)
    simp only [List.set_cons_succ, legsN, List.getD_cons_succ]; omega
theorem addLeg_legs {ts : List Train} {x : Leg} (h : 0 < ts.length) : (addLeg ts x).length = ts.length ∧ legsN (addLeg ts x) = legsN ts + 1 := by
  refine ⟨by simp [addLeg], ?_⟩
  obtain ⟨t', ht'⟩ : ∃ t' : Train, t' = { ts.getD (ts.length - 1) default with legs := (ts.getD (ts.length - 1) default).legs ++ [x] } := ⟨_, rfl⟩
  have e : addLeg ts x = ts.set (ts.length - 1) t' := by rw [ht']; rfl
  have hl : t'.legs.length = (ts.getD (ts.length - 1) default).legs.length + 1 := by rw [ht']; simp
  have := legsN_set (ts := ts) (i := ts.length - 1) t' (by omega)
  rw [e]
  omega
theorem takeL_sz {l l' : Line} {s : Bs} {k N : Nat} (h : Sz N l) (ht : takeL l s k = some l') : Sz (N + 1) l' := by
  have hup : Sz (N + 1) l := ⟨h.1, by have := h.2; omega⟩
  unfold takeL at ht
  split at ht
  · split at ht
    · cases ht
    · rename_i h40
      cases hq : numsL (splitL 32 s) (some bTracks :: List.replicate (max 1 ((splitL 32 s).length - 1)) none) with
      | none => rw [hq] at ht; cases ht
      | some ns =>
        rw [hq] at ht
        simp only [Option.map_some, Option.some.injEq] at ht
        subst ht
        have hc := numsL_count hq
        simp at hc
        exact ⟨by simp only; omega, hup.2⟩
  · split at ht
    · cases hq : numsL (splitL 32 s) (likeP [bGap]) with
      | none => rw [hq] at ht; cases ht
      | some ns => rw [hq] at ht; simp only [Option.map_some, Option.some.injEq] at ht; subst ht; exact hup
    · split at ht
      · cases hq : numsL (splitL 32 s) (likeP [bTrain, bReady, bDue, bWeight]) with
        | none => rw [hq] at ht; cases ht
        | some ns =>
          rw [hq] at ht
          simp only [Option.map_some, Option.some.injEq] at ht
          subst ht
          refine ⟨h.1, ?_⟩
          simp only [List.length_append, List.length_singleton, legsN_append, List.length_nil]
          have := h.2; omega
      · cases hq : numsL (splitL 32 s) (likeP [bLeg, bRun, bStay]) with
        | none => rw [hq] at ht; cases ht
        | some ns =>
          rw [hq] at ht
          simp only at ht
          split at ht
          · cases ht
          · rename_i hz
            simp only [Option.some.injEq] at ht
            subst ht
            obtain ⟨e1, e2⟩ := addLeg_legs (x := ⟨ns.getD 0 0, ns.getD 1 0, ns.getD 2 0⟩) (show 0 < l.trains.length by omega)
            refine ⟨h.1, ?_⟩
            simp only [e1, e2]
            have := h.2; omega
/-- What reading a text answers, in memory. -/
def ToldIs (w : World) (t : (Int × Int) × Line) (v : Value) : Prop := ∃ a g b, v = .agg #[.int .i64 t.1.1, .int .i64 t.1.2, a, g, b] ∧ IsLine w t.2 (.agg #[a, g, b])
theorem readG_stop {f : Nat} {l : Line} {n : Nat} {t : Bs} (h : t.length = 0 ∧ 2 ≤ n) : readG (f + 1) l n t = .inr l := by rw [readG, if_pos h]
theorem readG_cut {f : Nat} {l : Line} {n : Nat} {t : Bs} (h : ¬ (t.length = 0 ∧ 2 ≤ n)) (hc : cutL 10 t = none) : readG (f + 1) l n t = .inl (n + 1) := by rw [readG, if_neg h, hc]
theorem readG_bad {f : Nat} {l : Line} {n : Nat} {t a b : Bs} (h : ¬ (t.length = 0 ∧ 2 ≤ n)) (hc : cutL 10 t = some (a, b)) (ht : takeL l a n = none) : readG (f + 1) l n t = .inl (n + 1) := by rw [readG, if_neg h, hc]; simp only [ht]
theorem readG_go {f : Nat} {l l' : Line} {n : Nat} {t a b : Bs} (h : ¬ (t.length = 0 ∧ 2 ≤ n)) (hc : cutL 10 t = some (a, b)) (ht : takeL l a n = some l') : readG (f + 1) l n t = readG f l' (n + 1) b := by rw [readG, if_neg h, hc]; simp only [ht]
theorem noLine_is (w : World) : IsLine w noLine (.agg #[.slice none 0 0, .int .i64 0, .slice none 0 0]) := ⟨none, 0, none, 0, rfl, fun j x hx => by simp [noLine] at hx, fun j x hx => by simp [noLine] at hx⟩
theorem lnI_new (w : World) {B : Nat} (hB : B ≤ w.heap.size) : LnI B (w.alloc (.cells #[.slice none 0 0, .int .i64 0, .slice none 0 0] 25)) w.heap.size noLine (.slice none 0 0) (.slice none 0 0) (fun _ => .slice none 0 0) :=
  ⟨heap_alloc_new w _, hB, World.ownsRow_nil _ _ _ _, TrI.nil _ _ _, fun i k g hi => by simp [noLine] at hi⟩
theorem soft_keep {B : Nat} {w w' : World} (h : Chg (Soft B w) w w') {g : Nat} {cs : Array Value} (hb : w.heap[g]? = some (.cells cs 27 (0, 0))) : w'.heap[g]? = some (.cells cs 27 (0, 0)) := (h.block g (box_lt hb) (fun hs => hs.2 cs (0, 0) hb)).trans hb
theorem soft_ext {w wr w' : World} (hX : Ext w wr) (h : Chg (Soft w.heap.size wr) wr w') : Ext w w' := Below.trans hX (Chg.below h (fun g hg => hg.1) hX.size)
theorem fault_bd (l : Line) : 0 ≤ (fault l).1 ∧ (fault l).1 ≤ 100 := by
  unfold fault
  repeat' split
  all_goals first | (constructor <;> decide) | simp
theorem OwnA.set27 {B : Nat} {w : World} {l : Line} {v0 v2 : Value} {vl : Nat → Value} (h : OwnA B w l v0 v2 vl) {g : Nat} {cs : Array Value} (hb : w.heap[g]? = some (.cells cs 27 (0, 0))) (j : Nat) (u : Value) : OwnA B (w.setCell ⟨g, j, none⟩ u) l v0 v2 vl :=
  ⟨ownsRow_set_far h.1 (own_far h.1 hb (by decide)) j u, h.2.1.set_far hb (by decide) (by decide) j u, h.2.2⟩
theorem OwnA.told {B : Nat} {w : World} {l : Line} {v0 v2 : Value} {vl : Nat → Value} (h : OwnA B w l v0 v2 vl) {g : Nat} {cs : Array Value} (hb : w.heap[g]? = some (.cells cs 27 (0, 0))) (a b c d e : Value) :
    OwnA B (((((w.setCell ⟨g, 0, none⟩ a).setCell ⟨g, 1, none⟩ b).setCell ⟨g, 2, none⟩ c).setCell ⟨g, 3, none⟩ d).setCell ⟨g, 4, none⟩ e) l v0 v2 vl :=
  ((((h.set27 hb 0 a).set27 (box_set hb 0 a) 1 b).set27 (box_set (box_set hb 0 a) 1 b) 2 c).set27 (box_set (box_set (box_set hb 0 a) 1 b) 2 c) 3 d).set27 (box_set (box_set (box_set (box_set hb 0 a) 1 b) 2 c) 3 d) 4 e
set_option maxRecDepth 100000 in
set_option maxHeartbeats 8000000 in
theorem spec_ReadLine_any {w : World} (s : ByteArray) : Calls Tryd.prog 4 #[.string s] w fun e w' => ∃ v, e = .returned v ∧ ToldIs w' (toldL (toL s)) v ∧ Ext w w' := by
  by_cases hbig : 4000 < s.size
  · have g0 : decide ((4000 : Int) < (s.size : Int)) = true := by rw [decide_eq_true_eq]; omega
    have HT : Hid (toldL (toL s) = ((2, 0), noLine)) := by unfold Hid toldL; rw [if_pos (by rw [toL_len]; exact hbig)]
    go_enter Tryd.func4, Tryd.ntmps4
    go_wp2_with fail
    refine bodyPost_ret (v := .agg #[.int .i64 2, .int .i64 0, .slice none 0 0, .int .i64 0, .slice none 0 0]) (by simp [results, Tryd.results4, go_sem]) rfl ⟨_, rfl, ⟨_, _, _, by rw [HT.out], by rw [HT.out]; exact noLine_is _⟩, ?_⟩
    exact (by repeat (first | (with_reducible assumption) | (with_reducible exact Ext.refl _) | apply Ext.alloc | apply Ext.drewN | apply Ext.drew))
  · have HNB := Lib.hid hbig
    have g0 : decide ((4000 : Int) < (s.size : Int)) = false := by rw [decide_eq_false_iff_not]; omega
    obtain ⟨R, hR⟩ : ∃ R, Hid (readG ((toL s).length + 1) noLine 0 (toL s) = R) := ⟨_, rfl⟩
    have HT : Hid (toldL (toL s) = endL R) := by unfold Hid toldL; rw [if_neg (by rw [toL_len]; exact hbig), hR.out]
    have hsz : s.size ≤ 4000 := by omega
    clear hbig
    go_enter Tryd.func4, Tryd.ntmps4
    go_wp2_with fail
    clear g0
    have hI0 := lnI_new (w.alloc (.cells #[.int .i64 0, .int .i64 0, .slice none 0 0, .int .i64 0, .slice none 0 0] 27)) (B := w.heap.size) (by rw [alloc_size]; omega)
    rw [alloc_size] at hI0
    have HI0 := Lib.hid hI0
    clear hI0
    have hB0 : Hid (((w.alloc (.cells #[.int .i64 0, .int .i64 0, .slice none 0 0, .int .i64 0, .slice none 0 0] 27)).alloc (.cells #[.slice none 0 0, .int .i64 0, .slice none 0 0] 25)).heap[w.heap.size]? = some (.cells #[.int .i64 0, .int .i64 0, .slice none 0 0, .int .i64 0, .slice none 0 0] 27 (0, 0))) := heap_alloc2_old _ _ _
    go_loopw [4, 5, 6] (fun a b c wr => ∃ (n fr i f : Nat) (l : Line) (v0 v2 : Value) (vl : Nat → Value), a = .int .i64 n ∧ b = .int .i64 fr ∧ c = .int .i64 i ∧ fr ≤ i ∧ i ≤ s.size ∧ n ≤ fr ∧ Hid (LnI w.heap.size wr (w.heap.size + 1) l v0 v2 vl) ∧ Hid (wr.heap[w.heap.size]? = some (.cells #[.int .i64 0, .int .i64 0, .slice none 0 0, .int .i64 0, .slice none 0 0] 27 (0, 0))) ∧ Hid (Ext w wr) ∧ Hid (Sz n l) ∧ Hid (∀ j, fr ≤ j → j < i → (toL s)[j]? ≠ some 10) ∧ s.size + 1 ≤ f + fr ∧ Hid (readG f l n ((toL s).drop fr) = R)) (fun _ _ c _ => s.size - (intOf c).toNat)
    case atStart => exact ⟨0, 0, 0, s.size + 1, noLine, _, _, fun _ => .slice none 0 0, rfl, rfl, rfl, by omega, by omega, by omega, HI0.out, hB0.out, ((Ext.refl w).alloc _).alloc _, ⟨by simp [noLine], by simp [noLine, legsN]⟩, fun j _ h => by omega, by omega, by have := hR.out; rw [toL_len] at this; exact this⟩
    case round =>
      obtain ⟨n, fr, i, f, l, v0, v2, vl, rfl, rfl, rfl, hfi, his, hnf, HI, HB, HX, HZ, HN, hf, HG⟩ := hrel
      by_cases hlt : i < s.size
      · by_cases hc : s[i] = 10
        · have g1 : ((s[i].toNat : Int) != 10) = false := by rw [hc]; rfl
          have hcut : cutL 10 ((toL s).drop fr) = some (toL (s.extract fr i), (toL s).drop (i + 1)) := by
            rw [cutL_at (m := i - fr) (fun j hj => by rw [List.getElem?_drop]; exact HN.out (fr + j) (by omega) (by omega)) (by rw [List.getElem?_drop, show fr + (i - fr) = i by omega, toL_at hlt, hc])]
            rw [List.drop_drop, show fr + (i - fr + 1) = i + 1 by omega]
            congr 2
            exact (Lib.extract_data s fr i).symm
          have hne : ¬ (((toL s).drop fr).length = 0 ∧ 2 ≤ n) := by rw [List.length_drop, toL_len]; omega
          obtain ⟨f', rfl⟩ : ∃ f', f = f' + 1 := ⟨f - 1, by omega⟩
          have hes : (s.extract fr i).size ≤ 4000 := by rw [ByteArray.size_extract]; omega
          have HC := Lib.hid (l4take_any HI.out HX.out.size (s.extract fr i) hes n (HZ.out.sm (by omega)) (by omega))
          have HCUT := Lib.hid hcut
          have HNE := Lib.hid hne
          clear hcut hne hes hc
          go_upto_region 11 with (go_at_call 9; refine HC.out.mono ?_; rintro e w1 ⟨l', v0', v2', vl', HI1, HC1, hor⟩; have HB1 := Lib.hid (soft_keep HC1 HB.out); have HX1 := Lib.hid (soft_ext HX.out HC1); rcases hor with ⟨hR0, rfl⟩ | ⟨hR0, rfl⟩ <;> clear HC1)
          · have HT1 : Hid (toldL (toL s) = (((1 : Int), ((n + 1 : Nat) : Int)), noLine)) := by
              unfold Hid
              have := HG.out
              rw [readG_bad HNE.out HCUT.out hR0] at this
              rw [HT.out, ← this]; rfl
            clear hR0
            have k0 := box_cell HB1.out 0
            have k1 := box_cell HB1.out 1
            have k2 := box_cell HB1.out 2
            have k3 := box_cell HB1.out 3
            have k4 := box_cell HB1.out 4
            have kf := fun j => box_frozen HB1.out j
            have kl := box_lt HB1.out
            go_wp2_with fail
            refine bodyPost_ret (v := .agg #[.int .i64 1, .int .i64 ((n : Int) + 1), .slice none 0 0, .int .i64 0, .slice none 0 0]) (by simp [results, Tryd.results4, go_sem, k0, k1, k2, k3, k4, kf, kl]) rfl ⟨_, rfl, ⟨_, _, _, by rw [HT1.out]; rfl, by rw [HT1.out]; exact noLine_is _⟩, ?_⟩
            repeat (first | exact HX1.out | refine Ext.setCell ?_ (Nat.le_refl _) _)
          · have HG1 : Hid (readG f' l' (n + 1) ((toL s).drop (i + 1)) = R) := by
              unfold Hid
              have := HG.out
              rw [readG_go HNE.out HCUT.out hR0] at this
              exact this
            have HZ1 := Lib.hid (takeL_sz HZ.out hR0)
            have HI1' := Lib.hid HI1
            clear hR0 HI1
            go_wp2_with fail
            exact ⟨⟨n + 1, i + 1, i + 1, f', l', v0', v2', vl', by go_num, by go_num, by go_num, by omega, by omega, by omega, HI1'.out, HB1.out, HX1.out, HZ1.out, fun j _ _ => by omega, by omega, HG1.out⟩, (by simp [intOf]; omega)⟩
        · have g1 : ((s[i].toNat : Int) != 10) = true := by
            simp only [bne_iff_ne, ne_eq]
            intro e
            exact hc (UInt8.toNat_inj.1 (by have : s[i].toNat = 10 := by omega
                                            rw [this]; rfl))
          have HN1 : Hid (∀ j, fr ≤ j → j < i + 1 → (toL s)[j]? ≠ some 10) := by
            intro j h1 h2
            by_cases e : j = i
            · subst e
              rw [toL_at hlt]
              intro e2
              exact hc (Option.some.inj e2)
            · exact HN.out j h1 (by omega)
          clear hc
          go_wp2_with fail
          exact ⟨⟨n, fr, i + 1, f, l, v0, v2, vl, rfl, rfl, by go_num, by omega, by omega, by omega, HI.out, HB.out, HX.out, HZ.out, HN1.out, by omega, HG.out⟩, (by simp [intOf]; omega)⟩
      · have hie : i = s.size := by omega
        have hnil : cutL 10 ((toL s).drop fr) = none := cutL_none (fun j hj => by rw [List.length_drop, toL_len] at hj; rw [List.getElem?_drop]; exact HN.out (fr + j) (by omega) (by omega))
        obtain ⟨f', rfl⟩ : ∃ f', f = f' + 1 := ⟨f - 1, by omega⟩
        have hlen : ((toL s).drop fr).length = s.size - fr := by rw [List.length_drop, toL_len]
        by_cases hgo : fr = s.size ∧ 2 ≤ n
        · have hRl : R = .inr l := by
            have := HG.out
            rw [readG_stop ⟨by rw [hlen]; omega, hgo.2⟩] at this
            exact this.symm
          have HT2 : Hid (toldL (toL s) = endL (.inr l)) := by unfold Hid; rw [HT.out, hRl]
          have g1 : decide ((fr : Int) < (s.size : Int)) = false := by rw [decide_eq_false_iff_not]; omega
          have g2 : decide ((n : Int) < 2) = false := by rw [decide_eq_false_iff_not]; omega
          have g3 : ¬ fr < s.size := by omega
          clear hnil hlen hRl hgo hie
          obtain ⟨A2, c2, hv2, hr2⟩ := HI.out.own.2.1.rd
          obtain ⟨_, A0, c0, hv0, hr0⟩ := rd_of_ownsP HI.out.own.1
          subst hv2
          subst hv0
          obtain ⟨q0, q1, q2, q3, q4⟩ := LnI.facts HI.out
          have HL := Lib.hid (⟨A0, c0, A2, c2, rfl, hr0, hr2⟩ : IsLine wr l (.agg #[.slice A0 l.tracks.length c0, .int .i64 l.gap, .slice A2 l.trains.length c2]))
          have HF := Lib.hid (spec_LineOk_any HL.out (HZ.out.size (by omega)))
          obtain ⟨fc, fa, hfl⟩ : ∃ fc fa, Hid (fault l = (fc, fa)) := ⟨_, _, rfl⟩
          rw [hfl.out] at HF
          unfold faultV at HF
          simp only at HF
          clear hr0 hr2
          go_upto_region 17 with (go_at_call 10; refine HF.out.mono ?_; rintro e w1 ⟨rfl, hX1⟩)
          have hfb := fault_bd l
          rw [hfl.out] at hfb
          obtain ⟨hfb1, hfb2⟩ := hfb
          simp only at hfb1 hfb2
          have HI1 := Lib.hid (HI.out.ext hX1)
          have HX1 := Lib.hid (HX.out.trans hX1)
          have HB1 : Hid (w1.heap[w.heap.size]? = _) := hX1.box HB.out
          clear q0 q1 q2 q3 q4 hX1
          obtain ⟨q0, q1, q2, q3, q4⟩ := LnI.facts HI1.out
          have k0 := box_cell HB1.out 0
          have k1 := box_cell HB1.out 1
          have k2 := box_cell HB1.out 2
          have k3 := box_cell HB1.out 3
          have k4 := box_cell HB1.out 4
          have kf := fun j => box_frozen HB1.out j
          have kl := box_lt HB1.out
          by_cases hf0 : fc = 0
          · subst hf0
            have HT3 : Hid (toldL (toL s) = ((0, 0), l)) := by unfold Hid; rw [HT2.out]; unfold endL; simp only [hfl.out]; rfl
            go_wp2_with fail
            refine bodyPost_ret (v := .agg #[.int .i64 0, .int .i64 0, .slice A0 l.tracks.length c0, .int .i64 l.gap, .slice A2 l.trains.length c2]) (by simp [results, Tryd.results4, go_sem, k0, k1, k2, k3, k4, kf, kl]) rfl ⟨_, rfl, ⟨_, _, _, by rw [HT3.out], ?_⟩, ?_⟩
            · rw [HT3.out]
              exact ((HI1.out.own.told HB1.out _ _ _ _ _).ext ((Ext.refl _).alloc _)).ownL.rd
            refine Ext.alloc ?_ _
            iterate 5 refine Ext.setCell ?_ (Nat.le_refl _) _
            exact HX1.out
          · have g4 : (fc != 0) = true := by simp [hf0]
            have HT3 : Hid (toldL (toL s) = ((2 + fc, 0), noLine)) := by unfold Hid; rw [HT2.out]; unfold endL; simp only [hfl.out]; exact if_neg hf0
            go_wp2_with fail
            refine bodyPost_ret (v := .agg #[.int .i64 (2 + fc), .int .i64 0, .slice none 0 0, .int .i64 0, .slice none 0 0]) (by simp [results, Tryd.results4, go_sem, k0, k1, k2, k3, k4, kf, kl]) rfl ⟨_, rfl, ⟨_, _, _, by rw [HT3.out], by rw [HT3.out]; exact noLine_is _⟩, ?_⟩
            refine Ext.alloc ?_ _
            iterate 5 refine Ext.setCell ?_ (Nat.le_refl _) _
            exact HX1.out
        · have HT1 : Hid (toldL (toL s) = (((1 : Int), ((n + 1 : Nat) : Int)), noLine)) := by
            unfold Hid
            have := HG.out
            rw [readG_cut (by rw [hlen]; omega) hnil] at this
            rw [HT.out, ← this]; rfl
          have k0 := box_cell HB.out 0
          have k1 := box_cell HB.out 1
          have k2 := box_cell HB.out 2
          have k3 := box_cell HB.out 3
          have k4 := box_cell HB.out 4
          have kf := fun j => box_frozen HB.out j
          have kl := box_lt HB.out
          clear hnil hlen
          by_cases hfs : fr < s.size
          · have g1 : decide ((fr : Int) < (s.size : Int)) = true := by rw [decide_eq_true_eq]; omega
            clear hgo hie
            go_wp2_with fail
            refine bodyPost_ret (v := .agg #[.int .i64 1, .int .i64 ((n : Int) + 1), .slice none 0 0, .int .i64 0, .slice none 0 0]) (by simp [results, Tryd.results4, go_sem, k0, k1, k2, k3, k4, kf, kl]) rfl ⟨_, rfl, ⟨_, _, _, by rw [HT1.out]; rfl, by rw [HT1.out]; exact noLine_is _⟩, ?_⟩
            repeat (first | exact HX.out | refine Ext.setCell ?_ (Nat.le_refl _) _)
          · have g1 : decide ((fr : Int) < (s.size : Int)) = false := by rw [decide_eq_false_iff_not]; omega
            have g2 : decide ((n : Int) < 2) = true := by rw [decide_eq_true_eq]; omega
            clear hgo hie
            go_wp2_with fail
            refine bodyPost_ret (v := .agg #[.int .i64 1, .int .i64 ((n : Int) + 1), .slice none 0 0, .int .i64 0, .slice none 0 0]) (by simp [results, Tryd.results4, go_sem, k0, k1, k2, k3, k4, kf, kl]) rfl ⟨_, rfl, ⟨_, _, _, by rw [HT1.out]; rfl, by rw [HT1.out]; exact noLine_is _⟩, ?_⟩
            repeat (first | exact HX.out | refine Ext.setCell ?_ (Nat.le_refl _) _)
end Go.Proofs.YthhkbfjolmgloaaDoor
