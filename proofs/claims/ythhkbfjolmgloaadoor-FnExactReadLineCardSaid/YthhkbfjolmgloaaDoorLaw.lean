/- laws.FnExactReadLine answers true, at every text. (The walk; the row and the card stand in texts behind.) -/
import Derived.Test.YthhkbfjolmgloaaDoorImpl
namespace Go.Proofs.YthhkbfjolmgloaaDoor
open Go.RowKit Go.Deep
set_option linter.unusedVariables false
set_option linter.unusedSimpArgs false
theorem Told2.form {B : Nat} {w : World} {x y : Int} {l : Line} {v : Value} (h : Told2 B w ((x, y), l) v) : ∃ A0 c0 A2 c2 vl, v = .agg #[.int .i64 x, .int .i64 y, .slice A0 l.tracks.length c0, .int .i64 l.gap, .slice A2 l.trains.length c2] ∧ OwnA B w l (.slice A0 l.tracks.length c0) (.slice A2 l.trains.length c2) vl := by
  obtain ⟨a, b, vl, rfl, hO⟩ := h
  obtain ⟨_, A0, c0, rfl, _⟩ := rd_of_ownsP hO.1
  obtain ⟨A2, c2, rfl, _⟩ := hO.2.1.rd
  exact ⟨A0, c0, A2, c2, vl, rfl, hO⟩
theorem ToldIs.ext {w w' : World} {t : (Int × Int) × Line} {v : Value} (h : ToldIs w t v) (e : Ext w w') : ToldIs w' t v := by
  obtain ⟨a, g, b, h1, h2⟩ := h
  exact ⟨a, g, b, h1, h2.ext e⟩
theorem ToldIs.form {w : World} {x y : Int} {l : Line} {v : Value} (h : ToldIs w ((x, y), l) v) : ∃ A0 c0 A2 c2, v = .agg #[.int .i64 x, .int .i64 y, .slice A0 l.tracks.length c0, .int .i64 l.gap, .slice A2 l.trains.length c2] := by
  obtain ⟨a, g, b, rfl, A0, c0, A2, c2, he, _, _⟩ := h
  simp only [Value.agg.injEq, Array.mk.injEq, List.cons.injEq, and_true] at he
  obtain ⟨rfl, rfl, rfl⟩ := he
  exact ⟨A0, c0, A2, c2, rfl⟩
set_option maxRecDepth 100000 in
set_option maxHeartbeats 8000000 in
theorem lawReadLine_any {w : World} {m : Int} (hm : Max0 m w) (s : ByteArray) : Calls Tryd.prog 3 #[.string s] w fun e w' => e = .returned (.bool true) ∧ Ext w w' := by
  by_cases hbig : 1048576 < s.size
  · have g0 : decide ((1048576 : Int) < (s.size : Int)) = true := by rw [decide_eq_true_eq]; omega
    go_enter Tryd.func3, Tryd.ntmps3
    go_wp2_with fail
    go_ret
    exact ⟨rfl, (by repeat (first | (with_reducible assumption) | (with_reducible exact Ext.refl _) | apply Ext.alloc | apply Ext.drewN | apply Ext.drew))⟩
  · have g0 : decide ((1048576 : Int) < (s.size : Int)) = false := by rw [decide_eq_false_iff_not]; omega
    clear hbig
    obtain ⟨x, y, l, ht⟩ : ∃ x y l, Hid (toldL (toL s) = ((x, y), l)) := ⟨_, _, _, rfl⟩
    have HF : Hid (Few l) := by have := told_few (toL s); rw [ht.out] at this; exact this
    have HM := Lib.hid (fun (W : World) (e : Ext w W) => hm.ext e)
    obtain ⟨K0, K1⟩ := endM_bd HF.out (k := 1) (by omega) (by omega)
    obtain ⟨K, hK⟩ : ∃ K, Hid (endM l 1 = K) := ⟨_, rfl⟩
    rw [hK.out] at K0 K1
    have HG := Lib.hid K1
    have gK0 : decide (K < 0) = false := by rw [decide_eq_false_iff_not]; omega
    have gK1 : (K != K) = false := by simp
    clear hm K1
    go_enter Tryd.func3, Tryd.ntmps3
    go_wp2_with fail
    refine (spec_ReadLine_any s).mono ?_
    rintro e w1 ⟨v1, rfl, T1, X1⟩
    rw [ht.out] at T1
    obtain ⟨A1, c1, A3, c3, rfl⟩ := T1.form
    have E1 : Ext w1 (w1.alloc (.cells #[.int .i64 x, .int .i64 y, .slice A1 l.tracks.length c1, .int .i64 l.gap, .slice A3 l.trains.length c3] 27)) := (Ext.refl w1).alloc _
    have H3 : Hid (BoxAt w1.heap.size #[.int .i64 x, .int .i64 y, .slice A1 l.tracks.length c1, .int .i64 l.gap, .slice A3 l.trains.length c3] 27 (w1.alloc (.cells #[.int .i64 x, .int .i64 y, .slice A1 l.tracks.length c1, .int .i64 l.gap, .slice A3 l.trains.length c3] 27))) := box_new _ _
    have HV := Lib.hid (T1.ext E1)
    have HX := Lib.hid (X1.trans E1)
    clear T1 X1 E1 g0
    go_wp2_with fail
    generalize w1.alloc (.cells #[.int .i64 x, .int .i64 y, .slice A1 l.tracks.length c1, .int .i64 l.gap, .slice A3 l.trains.length c3] 27) = wa at *
    generalize w1.heap.size = b3 at *
    refine (impl_ReadLine_any (HM.out _ HX.out) s).mono ?_
    rintro e w2 ⟨v2, rfl, T2, X2⟩
    rw [ht.out] at T2
    obtain ⟨A0, c0, A2, c2, vl, rfl, O2⟩ := T2.form
    have E2 : Ext w2 (w2.alloc (.cells #[.int .i64 x, .int .i64 y, .slice A0 l.tracks.length c0, .int .i64 l.gap, .slice A2 l.trains.length c2] 27)) := (Ext.refl w2).alloc _
    have H4 : Hid (BoxAt w2.heap.size #[.int .i64 x, .int .i64 y, .slice A0 l.tracks.length c0, .int .i64 l.gap, .slice A2 l.trains.length c2] 27 (w2.alloc (.cells #[.int .i64 x, .int .i64 y, .slice A0 l.tracks.length c0, .int .i64 l.gap, .slice A2 l.trains.length c2] 27))) := box_new _ _
    have HO := Lib.hid (O2.ext E2)
    have HT2 := Lib.hid (T2.is.ext E2)
    have HA := Lib.hid (X2.trans E2)
    have H3b := Lib.hid (H3.out.ext HA.out)
    have k4 := fun j => box_cell H4.out j
    have l4 := box_lt H4.out
    have k3 := fun j => box_cell H3b.out j
    have l3 := box_lt H3b.out
    clear T2 X2 E2 O2 
    go_wp2_with fail
    generalize w2.alloc (.cells #[.int .i64 x, .int .i64 y, .slice A0 l.tracks.length c0, .int .i64 l.gap, .slice A2 l.trains.length c2] 27) = wb at *
    generalize w2.heap.size = b4 at *
    refine (eqTold_same HT2.out (HV.out.ext HA.out) HF.out.room).mono ?_
    rintro e w3 ⟨rfl, E3⟩
    have H43 := Lib.hid (H4.out.ext E3)
    have H33 := Lib.hid (H3b.out.ext E3)
    have HO3 := Lib.hid (HO.out.ext E3)
    have HA3 := Lib.hid (HA.out.trans E3)
    clear k3 l3 k4 l4 E3 H3 H4 H3b HO HT2 HA
    have k4 := fun j => box_cell H43.out j
    have l4 := box_lt H43.out
    have k3 := fun j => box_cell H33.out j
    have l3 := box_lt H33.out
    go_wp2_with fail
    refine (markTold_own HO3.out HF.out x y 1 (by omega) (by omega)).mono ?_
    rintro e w4 ⟨rfl, C4, l', hM, hO4⟩
    rw [hK.out]
    have H44 : Hid (BoxAt b4 _ 27 w4) := C4.box H43.out (HO3.out.box_far H43.out (by decide) (by decide) (by decide))
    have H34 : Hid (BoxAt b3 _ 27 w4) := C4.box H33.out (HO3.out.box_far H33.out (by decide) (by decide) (by decide))
    have HA4 : Hid (Ext wa w4) := Below.trans HA3.out (C4.below HO3.out.low HA3.out.size)
    have HL4 : Hid (IsLine w4 l' (.agg #[.slice A0 l.tracks.length c0, .int .i64 l.gap, .slice A2 l.trains.length c2])) := by
      have := hO4.ownL.rd
      rw [hM.gap] at this
      exact this
    have HMk := Lib.hid hM
    clear k3 l3 k4 l4 C4 hM hO4 HO3 HA3 H43 H33
    have k4 := fun j => box_cell H44.out j
    have l4 := box_lt H44.out
    have k3 := fun j => box_cell H34.out j
    have l3 := box_lt H34.out
    go_wp2_with fail
    refine (heldTold_rd HL4.out HMk.out HF.out (by omega) (by omega) x y).mono ?_
    rintro e w5 ⟨rfl, E5⟩
    rw [hK.out]
    have H45 := Lib.hid (H44.out.ext E5)
    have H35 := Lib.hid (H34.out.ext E5)
    have HA5 := Lib.hid (HA4.out.trans E5)
    have HL5 := Lib.hid (HL4.out.ext E5)
    clear k3 l3 k4 l4 E5 H44 H34 HA4 HL4
    have k4 := fun j => box_cell H45.out j
    have l4 := box_lt H45.out
    have k3 := fun j => box_cell H35.out j
    have l3 := box_lt H35.out
    go_wp2_with fail
    refine (impl_ReadLine_any (HM.out _ (HX.out.trans HA5.out)) s).mono ?_
    rintro e w6 ⟨v3, rfl, T3, X3⟩
    rw [ht.out] at T3
    obtain ⟨A5, c5, A6, c6, vl3, rfl, O3⟩ := T3.form
    have E6 : Ext w5 (w6.alloc (.cells #[.int .i64 x, .int .i64 y, .slice A5 l.tracks.length c5, .int .i64 l.gap, .slice A6 l.trains.length c6] 27)) := X3.alloc _
    have H7 : Hid (BoxAt w6.heap.size #[.int .i64 x, .int .i64 y, .slice A5 l.tracks.length c5, .int .i64 l.gap, .slice A6 l.trains.length c6] 27 (w6.alloc (.cells #[.int .i64 x, .int .i64 y, .slice A5 l.tracks.length c5, .int .i64 l.gap, .slice A6 l.trains.length c6] 27))) := box_new _ _
    have HT3 := Lib.hid (T3.is.ext ((Ext.refl w6).alloc (.cells #[.int .i64 x, .int .i64 y, .slice A5 l.tracks.length c5, .int .i64 l.gap, .slice A6 l.trains.length c6] 27)))
    have H46 := Lib.hid (H45.out.ext E6)
    have H36 := Lib.hid (H35.out.ext E6)
    have HA6 := Lib.hid (HA5.out.trans E6)
    have HL6 := Lib.hid (HL5.out.ext E6)
    clear k3 l3 k4 l4 E6 H45 H35 HA5 HL5 T3 X3 O3
    have k4 := fun j => box_cell H46.out j
    have l4 := box_lt H46.out
    have k3 := fun j => box_cell H36.out j
    have l3 := box_lt H36.out
    have k7 := fun j => box_cell H7.out j
    have l7 := box_lt H7.out
    go_wp2_with fail
    generalize w6.alloc (.cells #[.int .i64 x, .int .i64 y, .slice A5 l.tracks.length c5, .int .i64 l.gap, .slice A6 l.trains.length c6] 27) = wc at *
    generalize w6.heap.size = b7 at *
    refine (eqTold_same HT3.out (HV.out.ext HA6.out) HF.out.room).mono ?_
    rintro e w7 ⟨rfl, E7⟩
    have H47 := Lib.hid (H46.out.ext E7)
    have HA7 := Lib.hid (HA6.out.trans E7)
    have HL7 := Lib.hid (HL6.out.ext E7)
    clear k3 l3 k4 l4 k7 l7 E7 H46 H36 H7 HA6 HL6
    have k4 := fun j => box_cell H47.out j
    have l4 := box_lt H47.out
    go_wp2_with fail
    refine (heldTold_rd HL7.out HMk.out HF.out (by omega) (by omega) x y).mono ?_
    rintro e w8 ⟨rfl, E8⟩
    rw [hK.out]
    have HA8 := Lib.hid (HX.out.trans (HA7.out.trans E8))
    clear k4 l4 E8
    go_wp2_with fail
    go_ret
    exact ⟨rfl, HA8.out⟩
end Go.Proofs.YthhkbfjolmgloaaDoor
