/- When a train is at its end: impl.arrives, spec.Arrives and impl.Arrives answer one plain function. Condition: line and plan hold at most 2^20 values. -/
import Derived.Test.YthhkbfjolmgloaaML2a
namespace Go.Proofs.Ythhkbfjolmgloaa
open Go.RowKit
set_option linter.unusedVariables false
set_option linter.unusedSimpArgs false
/-! Parts by number. -/
def Line.tr (l : Line) (i : Nat) : Train := l.trains.getD i default
def Line.leg (l : Line) (i k : Nat) : Leg := (l.tr i).legs.getD k default
def st (p : List (List Int)) (i k : Nat) : Int := (p.getD i []).getD k 0
/-- A plan has a line's shape, its numbers small. -/
structure Fits (l : Line) (p : List (List Int)) : Prop where
  rows : p.length = l.trains.length
  len : ∀ (i : Nat) (t : Train), l.trains[i]? = some t → ∀ r : List Int, p[i]? = some r → r.length = t.legs.length
  at_ : ∀ (i : Nat) (r : List Int), p[i]? = some r → ∀ (k : Nat) (x : Int), r[k]? = some x → 0 ≤ x ∧ x ≤ 1000000
theorem find_unit {α : Type} {c : Nat → α → Bool} {l : List α} {n : Nat} : (findI (fun i x => if c i x = true then (none : Option Unit) else some ()) n l).isNone = true ↔ ∀ (i : Nat) (x : α), l[i]? = some x → c (n + i) x = true := by
  rw [Option.isNone_iff_eq_none, findI_none]
  constructor
  · intro h i x hx
    have := h i x hx
    by_cases e : c (n + i) x = true
    · exact e
    · rw [if_neg e] at this; cases this
  · intro h i x hx
    rw [if_pos (h i x hx)]
theorem rowOk_iff {l : Line} {i : Nat} {r : List Int} : rowOk l i r = true ↔ r.length = (l.trains.getD i default).legs.length ∧ ∀ (k : Nat) (x : Int), r[k]? = some x → 0 ≤ x ∧ x ≤ 1000000 := by
  unfold rowOk
  rw [Bool.and_eq_true, beq_iff_eq, find_unit (c := fun _ x => inB x 0 1000000)]
  simp only [inB_true]
theorem shapeOk_iff {l : Line} {p : List (List Int)} : shapeOk l p = true ↔ Fits l p := by
  unfold shapeOk
  rw [Bool.and_eq_true, beq_iff_eq, find_unit (c := fun i r => rowOk l i r)]
  simp only [Nat.zero_add, rowOk_iff]
  constructor
  · rintro ⟨h1, h2⟩
    refine ⟨h1, fun i t ht r hr => ?_, fun i r hr k x hx => (h2 i r hr).2 k x hx⟩
    have := (h2 i r hr).1
    rwa [getD_some ht] at this
  · intro h
    refine ⟨h.rows, fun i r hr => ⟨?_, fun k x hx => h.at_ i r hr k x hx⟩⟩
    obtain ⟨t, ht⟩ := some_of_lt (l := l.trains) (i := i) (by rw [← h.rows]; exact lt_of_some hr)
    rw [getD_some ht]
    exact h.len i t ht r hr
/-- When a train is at its end. -/
def arrT (l : Line) (p : List (List Int)) (i : Nat) : Int := st p i ((p.getD i []).length - 1) + (l.leg i ((p.getD i []).length - 1)).run
def arriveA (l : Line) (p : List (List Int)) (i : Int) : Int := if right l && shapeOk l p && inB i 0 (l.trains.length - 1) then arrT l p i.toNat else -1
theorem Fits.len_le {l : Line} {p : List (List Int)} (O : Ok l) (F : Fits l p) {i : Nat} {r : List Int} (hr : p[i]? = some r) : 1 ≤ r.length ∧ r.length ≤ 10 := by
  obtain ⟨t, ht⟩ := some_of_lt (l := l.trains) (i := i) (by rw [← F.rows]; exact lt_of_some hr)
  rw [F.len i t ht r hr]
  exact ⟨(O.train i t ht).some_, TrOk.nlegs O ht⟩
set_option maxRecDepth 100000 in
set_option maxHeartbeats 1000000 in
theorem arrives_any {w : World} {l : Line} {p : List (List Int)} {u v : Value} (hl : IsLine w l u) (hp : IsPlan w p v) (O : Ok l) (F : Fits l p) {i : Nat} (hi : i < l.trains.length) :
    Calls Try.prog 107 #[u, v, .int .i64 i] w fun e w' => e = .returned (.int .i64 (arrT l p i)) ∧ Ext w w' := by
  obtain ⟨A0, c0, A2, c2, rfl, h0, h2⟩ := hl
  obtain ⟨A3, c3, rfl, h3⟩ := hp
  clear h0
  have hn5 := O.ntr
  have hip : i < p.length := by rw [F.rows]; exact hi
  obtain ⟨t, ht⟩ := hid_of_lt hi
  obtain ⟨r, hr⟩ := hid_of_lt hip
  obtain ⟨n1, n2⟩ := F.len_le O hr.out
  obtain ⟨n, hn⟩ : ∃ n, r.length = n + 1 := ⟨r.length - 1, by omega⟩
  have hLn := Lib.hid (F.len i t ht.out r hr.out)
  obtain ⟨x, hx⟩ := hid_of_lt (l := t.legs) (i := n) (by rw [← hLn.out, hn]; omega)
  obtain ⟨s, hs⟩ := hid_of_lt (l := r) (i := n) (by omega)
  have hA : Hid (arrT l p i = s + x.run) := by simp only [Hid, arrT, st, Line.leg, Line.tr, getD_some hr.out, getD_some ht.out, hn, Nat.add_sub_cancel, getD_some hx.out, getD_some hs.out]
  have hlr : n < t.legs.length := lt_of_some hx.out
  have hpl : p.length ≤ 5 := by rw [F.rows]; exact hn5
  obtain ⟨b, o, rfl, hb⟩ := h3.base hip
  obtain ⟨A6, c6, f0, hR6⟩ := h3.at_ hr.out
  obtain ⟨b', o', rfl, hb'⟩ := h2.base hi
  obtain ⟨e0, e1, e2, e3, A4, c4, e4, hR⟩ := h2.at_ ht.out
  obtain ⟨b6, o6, rfl, hb6⟩ := hR6.base (lt_of_some hs.out)
  have g0 := hR6.at_ hs.out
  obtain ⟨b7, o7, rfl, hb7⟩ := hR.base hlr
  obtain ⟨q0, q1, q2⟩ := hR.at_ hx.out
  obtain ⟨_, _, x1, x2, _, _⟩ := (O.train i t ht.out).leg n x hx.out
  obtain ⟨s1, s2⟩ := F.at_ i r hr.out n s hs.out
  have hl10 := TrOk.nlegs O ht.out
  rw [hn] at f0
  clear hn
  go_enter Try.func107, Try.ntmps107
  go_wp2_with fail
  go_quiet (fail)
  go_wp2_with fail
  go_ret
  exact ⟨ret_i64 hA.out.symm, (by repeat (first | (with_reducible assumption) | (with_reducible exact Ext.refl _) | apply Ext.alloc | apply Ext.drewN | apply Ext.drew))⟩

set_option maxRecDepth 100000 in
set_option maxHeartbeats 1000000 in
theorem spec_Arrives_any {w : World} {l : Line} {p : List (List Int)} {u v : Value} (hl : IsLine w l u) (hp : IsPlan w p v) (hs : l.size ≤ 1048576) (hpn : p.length ≤ 1048576) (hpl : ∀ (i : Nat) (t : List Int), p[i]? = some t → t.length ≤ 1048576) (i : Int) :
    Calls Try.prog 39 #[u, v, .int .i64 i] w fun e w' => e = .returned (.int .i64 (arriveA l p i)) ∧ Ext w w' := by
  have HL := Lib.hid (fun (W : World) (e : Ext w W) => hl.ext e)
  have HP := Lib.hid (fun (W : World) (e : Ext w W) => hp.ext e)
  obtain ⟨A0, c0, A2, c2, rfl, h0, h2⟩ := hl
  obtain ⟨A3, c3, rfl, h3⟩ := hp
  have hln : l.trains.length ≤ 1048576 := by unfold Line.size at hs; omega
  have hs0 := Lib.hid hs; clear hs h0
  cases h : right l with
  | false =>
    have hA : Hid (arriveA l p i = -1) := by simp [Hid, arriveA, h]
    go_enter Try.func39, Try.ntmps39
    go_wp2_with fail
    refine (l1ok_any (HL.out _ (by repeat (first | (with_reducible assumption) | (with_reducible exact Ext.refl _) | apply Ext.alloc | apply Ext.drewN | apply Ext.drew))) hs0.out).mono ?_
    rintro e w1 ⟨rfl, hE⟩
    rw [h]
    have hS := (Lp.start2 w _ _ _ _).trans hE; clear hE
    obtain ⟨k1, k2, k3, k4, k5, k6⟩ := hS.open2
    go_wp2_with fail
    go_ret
    exact ⟨ret_i64 hA.out.symm, hS.ext⟩
  | true => cases hh : shapeOk l p with
    | false =>
      have hA : Hid (arriveA l p i = -1) := by simp [Hid, arriveA, hh]
      go_enter Try.func39, Try.ntmps39
      go_wp2_with fail
      refine (l1ok_any (HL.out _ (by repeat (first | (with_reducible assumption) | (with_reducible exact Ext.refl _) | apply Ext.alloc | apply Ext.drewN | apply Ext.drew))) hs0.out).mono ?_
      rintro e w1 ⟨rfl, hE⟩
      rw [h]
      have hS := (Lp.start2 w _ _ _ _).trans hE; clear hE
      obtain ⟨k1, k2, k3, k4, k5, k6⟩ := hS.open2
      go_wp2_with fail
      refine (l2shape_any (HL.out _ hS.ext) (HP.out _ hS.ext) hpn hln hpl).mono ?_
      rintro e w1 ⟨rfl, hE⟩
      rw [hh]
      have hT := hS.trans hE; clear hS hE k1 k2 k3 k4 k5 k6
      have hS := hT; clear hT
      obtain ⟨k1, k2, k3, k4, k5, k6⟩ := hS.open2
      go_wp2_with fail
      go_ret
      exact ⟨ret_i64 hA.out.symm, hS.ext⟩
    | true => cases hi : inB i 0 (l.trains.length - 1) with
      | false =>
        have hA : Hid (arriveA l p i = -1) := by simp [Hid, arriveA, hi]
        go_enter Try.func39, Try.ntmps39
        go_wp2_with fail
        refine (l1ok_any (HL.out _ (by repeat (first | (with_reducible assumption) | (with_reducible exact Ext.refl _) | apply Ext.alloc | apply Ext.drewN | apply Ext.drew))) hs0.out).mono ?_
        rintro e w1 ⟨rfl, hE⟩
        rw [h]
        have hS := (Lp.start2 w _ _ _ _).trans hE; clear hE
        obtain ⟨k1, k2, k3, k4, k5, k6⟩ := hS.open2
        go_wp2_with fail
        refine (l2shape_any (HL.out _ hS.ext) (HP.out _ hS.ext) hpn hln hpl).mono ?_
        rintro e w1 ⟨rfl, hE⟩
        rw [hh]
        have hT := hS.trans hE; clear hS hE k1 k2 k3 k4 k5 k6
        have hS := hT; clear hT
        obtain ⟨k1, k2, k3, k4, k5, k6⟩ := hS.open2
        go_wp2_with fail
        refine (l1in_any _ _ _ _).mono ?_
        rintro e w1 ⟨rfl, rfl⟩
        rw [hi]
        go_wp2_with fail
        go_ret
        exact ⟨ret_i64 hA.out.symm, hS.ext⟩
      | true =>
        have O := right_iff.1 h
        have F := shapeOk_iff.1 hh
        obtain ⟨i0, i1⟩ := inB_true.1 hi
        obtain ⟨j, rfl⟩ := Int.eq_ofNat_of_zero_le i0
        have hj : j < l.trains.length := by omega
        have hA : Hid (arriveA l p j = arrT l p j) := by simp only [Hid, arriveA, h, hh, hi, Bool.and_self, if_true, Int.toNat_natCast]
        have hn5 := O.ntr
        have hip : j < p.length := by rw [F.rows]; exact hj
        obtain ⟨t, ht⟩ := hid_of_lt hj
        obtain ⟨r, hr⟩ := hid_of_lt hip
        obtain ⟨n1, n2⟩ := F.len_le O hr.out
        obtain ⟨n, hn⟩ : ∃ n, r.length = n + 1 := ⟨r.length - 1, by omega⟩
        have hLn := Lib.hid (F.len j t ht.out r hr.out)
        obtain ⟨x, hx⟩ := hid_of_lt (l := t.legs) (i := n) (by rw [← hLn.out, hn]; omega)
        obtain ⟨s, hs⟩ := hid_of_lt (l := r) (i := n) (by omega)
        have hA2 : Hid (arriveA l p j = s + x.run) := by rw [Hid, hA.out]; simp only [arrT, st, Line.leg, Line.tr, getD_some hr.out, getD_some ht.out, hn, Nat.add_sub_cancel, getD_some hx.out, getD_some hs.out]
        have hlr : n < t.legs.length := lt_of_some hx.out
        obtain ⟨b, o, rfl, hb⟩ := h3.base hip
        obtain ⟨A6, c6, f0, hR6⟩ := h3.at_ hr.out
        obtain ⟨b', o', rfl, hb'⟩ := h2.base hj
        obtain ⟨e0, e1, e2, e3, A4, c4, e4, hR⟩ := h2.at_ ht.out
        obtain ⟨b6, o6, rfl, hb6⟩ := hR6.base (lt_of_some hs.out)
        have g0 := hR6.at_ hs.out
        obtain ⟨b7, o7, rfl, hb7⟩ := hR.base hlr
        obtain ⟨q0, q1, q2⟩ := hR.at_ hx.out
        obtain ⟨_, _, x1, x2, _, _⟩ := (O.train j t ht.out).leg n x hx.out
        obtain ⟨s1, s2⟩ := F.at_ j r hr.out n s hs.out
        have hl10 := TrOk.nlegs O ht.out
        rw [hn] at f0
        clear hn
        go_enter Try.func39, Try.ntmps39
        go_wp2_with fail
        refine (l1ok_any (HL.out _ (by repeat (first | (with_reducible assumption) | (with_reducible exact Ext.refl _) | apply Ext.alloc | apply Ext.drewN | apply Ext.drew))) hs0.out).mono ?_
        rintro e w1 ⟨rfl, hE⟩
        rw [h]
        have hS := (Lp.start2 w _ _ _ _).trans hE; clear hE
        obtain ⟨k1, k2, k3, k4, k5, k6⟩ := hS.open2
        go_wp2_with fail
        refine (l2shape_any (HL.out _ hS.ext) (HP.out _ hS.ext) hpn hln hpl).mono ?_
        rintro e w1 ⟨rfl, hE⟩
        rw [hh]
        have hT := hS.trans hE; clear hS hE k1 k2 k3 k4 k5 k6
        have hS := hT; clear hT
        obtain ⟨k1, k2, k3, k4, k5, k6⟩ := hS.open2
        go_wp2_with fail
        refine (l1in_any _ _ _ _).mono ?_
        rintro e w1 ⟨rfl, rfl⟩
        rw [hi]
        go_wp2_with fail
        go_quiet (fail)
        go_wp2_with fail
        go_ret
        exact ⟨ret_i64 hA2.out.symm, by repeat (first | with_reducible exact hS.ext | apply Ext.drewN | apply Ext.drew)⟩

set_option maxRecDepth 100000 in
set_option maxHeartbeats 1000000 in
theorem impl_Arrives_any {w : World} {l : Line} {p : List (List Int)} {u v : Value} (hl : IsLine w l u) (hp : IsPlan w p v) (hs : l.size ≤ 1048576) (hpn : p.length ≤ 1048576) (hpl : ∀ (i : Nat) (t : List Int), p[i]? = some t → t.length ≤ 1048576) (i : Int) :
    Calls Try.prog 41 #[u, v, .int .i64 i] w fun e w' => e = .returned (.int .i64 (arriveA l p i)) ∧ Ext w w' := by
  have HL := Lib.hid (fun (W : World) (e : Ext w W) => hl.ext e)
  have HP := Lib.hid (fun (W : World) (e : Ext w W) => hp.ext e)
  obtain ⟨A0, c0, A2, c2, rfl, h0, h2⟩ := hl
  obtain ⟨A3, c3, rfl, h3⟩ := hp
  have hln : l.trains.length ≤ 1048576 := by unfold Line.size at hs; omega
  have hs0 := Lib.hid hs; clear hs h0
  cases h : (right l && shapeOk l p) with
  | false =>
    have hA : Hid (arriveA l p i = -1) := by simp only [Hid, arriveA, h, Bool.false_and]; rfl
    go_enter Try.func41, Try.ntmps41
    go_wp2_with fail
    refine (shaped_any (HL.out _ (by repeat (first | (with_reducible assumption) | (with_reducible exact Ext.refl _) | apply Ext.alloc | apply Ext.drewN | apply Ext.drew))) (HP.out _ (by repeat (first | (with_reducible assumption) | (with_reducible exact Ext.refl _) | apply Ext.alloc | apply Ext.drewN | apply Ext.drew))) hs0.out hpn hpl).mono ?_
    rintro e w1 ⟨rfl, hE⟩
    rw [h]
    have hS := (Lp.start2 w _ _ _ _).trans hE; clear hE
    obtain ⟨k1, k2, k3, k4, k5, k6⟩ := hS.open2
    go_wp2_with fail
    go_ret
    exact ⟨ret_i64 hA.out.symm, hS.ext⟩
  | true => cases hi : inB i 0 (l.trains.length - 1) with
    | false =>
      have hA : Hid (arriveA l p i = -1) := by simp [Hid, arriveA, hi]
      go_enter Try.func41, Try.ntmps41
      go_wp2_with fail
      refine (shaped_any (HL.out _ (by repeat (first | (with_reducible assumption) | (with_reducible exact Ext.refl _) | apply Ext.alloc | apply Ext.drewN | apply Ext.drew))) (HP.out _ (by repeat (first | (with_reducible assumption) | (with_reducible exact Ext.refl _) | apply Ext.alloc | apply Ext.drewN | apply Ext.drew))) hs0.out hpn hpl).mono ?_
      rintro e w1 ⟨rfl, hE⟩
      rw [h]
      have hS := (Lp.start2 w _ _ _ _).trans hE; clear hE
      obtain ⟨k1, k2, k3, k4, k5, k6⟩ := hS.open2
      go_wp2_with fail
      refine (in_any _ _ _ _).mono ?_
      rintro e w1 ⟨rfl, rfl⟩
      rw [hi]
      go_wp2_with fail
      go_ret
      exact ⟨ret_i64 hA.out.symm, hS.ext⟩
    | true =>
      have hO : right l = true ∧ shapeOk l p = true := by simpa using h
      have O := right_iff.1 hO.1
      have F := shapeOk_iff.1 hO.2
      clear hO
      obtain ⟨i0, i1⟩ := inB_true.1 hi
      obtain ⟨j, rfl⟩ := Int.eq_ofNat_of_zero_le i0
      have hj : j < l.trains.length := by omega
      have hA : Hid (arriveA l p j = arrT l p j) := by simp only [Hid, arriveA, h, hi, Bool.and_self, if_true, Int.toNat_natCast]
      go_enter Try.func41, Try.ntmps41
      go_wp2_with fail
      refine (shaped_any (HL.out _ (by repeat (first | (with_reducible assumption) | (with_reducible exact Ext.refl _) | apply Ext.alloc | apply Ext.drewN | apply Ext.drew))) (HP.out _ (by repeat (first | (with_reducible assumption) | (with_reducible exact Ext.refl _) | apply Ext.alloc | apply Ext.drewN | apply Ext.drew))) hs0.out hpn hpl).mono ?_
      rintro e w1 ⟨rfl, hE⟩
      rw [h]
      have hS := (Lp.start2 w _ _ _ _).trans hE; clear hE
      obtain ⟨k1, k2, k3, k4, k5, k6⟩ := hS.open2
      go_wp2_with fail
      refine (in_any _ _ _ _).mono ?_
      rintro e w1 ⟨rfl, rfl⟩
      rw [hi]
      go_wp2_with fail
      refine (arrives_any (HL.out _ hS.ext) (HP.out _ hS.ext) O F hj).mono ?_
      rintro e w2 ⟨rfl, hE⟩
      go_wp2_with fail
      go_ret
      exact ⟨ret_i64 hA.out.symm, hS.ext.trans hE⟩
end Go.Proofs.Ythhkbfjolmgloaa
