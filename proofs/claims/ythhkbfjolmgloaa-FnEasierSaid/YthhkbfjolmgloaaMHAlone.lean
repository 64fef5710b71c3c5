/- When a train would be at its end if it were alone, and what all cost at least: spec.l1alone, l1late, Alone, Least and impl.alone, late, Alone, Least answer plain functions. Condition: the line holds at most 2^20 values (the inner ones: it is right). -/
import Derived.Test.YthhkbfjolmgloaaML2a
import Derived.Deep.RegionWith
namespace Go.Proofs.Ythhkbfjolmgloaa
open Go.RowKit
set_option linter.unusedVariables false
set_option linter.unusedSimpArgs false

set_option maxRecDepth 100000 in
set_option maxHeartbeats 1000000 in
theorem l1alone_any {w : World} {n : Int} {t : Train} {v : Value} (ht : IsTrain w t v) (hT : TrOk n t) (hn : t.legs.length ≤ 10) :
    Calls Try.prog 102 #[v] w fun e w' => e = .returned (.int .i64 (aloneT t)) ∧ Ext w w' := by
  obtain ⟨A4, c4, rfl, hR⟩ := ht
  have hr0 := hT.ready0; have hr1 := hT.ready1
  go_enter Try.func102, Try.ntmps102
  go_wp2
  go_loopw [3, 11] (fun a j wr => ∃ (jj : Nat) (q : Int), jj ≤ t.legs.length ∧ j = .int .i64 jj ∧ a = .int .i64 q ∧ 0 ≤ q ∧ q ≤ 100000 + 20000 * jj ∧ Hid (q + legSum (t.legs.drop jj) = aloneT t) ∧ Ext w wr) (fun _ j _ => t.legs.length - (intOf j).toNat)
  case atStart => exact ⟨0, t.ready, Nat.zero_le _, rfl, rfl, hr0, by omega, by simp [Hid, aloneT], (by repeat (first | (with_reducible assumption) | (with_reducible exact Ext.refl _) | apply Ext.alloc | apply Ext.drewN | apply Ext.drew))⟩
  case round =>
    obtain ⟨jj, q, hjj, rfl, rfl, hq0, hq1, HS, hE0⟩ := hrel
    obtain ⟨hcl, hup⟩ := (Lp.of_ext hE0).open0
    by_cases hlt : jj < t.legs.length
    · obtain ⟨x, hx⟩ := hid_of_lt hlt
      obtain ⟨b, o, rfl, hb⟩ := hR.base hlt
      obtain ⟨f0, f1, f2⟩ := hR.at_ hx.out
      obtain ⟨_, _, b1, b2, b3, b4⟩ := hT.leg jj x hx.out
      have HN := Lib.hid (legSum_at hx.out)
      go_wp2
      exact ⟨⟨jj + 1, q + (x.stay + x.run), by omega, by go_num, rfl, by omega, by omega, by rw [← HS.out, HN.out]; unfold Hid; omega, (by repeat (first | (with_reducible assumption) | (with_reducible exact Ext.refl _) | apply Ext.alloc | apply Ext.drewN | apply Ext.drew))⟩, (by simp [intOf]; omega)⟩
    · have he : legSum (t.legs.drop jj) = 0 := legSum_end (by omega)
      have HE := Lib.hid he; clear he
      go_wp2
      go_ret
      exact ⟨ret_i64 (by rw [← HS.out, HE.out]; simp), hE0⟩

set_option maxRecDepth 100000 in
set_option maxHeartbeats 1000000 in
theorem alone_any {w : World} {n : Int} {t : Train} {v : Value} (ht : IsTrain w t v) (hT : TrOk n t) (hn : t.legs.length ≤ 10) :
    Calls Try.prog 101 #[v] w fun e w' => e = .returned (.int .i64 (aloneT t)) ∧ Ext w w' := by
  obtain ⟨A4, c4, rfl, hR⟩ := ht
  have hr0 := hT.ready0; have hr1 := hT.ready1
  go_enter Try.func101, Try.ntmps101
  go_wp2
  go_loopw [3, 11] (fun a j wr => ∃ (jj : Nat) (q : Int), jj ≤ t.legs.length ∧ j = .int .i64 jj ∧ a = .int .i64 q ∧ 0 ≤ q ∧ q ≤ 100000 + 20000 * jj ∧ Hid (q + legSum (t.legs.drop jj) = aloneT t) ∧ Ext w wr) (fun _ j _ => t.legs.length - (intOf j).toNat)
  case atStart => exact ⟨0, t.ready, Nat.zero_le _, rfl, rfl, hr0, by omega, by simp [Hid, aloneT], (by repeat (first | (with_reducible assumption) | (with_reducible exact Ext.refl _) | apply Ext.alloc | apply Ext.drewN | apply Ext.drew))⟩
  case round =>
    obtain ⟨jj, q, hjj, rfl, rfl, hq0, hq1, HS, hE0⟩ := hrel
    obtain ⟨hcl, hup⟩ := (Lp.of_ext hE0).open0
    by_cases hlt : jj < t.legs.length
    · obtain ⟨x, hx⟩ := hid_of_lt hlt
      obtain ⟨b, o, rfl, hb⟩ := hR.base hlt
      obtain ⟨f0, f1, f2⟩ := hR.at_ hx.out
      obtain ⟨_, _, b1, b2, b3, b4⟩ := hT.leg jj x hx.out
      have HN := Lib.hid (legSum_at hx.out)
      go_wp2
      exact ⟨⟨jj + 1, q + (x.stay + x.run), by omega, by go_num, rfl, by omega, by omega, by rw [← HS.out, HN.out]; unfold Hid; omega, (by repeat (first | (with_reducible assumption) | (with_reducible exact Ext.refl _) | apply Ext.alloc | apply Ext.drewN | apply Ext.drew))⟩, (by simp [intOf]; omega)⟩
    · have he : legSum (t.legs.drop jj) = 0 := legSum_end (by omega)
      have HE := Lib.hid he; clear he
      go_wp2
      go_ret
      exact ⟨ret_i64 (by rw [← HS.out, HE.out]; simp), hE0⟩

set_option maxRecDepth 100000 in
set_option maxHeartbeats 1000000 in
theorem l1late_any {w : World} {n : Int} {t : Train} {v : Value} (ht : IsTrain w t v) (hT : TrOk n t) (e : Int) (he0 : -1000000 ≤ e) (he1 : e ≤ 2000000) :
    Calls Try.prog 103 #[v, .int .i64 e] w fun e' w' => e' = .returned (.int .i64 (lateT t e)) ∧ Ext w w' := by
  obtain ⟨A4, c4, rfl, hR⟩ := ht
  have hd0 := hT.due0; have hd1 := hT.due1; have hw0 := hT.weight0; have hw1 := hT.weight1
  have hb := lateT_bd hT he1
  clear hR
  by_cases h : e ≤ t.due
  · have hl : lateT t e = 0 := by unfold lateT; rw [show max 0 (e - t.due) = 0 by omega]; simp
    have HL := Lib.hid hl; clear hl hb
    have hm : max 0 (e - t.due) = 0 := by omega
    have hle : e - t.due ≤ 0 := by omega
    go_enter Try.func103, Try.ntmps103
    go_wp2
    go_ret
    exact ⟨ret_i64 (by rw [HL.out]; first | done | simp), (by repeat (first | (with_reducible assumption) | (with_reducible exact Ext.refl _) | apply Ext.alloc | apply Ext.drewN | apply Ext.drew))⟩
  · have hl : lateT t e = t.weight * (e - t.due) := by unfold lateT; rw [show max 0 (e - t.due) = e - t.due by omega]
    have hb' : 0 ≤ t.weight * (e - t.due) ∧ t.weight * (e - t.due) ≤ 200000000 := by rw [← hl]; exact hb
    have HL := Lib.hid hl; clear hl hb
    obtain ⟨hb1, hb2⟩ := hb'
    have hm : max 0 (e - t.due) = e - t.due := by omega
    have hle : 0 ≤ e - t.due := by omega
    go_enter Try.func103, Try.ntmps103
    go_wp2
    go_ret
    exact ⟨ret_i64 (by rw [HL.out]), (by repeat (first | (with_reducible assumption) | (with_reducible exact Ext.refl _) | apply Ext.alloc | apply Ext.drewN | apply Ext.drew))⟩

set_option maxRecDepth 100000 in
set_option maxHeartbeats 1000000 in
theorem late_any {w : World} {n : Int} {t : Train} {v : Value} (ht : IsTrain w t v) (hT : TrOk n t) (e : Int) (he0 : -1000000 ≤ e) (he1 : e ≤ 2000000) :
    Calls Try.prog 88 #[v, .int .i64 e] w fun e' w' => e' = .returned (.int .i64 (lateT t e)) ∧ Ext w w' := by
  obtain ⟨A4, c4, rfl, hR⟩ := ht
  have hd0 := hT.due0; have hd1 := hT.due1; have hw0 := hT.weight0; have hw1 := hT.weight1
  have hb := lateT_bd hT he1
  clear hR
  by_cases h : e ≤ t.due
  · have hl : lateT t e = 0 := by unfold lateT; rw [show max 0 (e - t.due) = 0 by omega]; simp
    have HL := Lib.hid hl; clear hl hb
    have hm : max 0 (e - t.due) = 0 := by omega
    have hle : e - t.due ≤ 0 := by omega
    go_enter Try.func88, Try.ntmps88
    go_wp2
    go_ret
    exact ⟨ret_i64 (by rw [HL.out]; first | done | (simp; omega)), (by repeat (first | (with_reducible assumption) | (with_reducible exact Ext.refl _) | apply Ext.alloc | apply Ext.drewN | apply Ext.drew))⟩
  · have hl : lateT t e = t.weight * (e - t.due) := by unfold lateT; rw [show max 0 (e - t.due) = e - t.due by omega]
    have hb' : 0 ≤ t.weight * (e - t.due) ∧ t.weight * (e - t.due) ≤ 200000000 := by rw [← hl]; exact hb
    have HL := Lib.hid hl; clear hl hb
    obtain ⟨hb1, hb2⟩ := hb'
    have hm : max 0 (e - t.due) = e - t.due := by omega
    have hle : 0 ≤ e - t.due := by omega
    go_enter Try.func88, Try.ntmps88
    go_wp2
    go_ret
    exact ⟨ret_i64 (by rw [HL.out]), (by repeat (first | (with_reducible assumption) | (with_reducible exact Ext.refl _) | apply Ext.alloc | apply Ext.drewN | apply Ext.drew))⟩

/-- Alone's and Least's answers. -/
def aloneA (l : Line) (i : Int) : Int := if right l && inB i 0 (l.trains.length - 1) then aloneT (l.trains.getD i.toNat default) else -1
def leastA (l : Line) : Int := if right l then least l.trains else -1

set_option maxRecDepth 100000 in
set_option maxHeartbeats 1000000 in
theorem spec_Alone_any {w : World} {l : Line} {u : Value} (hl : IsLine w l u) (hs : l.size ≤ 1048576) (i : Int) :
    Calls Try.prog 35 #[u, .int .i64 i] w fun e w' => e = .returned (.int .i64 (aloneA l i)) ∧ Ext w w' := by
  have HL := Lib.hid (fun (W : World) (e : Ext w W) => hl.ext e)
  obtain ⟨A0, c0, A2, c2, rfl, h0, h2⟩ := hl
  have hs2 : l.trains.length ≤ 1048576 := by unfold Line.size at hs; omega
  have hs0 := Lib.hid hs; clear hs
  cases h : right l with
  | false =>
    have hA : Hid (aloneA l i = -1) := by simp [Hid, aloneA, h]
    go_enter Try.func35, Try.ntmps35
    go_wp2_with fail
    refine (l1ok_any (HL.out _ (by repeat (first | (with_reducible assumption) | (with_reducible exact Ext.refl _) | apply Ext.alloc | apply Ext.drewN | apply Ext.drew))) hs0.out).mono ?_
    rintro e w1 ⟨rfl, hE⟩
    rw [h]
    go_wp2_with fail
    go_ret
    exact ⟨ret_i64 hA.out.symm, Ext.trans (by repeat (first | (with_reducible assumption) | (with_reducible exact Ext.refl _) | apply Ext.alloc | apply Ext.drewN | apply Ext.drew)) hE⟩
  | true =>
    have O := right_iff.1 h
    cases hi : inB i 0 (l.trains.length - 1) with
    | false =>
      have hA : Hid (aloneA l i = -1) := by simp [Hid, aloneA, hi]
      go_enter Try.func35, Try.ntmps35
      go_wp2_with fail
      refine (l1ok_any (HL.out _ (by repeat (first | (with_reducible assumption) | (with_reducible exact Ext.refl _) | apply Ext.alloc | apply Ext.drewN | apply Ext.drew))) hs0.out).mono ?_
      rintro e w1 ⟨rfl, hE⟩
      rw [h]
      have hS := (Lp.start1 w _ _).trans hE
      obtain ⟨k1, k2, k3, k4⟩ := hS.open1
      go_wp2_with fail
      refine (l1in_any _ _ _ _).mono ?_
      rintro e w2 ⟨rfl, rfl⟩
      rw [hi]
      go_wp2_with fail
      go_ret
      exact ⟨ret_i64 hA.out.symm, hS.ext⟩
    | true =>
      obtain ⟨i0, i1⟩ := inB_true.1 hi
      obtain ⟨j, rfl⟩ := Int.eq_ofNat_of_zero_le i0
      have hj : j < l.trains.length := by omega
      obtain ⟨t, ht⟩ := hid_of_lt hj
      have hA : Hid (aloneA l j = aloneT t) := by simp only [Hid, aloneA, h, hi, Bool.and_self, if_true, Int.toNat_natCast, getD_some ht.out]
      obtain ⟨b, o, rfl, hb⟩ := h2.base hj
      obtain ⟨e0, e1, e2, e3, A4, c4, e4, hR⟩ := h2.at_ ht.out
      have HI := Lib.hid (fun W (e : Ext w W) => isTrain_mk (c4 := c4) (hR.ext e))
      go_enter Try.func35, Try.ntmps35
      go_wp2_with fail
      refine (l1ok_any (HL.out _ (by repeat (first | (with_reducible assumption) | (with_reducible exact Ext.refl _) | apply Ext.alloc | apply Ext.drewN | apply Ext.drew))) hs0.out).mono ?_
      rintro e w1 ⟨rfl, hE⟩
      rw [h]
      have hS := (Lp.start1 w _ _).trans hE
      obtain ⟨k1, k2, k3, k4⟩ := hS.open1
      go_wp2_with fail
      refine (l1in_any _ _ _ _).mono ?_
      rintro e w2 ⟨rfl, rfl⟩
      rw [hi]
      go_wp2_with fail
      refine (l1alone_any (HI.out _ hS.ext) (O.train _ _ ht.out) (TrOk.nlegs O ht.out)).mono ?_
      rintro e w2 ⟨rfl, hE2⟩
      go_wp2_with fail
      go_ret
      exact ⟨ret_i64 hA.out.symm, hS.ext.trans hE2⟩

set_option maxRecDepth 100000 in
set_option maxHeartbeats 1000000 in
theorem impl_Alone_any {w : World} {l : Line} {u : Value} (hl : IsLine w l u) (hs : l.size ≤ 1048576) (i : Int) :
    Calls Try.prog 36 #[u, .int .i64 i] w fun e w' => e = .returned (.int .i64 (aloneA l i)) ∧ Ext w w' := by
  have HL := Lib.hid (fun (W : World) (e : Ext w W) => hl.ext e)
  obtain ⟨A0, c0, A2, c2, rfl, h0, h2⟩ := hl
  have hs2 : l.trains.length ≤ 1048576 := by unfold Line.size at hs; omega
  have hs0 := Lib.hid hs; clear hs
  cases h : right l with
  | false =>
    have hA : Hid (aloneA l i = -1) := by simp [Hid, aloneA, h]
    go_enter Try.func36, Try.ntmps36
    go_wp2_with fail
    refine (right_any (HL.out _ (by repeat (first | (with_reducible assumption) | (with_reducible exact Ext.refl _) | apply Ext.alloc | apply Ext.drewN | apply Ext.drew))) hs0.out).mono ?_
    rintro e w1 ⟨rfl, hE⟩
    rw [h]
    go_wp2_with fail
    go_ret
    exact ⟨ret_i64 hA.out.symm, Ext.trans (by repeat (first | (with_reducible assumption) | (with_reducible exact Ext.refl _) | apply Ext.alloc | apply Ext.drewN | apply Ext.drew)) hE⟩
  | true =>
    have O := right_iff.1 h
    cases hi : inB i 0 (l.trains.length - 1) with
    | false =>
      have hA : Hid (aloneA l i = -1) := by simp [Hid, aloneA, hi]
      go_enter Try.func36, Try.ntmps36
      go_wp2_with fail
      refine (right_any (HL.out _ (by repeat (first | (with_reducible assumption) | (with_reducible exact Ext.refl _) | apply Ext.alloc | apply Ext.drewN | apply Ext.drew))) hs0.out).mono ?_
      rintro e w1 ⟨rfl, hE⟩
      rw [h]
      have hS := (Lp.start1 w _ _).trans hE
      obtain ⟨k1, k2, k3, k4⟩ := hS.open1
      go_wp2_with fail
      refine (in_any _ _ _ _).mono ?_
      rintro e w2 ⟨rfl, rfl⟩
      rw [hi]
      go_wp2_with fail
      go_ret
      exact ⟨ret_i64 hA.out.symm, hS.ext⟩
    | true =>
      obtain ⟨i0, i1⟩ := inB_true.1 hi
      obtain ⟨j, rfl⟩ := Int.eq_ofNat_of_zero_le i0
      have hj : j < l.trains.length := by omega
      obtain ⟨t, ht⟩ := hid_of_lt hj
      have hA : Hid (aloneA l j = aloneT t) := by simp only [Hid, aloneA, h, hi, Bool.and_self, if_true, Int.toNat_natCast, getD_some ht.out]
      obtain ⟨b, o, rfl, hb⟩ := h2.base hj
      obtain ⟨e0, e1, e2, e3, A4, c4, e4, hR⟩ := h2.at_ ht.out
      have HI := Lib.hid (fun W (e : Ext w W) => isTrain_mk (c4 := c4) (hR.ext e))
      go_enter Try.func36, Try.ntmps36
      go_wp2_with fail
      refine (right_any (HL.out _ (by repeat (first | (with_reducible assumption) | (with_reducible exact Ext.refl _) | apply Ext.alloc | apply Ext.drewN | apply Ext.drew))) hs0.out).mono ?_
      rintro e w1 ⟨rfl, hE⟩
      rw [h]
      have hS := (Lp.start1 w _ _).trans hE
      obtain ⟨k1, k2, k3, k4⟩ := hS.open1
      go_wp2_with fail
      refine (in_any _ _ _ _).mono ?_
      rintro e w2 ⟨rfl, rfl⟩
      rw [hi]
      go_wp2_with fail
      refine (alone_any (HI.out _ hS.ext) (O.train _ _ ht.out) (TrOk.nlegs O ht.out)).mono ?_
      rintro e w2 ⟨rfl, hE2⟩
      go_wp2_with fail
      go_ret
      exact ⟨ret_i64 hA.out.symm, hS.ext.trans hE2⟩

set_option maxRecDepth 100000 in
set_option maxHeartbeats 1000000 in
theorem spec_Least_any {w : World} {l : Line} {u : Value} (hl : IsLine w l u) (hs : l.size ≤ 1048576) :
    Calls Try.prog 37 #[u] w fun e w' => e = .returned (.int .i64 (leastA l)) ∧ Ext w w' := by
  have HL := Lib.hid (fun (W : World) (e : Ext w W) => hl.ext e)
  obtain ⟨A0, c0, A2, c2, rfl, h0, h2⟩ := hl
  have hs2 : l.trains.length ≤ 1048576 := by unfold Line.size at hs; omega
  have hs0 := Lib.hid hs; clear hs
  cases h : right l with
  | false =>
    have hA : Hid (leastA l = -1) := by simp [Hid, leastA, h]
    go_enter Try.func37, Try.ntmps37
    go_wp2_with fail
    refine (l1ok_any (HL.out _ (by repeat (first | (with_reducible assumption) | (with_reducible exact Ext.refl _) | apply Ext.alloc | apply Ext.drewN | apply Ext.drew))) hs0.out).mono ?_
    rintro e w1 ⟨rfl, hE⟩
    rw [h]
    go_wp2_with fail
    go_ret
    exact ⟨ret_i64 hA.out.symm, Ext.trans (by repeat (first | (with_reducible assumption) | (with_reducible exact Ext.refl _) | apply Ext.alloc | apply Ext.drewN | apply Ext.drew)) hE⟩
  | true =>
    have O := right_iff.1 h
    have hA : Hid (leastA l = least l.trains) := by simp [Hid, leastA, h]
    have hn5 := O.ntr
    go_enter Try.func37, Try.ntmps37
    go_wp2_with fail
    refine (l1ok_any (HL.out _ (by repeat (first | (with_reducible assumption) | (with_reducible exact Ext.refl _) | apply Ext.alloc | apply Ext.drewN | apply Ext.drew))) hs0.out).mono ?_
    rintro e w1 ⟨rfl, hE⟩
    rw [h]
    have hS := (Lp.start1 w _ _).trans hE
    obtain ⟨k1, k2, k3, k4⟩ := hS.open1
    go_wp2_with fail
    go_loopw [3, 12] (fun a j wr => ∃ (jj : Nat) (q : Int), jj ≤ l.trains.length ∧ j = .int .i64 jj ∧ a = .int .i64 q ∧ 0 ≤ q ∧ q ≤ 200000000 * jj ∧ Hid (q + sumI (fun _ t => lateT t (aloneT t)) jj (l.trains.drop jj) = least l.trains) ∧ Ext w wr) (fun _ j _ => l.trains.length - (intOf j).toNat)
    case atStart => exact ⟨0, 0, Nat.zero_le _, rfl, rfl, by omega, by omega, by simp [Hid, least], hS.ext⟩
    case round =>
      clear hS k1 k2 k3 k4 hE
      obtain ⟨jj, q, hjj, rfl, rfl, hq0, hq1, HS, hE0⟩ := hrel
      obtain ⟨hcl, hup⟩ := (Lp.of_ext hE0).open0
      by_cases hlt : jj < l.trains.length
      · obtain ⟨t, ht⟩ := hid_of_lt hlt
        obtain ⟨b, o, rfl, hb⟩ := h2.base hlt
        obtain ⟨e0, e1, e2, e3, A4, c4, e4, hR⟩ := h2.at_ ht.out
        have HI := Lib.hid (fun W (e : Ext w W) => isTrain_mk (c4 := c4) (hR.ext e))
        have HN := Lib.hid (sumI_at (fun _ t => lateT t (aloneT t)) ht.out)
        have hT := O.train _ _ ht.out
        have hk := TrOk.nlegs O ht.out
        obtain ⟨ha0, ha1⟩ := aloneT_bd O ht.out
        obtain ⟨hb0, hb1⟩ := lateT_bd hT (e := aloneT t) (by omega)
        go_wp2_with fail
        go_region_with (first  | (go_at_call 102; refine (l1alone_any (HI.out _ (by repeat (first | (with_reducible assumption) | (with_reducible exact Ext.refl _) | apply Ext.alloc | apply Ext.drewN | apply Ext.drew))) hT hk).mono ?_; rintro e w3 ⟨rfl, hE3⟩; have hL := Lp.trans ((Lp.of_ext hE0).newAt _ _ rfl |>.drew) hE3; obtain ⟨m1, m2, m3, m4⟩ := hL.open1)  | (go_at_call 103; refine (l1late_any (HI.out _ hL.ext) hT _ (by omega) (by omega)).mono ?_; rintro e w4 ⟨rfl, hE4⟩))
        all_goals
          go_wp2_with fail
          exact ⟨⟨jj + 1, q + lateT t (aloneT t), by omega, by go_num, rfl, by omega, by omega, by rw [← HS.out, HN.out]; unfold Hid; omega, hL.ext.trans hE4⟩, (by simp [intOf]; omega)⟩
      · have he := sumI_end (fun _ t => lateT t (aloneT t)) (l := l.trains) (i := jj) (by omega)
        have HE := Lib.hid he; clear he
        go_wp2_with fail
        go_ret
        exact ⟨ret_i64 (by rw [hA.out, ← HS.out, HE.out]; simp), hE0⟩

set_option maxRecDepth 100000 in
set_option maxHeartbeats 1000000 in
theorem impl_Least_any {w : World} {l : Line} {u : Value} (hl : IsLine w l u) (hs : l.size ≤ 1048576) :
    Calls Try.prog 34 #[u] w fun e w' => e = .returned (.int .i64 (leastA l)) ∧ Ext w w' := by
  have HL := Lib.hid (fun (W : World) (e : Ext w W) => hl.ext e)
  obtain ⟨A0, c0, A2, c2, rfl, h0, h2⟩ := hl
  have hs2 : l.trains.length ≤ 1048576 := by unfold Line.size at hs; omega
  have hs0 := Lib.hid hs; clear hs
  cases h : right l with
  | false =>
    have hA : Hid (leastA l = -1) := by simp [Hid, leastA, h]
    go_enter Try.func34, Try.ntmps34
    go_wp2_with fail
    refine (right_any (HL.out _ (by repeat (first | (with_reducible assumption) | (with_reducible exact Ext.refl _) | apply Ext.alloc | apply Ext.drewN | apply Ext.drew))) hs0.out).mono ?_
    rintro e w1 ⟨rfl, hE⟩
    rw [h]
    go_wp2_with fail
    go_ret
    exact ⟨ret_i64 hA.out.symm, Ext.trans (by repeat (first | (with_reducible assumption) | (with_reducible exact Ext.refl _) | apply Ext.alloc | apply Ext.drewN | apply Ext.drew)) hE⟩
  | true =>
    have O := right_iff.1 h
    have hA : Hid (leastA l = least l.trains) := by simp [Hid, leastA, h]
    have hn5 := O.ntr
    go_enter Try.func34, Try.ntmps34
    go_wp2_with fail
    refine (right_any (HL.out _ (by repeat (first | (with_reducible assumption) | (with_reducible exact Ext.refl _) | apply Ext.alloc | apply Ext.drewN | apply Ext.drew))) hs0.out).mono ?_
    rintro e w1 ⟨rfl, hE⟩
    rw [h]
    have hS := (Lp.start1 w _ _).trans hE
    obtain ⟨k1, k2, k3, k4⟩ := hS.open1
    go_wp2_with fail
    go_loopw [3, 12] (fun a j wr => ∃ (jj : Nat) (q : Int), jj ≤ l.trains.length ∧ j = .int .i64 jj ∧ a = .int .i64 q ∧ 0 ≤ q ∧ q ≤ 200000000 * jj ∧ Hid (q + sumI (fun _ t => lateT t (aloneT t)) jj (l.trains.drop jj) = least l.trains) ∧ Ext w wr) (fun _ j _ => l.trains.length - (intOf j).toNat)
    case atStart => exact ⟨0, 0, Nat.zero_le _, rfl, rfl, by omega, by omega, by simp [Hid, least], hS.ext⟩
    case round =>
      clear hS k1 k2 k3 k4 hE
      obtain ⟨jj, q, hjj, rfl, rfl, hq0, hq1, HS, hE0⟩ := hrel
      obtain ⟨hcl, hup⟩ := (Lp.of_ext hE0).open0
      by_cases hlt : jj < l.trains.length
      · obtain ⟨t, ht⟩ := hid_of_lt hlt
        obtain ⟨b, o, rfl, hb⟩ := h2.base hlt
        obtain ⟨e0, e1, e2, e3, A4, c4, e4, hR⟩ := h2.at_ ht.out
        have HI := Lib.hid (fun W (e : Ext w W) => isTrain_mk (c4 := c4) (hR.ext e))
        have HN := Lib.hid (sumI_at (fun _ t => lateT t (aloneT t)) ht.out)
        have hT := O.train _ _ ht.out
        have hk := TrOk.nlegs O ht.out
        obtain ⟨ha0, ha1⟩ := aloneT_bd O ht.out
        obtain ⟨hb0, hb1⟩ := lateT_bd hT (e := aloneT t) (by omega)
        go_wp2_with fail
        go_region_with (first  | (go_at_call 101; refine (alone_any (HI.out _ (by repeat (first | (with_reducible assumption) | (with_reducible exact Ext.refl _) | apply Ext.alloc | apply Ext.drewN | apply Ext.drew))) hT hk).mono ?_; rintro e w3 ⟨rfl, hE3⟩; have hL := Lp.trans ((Lp.of_ext hE0).newAt _ _ rfl |>.drew) hE3; obtain ⟨m1, m2, m3, m4⟩ := hL.open1)  | (go_at_call 88; refine (late_any (HI.out _ hL.ext) hT _ (by omega) (by omega)).mono ?_; rintro e w4 ⟨rfl, hE4⟩))
        all_goals
          go_wp2_with fail
          exact ⟨⟨jj + 1, q + lateT t (aloneT t), by omega, by go_num, rfl, by omega, by omega, by rw [← HS.out, HN.out]; unfold Hid; omega, hL.ext.trans hE4⟩, (by simp [intOf]; omega)⟩
      · have he := sumI_end (fun _ t => lateT t (aloneT t)) (l := l.trains) (i := jj) (by omega)
        have HE := Lib.hid he; clear he
        go_wp2_with fail
        go_ret
        exact ⟨ret_i64 (by rw [hA.out, ← HS.out, HE.out]; simp), hE0⟩
end Go.Proofs.Ythhkbfjolmgloaa
