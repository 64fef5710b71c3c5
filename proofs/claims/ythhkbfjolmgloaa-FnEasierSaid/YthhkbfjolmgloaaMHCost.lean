/- impl.can, impl.cost, impl.Cost and spec.Cost answer plain functions. Condition: line and plan hold at most 2^20 values. -/
import Derived.Test.YthhkbfjolmgloaaML7a
import Derived.Test.YthhkbfjolmgloaaMHAlone
import Derived.Test.YthhkbfjolmgloaaMHSpecCheck
import Derived.Test.YthhkbfjolmgloaaMHImplCheck
namespace Go.Proofs.Ythhkbfjolmgloaa
open Go.RowKit
set_option linter.unusedVariables false
set_option linter.unusedSimpArgs false
def canB (l : Line) (p : List (List Int)) : Bool := (checkA l p).1 == 0
def costA (l : Line) (p : List (List Int)) : Int := if canB l p then costF l p else -1
theorem canB_can {l : Line} {p : List (List Int)} (h : canB l p = true) : Can l p := checkA_zero (by simpa [canB] using h)
theorem arrT_bd {l : Line} {p : List (List Int)} (C : Can l p) {i : Nat} (hi : i < l.trains.length) : 0 ≤ arrT l p i ∧ arrT l p i ≤ 1010000 := by
  have n := C.ok.bd.nl1 i hi
  unfold arrT
  rw [C.fits.row hi]
  have h1 := C.fits.bd (k := (l.tr i).legs.length - 1) hi (by omega)
  obtain ⟨_, _, y1, y2, _, _⟩ := C.ok.bd.leg i ((l.tr i).legs.length - 1) hi (by omega)
  omega
set_option maxRecDepth 100000 in
set_option maxHeartbeats 1000000 in
theorem can_any {w : World} {l : Line} {p : List (List Int)} {u v : Value} (hl : IsLine w l u) (hp : IsPlan w p v) (hs : l.size ≤ 1048576) (hpn : p.length ≤ 1048576) (hpl : ∀ (i : Nat) (t : List Int), p[i]? = some t → t.length ≤ 1048576) :
    Calls Try.prog 99 #[u, v] w fun e w' => e = .returned (.bool (canB l p)) ∧ Ext w w' := by
  have HL := Lib.hid (fun (W : World) (e : Ext w W) => hl.ext e)
  have HP := Lib.hid (fun (W : World) (e : Ext w W) => hp.ext e)
  obtain ⟨A0, c0, A2, c2, rfl, h0, h2⟩ := hl
  obtain ⟨A3, c3, rfl, h3⟩ := hp
  clear h0 h2 h3
  cases h : canB l p with
  | false =>
    have h' : ((checkA l p).1 == 0) = false := h
    have H := Lib.hid h; clear h
    generalize hf : checkA l p = f at *
    obtain ⟨a, b, c, d⟩ := f
    have HF := Lib.hid hf; clear hf
    simp only at h'
    go_enter Try.func99, Try.ntmps99
    go_wp2_with (go_at_call 32; refine (impl_Check_any (HL.out _ (by repeat (first | (with_reducible assumption) | (with_reducible exact Ext.refl _) | apply Ext.alloc | apply Ext.drewN | apply Ext.drew))) (HP.out _ (by repeat (first | (with_reducible assumption) | (with_reducible exact Ext.refl _) | apply Ext.alloc | apply Ext.drewN | apply Ext.drew))) hs hpn hpl).mono ?_; rw [HF.out]; rintro e w1 ⟨rfl, hE⟩; simp only [clV])
    go_ret
    exact ⟨rfl, Ext.trans (by repeat (first | (with_reducible assumption) | (with_reducible exact Ext.refl _) | apply Ext.alloc | apply Ext.drewN | apply Ext.drew)) hE⟩
  | true =>
    have HF := Lib.hid (canB_can h).check
    have H := Lib.hid h; clear h
    go_enter Try.func99, Try.ntmps99
    go_wp2_with (go_at_call 32; refine (impl_Check_any (HL.out _ (by repeat (first | (with_reducible assumption) | (with_reducible exact Ext.refl _) | apply Ext.alloc | apply Ext.drewN | apply Ext.drew))) (HP.out _ (by repeat (first | (with_reducible assumption) | (with_reducible exact Ext.refl _) | apply Ext.alloc | apply Ext.drewN | apply Ext.drew))) hs hpn hpl).mono ?_; rw [HF.out]; rintro e w1 ⟨rfl, hE⟩; simp only [clV])
    go_ret
    exact ⟨rfl, Ext.trans (by repeat (first | (with_reducible assumption) | (with_reducible exact Ext.refl _) | apply Ext.alloc | apply Ext.drewN | apply Ext.drew)) hE⟩
set_option maxRecDepth 100000 in
set_option maxHeartbeats 1000000 in
theorem cost_any {w : World} {l : Line} {p : List (List Int)} {u v : Value} (hl : IsLine w l u) (hp : IsPlan w p v) (C : Can l p) :
    Calls Try.prog 100 #[u, v] w fun e w' => e = .returned (.int .i64 (costF l p)) ∧ Ext w w' := by
  have HL := Lib.hid (fun (W : World) (e : Ext w W) => hl.ext e)
  have HP := Lib.hid (fun (W : World) (e : Ext w W) => hp.ext e)
  obtain ⟨A0, c0, A2, c2, rfl, h0, h2⟩ := hl
  obtain ⟨A3, c3, rfl, h3⟩ := hp
  obtain ⟨b0, o0, b2, o2, bl, ol, cl, SL⟩ := seeL C.ok h0 h2
  clear h0 h2 h3
  have HS := Lib.hid SL
  have HB := Lib.hid C.ok.bd
  have HC := Lib.hid C
  have n5 := HB.out.n5
  rw [C.fits.rows] at HP ⊢
  clear SL C
  go_enter Try.func100, Try.ntmps100
  go_wp2_with fail
  go_loopw [5, 11] (fun a j wr => ∃ (jj : Nat) (q : Int), jj ≤ l.trains.length ∧ j = .int .i64 jj ∧ a = .int .i64 q ∧ 0 ≤ q ∧ q ≤ 200000000 * jj ∧ Hid (q + sumF (fun i => lateT (l.tr i) (arrT l p i)) jj l.trains.length = costF l p) ∧ Lp w wr [(w.heap.size + 1, #[.slice A3 l.trains.length c3], 42), (w.heap.size, #[.slice A0 l.tracks.length c0, .int .i64 l.gap, .slice A2 l.trains.length c2], 33)]) (fun _ j _ => l.trains.length - (intOf j).toNat)
  case atStart => exact ⟨0, 0, Nat.zero_le _, rfl, rfl, by omega, by omega, by simp [Hid, costF], Lp.start2 _ _ _ _ _⟩
  case round =>
    obtain ⟨jj, q, hjj, rfl, rfl, hq0, hq1, HT, hS⟩ := hrel
    obtain ⟨k1, k2, k3, k4, k5, k6⟩ := hS.open2
    by_cases hlt : jj < l.trains.length
    · obtain ⟨rfl, hb2⟩ := HS.out.base2 (by omega)
      obtain ⟨e0, e1, e2, e3, e4, hbj⟩ := HS.out.train jj hlt
      have HI := Lib.hid (fun (W : World) (e : Ext w W) => (HS.out.isTrain hlt).ext e)
      have hT := HC.out.ok.train _ _ (Line.tr_at hlt)
      obtain ⟨ha0, ha1⟩ := arrT_bd HC.out hlt
      obtain ⟨hb0, hb1⟩ := lateT_bd hT (e := arrT l p jj) (by omega)
      have HN := Lib.hid (sumF_at (fun i => lateT (l.tr i) (arrT l p i)) hlt)
      go_wp2_with fail
      go_region_with (first  | (go_at_call 107; refine (arrives_any (HL.out _ (hS.ext.trans (by repeat (first | (with_reducible assumption) | (with_reducible exact Ext.refl _) | apply Ext.alloc | apply Ext.drewN | apply Ext.drew)))) (HP.out _ (hS.ext.trans (by repeat (first | (with_reducible assumption) | (with_reducible exact Ext.refl _) | apply Ext.alloc | apply Ext.drewN | apply Ext.drew)))) HC.out.ok HC.out.fits hlt).mono ?_; rintro e w3 ⟨rfl, hE3⟩; have hX3 : Ext wr w3 := Ext.trans (by repeat (first | (with_reducible assumption) | (with_reducible exact Ext.refl _) | apply Ext.alloc | apply Ext.drewN | apply Ext.drew)) hE3; have hL := (hS.newAt #[.int .i64 (l.tr jj).frm, .int .i64 (l.tr jj).ready, .int .i64 (l.tr jj).due, .int .i64 (l.tr jj).weight, .slice (some ⟨bl jj, ol jj, none⟩) (l.tr jj).legs.length (cl jj)] 80 rfl).trans (Ext.trans (by repeat (first | (with_reducible assumption) | (with_reducible exact Ext.refl _) | apply Ext.alloc | apply Ext.drewN | apply Ext.drew)) hE3); obtain ⟨m1, m2, m3, m4, m5, m6, m7, m8⟩ := hL.open3)  | (go_at_call 88; refine (late_any (HI.out _ (hS.ext.trans (by repeat (first | (with_reducible assumption) | (with_reducible exact Ext.refl _) | apply Ext.alloc | apply Ext.drewN | apply Ext.drew)))) hT _ (by omega) (by omega)).mono ?_; rintro e w4 ⟨rfl, hE4⟩; have hX4 : Ext wr w4 := Ext.trans (by repeat (first | (with_reducible assumption) | (with_reducible exact Ext.refl _) | apply Ext.alloc | apply Ext.drewN | apply Ext.drew)) hE4))
      all_goals
        go_wp2_with fail
        exact ⟨⟨jj + 1, q + lateT (l.tr jj) (arrT l p jj), by omega, by go_num, rfl, by omega, by omega, by rw [← HT.out, HN.out]; unfold Hid; omega, hS.trans (by repeat (first | (with_reducible assumption) | (with_reducible exact Ext.refl _) | apply Ext.alloc | apply Ext.drewN | apply Ext.drew))⟩, (by simp [intOf]; omega)⟩
    · have HE := Lib.hid (sumF_end (fun i => lateT (l.tr i) (arrT l p i)) (i := jj) (n := l.trains.length) (by omega))
      go_wp2_with fail
      go_ret
      exact ⟨ret_i64 (by rw [← HT.out, HE.out]; simp), hS.ext⟩
set_option maxRecDepth 100000 in
set_option maxHeartbeats 1000000 in
theorem impl_Cost_any {w : World} {l : Line} {p : List (List Int)} {u v : Value} (hl : IsLine w l u) (hp : IsPlan w p v) (hs : l.size ≤ 1048576) (hpn : p.length ≤ 1048576) (hpl : ∀ (i : Nat) (t : List Int), p[i]? = some t → t.length ≤ 1048576) :
    Calls Try.prog 33 #[u, v] w fun e w' => e = .returned (.int .i64 (costA l p)) ∧ Ext w w' := by
  have HL := Lib.hid (fun (W : World) (e : Ext w W) => hl.ext e)
  have HP := Lib.hid (fun (W : World) (e : Ext w W) => hp.ext e)
  obtain ⟨A0, c0, A2, c2, rfl, h0, h2⟩ := hl
  obtain ⟨A3, c3, rfl, h3⟩ := hp
  clear h0 h2 h3
  cases h : canB l p with
  | false =>
    have hA : Hid (costA l p = -1) := by simp [Hid, costA, h]
    go_enter Try.func33, Try.ntmps33
    go_wp2_with fail
    refine (can_any (HL.out _ (by repeat (first | (with_reducible assumption) | (with_reducible exact Ext.refl _) | apply Ext.alloc | apply Ext.drewN | apply Ext.drew))) (HP.out _ (by repeat (first | (with_reducible assumption) | (with_reducible exact Ext.refl _) | apply Ext.alloc | apply Ext.drewN | apply Ext.drew))) hs hpn hpl).mono ?_
    rintro e w1 ⟨rfl, hE⟩
    rw [h]
    have hS := (Lp.start2 w _ _ _ _).trans hE; clear hE
    obtain ⟨k1, k2, k3, k4, k5, k6⟩ := hS.open2
    go_wp2_with fail
    go_ret
    exact ⟨ret_i64 hA.out.symm, hS.ext⟩
  | true =>
    have hA : Hid (costA l p = costF l p) := by simp [Hid, costA, h]
    have HC := Lib.hid (canB_can h)
    go_enter Try.func33, Try.ntmps33
    go_wp2_with fail
    refine (can_any (HL.out _ (by repeat (first | (with_reducible assumption) | (with_reducible exact Ext.refl _) | apply Ext.alloc | apply Ext.drewN | apply Ext.drew))) (HP.out _ (by repeat (first | (with_reducible assumption) | (with_reducible exact Ext.refl _) | apply Ext.alloc | apply Ext.drewN | apply Ext.drew))) hs hpn hpl).mono ?_
    rintro e w1 ⟨rfl, hE⟩
    rw [h]
    have hS := (Lp.start2 w _ _ _ _).trans hE; clear hE
    obtain ⟨k1, k2, k3, k4, k5, k6⟩ := hS.open2
    go_wp2_with fail
    refine (cost_any (HL.out _ hS.ext) (HP.out _ hS.ext) HC.out).mono ?_
    rintro e w2 ⟨rfl, hE⟩
    go_wp2_with fail
    go_ret
    exact ⟨ret_i64 hA.out.symm, hS.ext.trans hE⟩
set_option maxRecDepth 100000 in
set_option maxHeartbeats 8000000 in
theorem spec_Cost_any {w : World} {l : Line} {p : List (List Int)} {u v : Value} (hl : IsLine w l u) (hp : IsPlan w p v) (hs : l.size ≤ 1048576) (hpn : p.length ≤ 1048576) (hpl : ∀ (i : Nat) (t : List Int), p[i]? = some t → t.length ≤ 1048576) :
    Calls Try.prog 45 #[u, v] w fun e w' => e = .returned (.int .i64 (costA l p)) ∧ Ext w w' := by
  have HL := Lib.hid (fun (W : World) (e : Ext w W) => hl.ext e)
  have HP := Lib.hid (fun (W : World) (e : Ext w W) => hp.ext e)
  obtain ⟨A0, c0, A2, c2, rfl, h0, h2⟩ := hl
  obtain ⟨A3, c3, rfl, h3⟩ := hp
  have hs0 := Lib.hid hs; clear hs
  cases h : canB l p with
  | false =>
    have hA : Hid (costA l p = -1) := by simp [Hid, costA, h]
    have h' : ((checkA l p).1 != 0) = true := by rw [bne, show ((checkA l p).1 == 0) = false from h]; rfl
    clear h h0 h2 h3
    generalize hf : checkA l p = f at *
    obtain ⟨a, b, c, d⟩ := f
    have HF := Lib.hid hf; clear hf
    simp only at h'
    go_enter Try.func45, Try.ntmps45
    go_wp2_with (go_at_call 43; refine (spec_Check_any (HL.out _ (by repeat (first | (with_reducible assumption) | (with_reducible exact Ext.refl _) | apply Ext.alloc | apply Ext.drewN | apply Ext.drew))) (HP.out _ (by repeat (first | (with_reducible assumption) | (with_reducible exact Ext.refl _) | apply Ext.alloc | apply Ext.drewN | apply Ext.drew))) hs0.out hpn hpl).mono ?_; rw [HF.out]; rintro e w1 ⟨rfl, hE⟩; simp only [clV]; have hS := (Lp.start2 w _ _ _ _).trans hE; obtain ⟨k1, k2, k3, k4, k5, k6⟩ := hS.open2)
    go_ret
    exact ⟨ret_i64 hA.out.symm, Ext.trans hS.ext (by repeat (first | (with_reducible assumption) | (with_reducible exact Ext.refl _) | apply Ext.alloc | apply Ext.drewN | apply Ext.drew))⟩
  | true =>
    have hA : Hid (costA l p = costF l p) := by simp [Hid, costA, h]
    have HC := Lib.hid (canB_can h)
    have HK := Lib.hid HC.out.check
    have HA : Hid (∀ i, i < l.trains.length → arriveA l p i = arrT l p i) := fun i hi => by
      unfold arriveA
      rw [right_iff.2 HC.out.ok, shapeOk_iff.2 HC.out.fits, inB_true.2 ⟨by omega, by omega⟩]
      rfl
    obtain ⟨b0, o0, b2, o2, bl, ol, cl, SL⟩ := seeL HC.out.ok h0 h2
    clear h0 h2 h3 h
    have HS := Lib.hid SL
    have HB := Lib.hid HC.out.ok.bd
    have n5 := HB.out.n5
    rw [HC.out.fits.rows] at HP ⊢
    clear SL
    go_enter Try.func45, Try.ntmps45
    go_wp2_with (go_at_call 43; refine (spec_Check_any (HL.out _ (by repeat (first | (with_reducible assumption) | (with_reducible exact Ext.refl _) | apply Ext.alloc | apply Ext.drewN | apply Ext.drew))) (HP.out _ (by repeat (first | (with_reducible assumption) | (with_reducible exact Ext.refl _) | apply Ext.alloc | apply Ext.drewN | apply Ext.drew))) hs0.out hpn hpl).mono ?_; rw [HK.out]; rintro e w1 ⟨rfl, hE⟩; simp only [clV]; have hS := (Lp.start2 w _ _ _ _).trans hE; obtain ⟨k1, k2, k3, k4, k5, k6⟩ := hS.open2)
    go_loopw [6, 18] (fun a j wr => ∃ (jj : Nat) (q : Int), jj ≤ l.trains.length ∧ j = .int .i64 jj ∧ a = .int .i64 q ∧ 0 ≤ q ∧ q ≤ 200000000 * jj ∧ Hid (q + sumF (fun i => lateT (l.tr i) (arrT l p i)) jj l.trains.length = costF l p) ∧ Lp w wr [(w.heap.size + 1, #[.slice A3 l.trains.length c3], 42), (w.heap.size, #[.slice A0 l.tracks.length c0, .int .i64 l.gap, .slice A2 l.trains.length c2], 33)]) (fun _ j _ => l.trains.length - (intOf j).toNat)
    case atStart => exact ⟨0, 0, Nat.zero_le _, rfl, rfl, by omega, by omega, by simp [Hid, costF], (by repeat (first | (with_reducible exact hS) | apply Lp.alloc | apply Lp.drewN | apply Lp.drew))⟩
    case round =>
      clear hS k1 k2 k3 k4 k5 k6 hE
      obtain ⟨jj, q, hjj, rfl, rfl, hq0, hq1, HT, hS⟩ := hrel
      obtain ⟨k1, k2, k3, k4, k5, k6⟩ := hS.open2
      by_cases hlt : jj < l.trains.length
      · obtain ⟨rfl, hb2⟩ := HS.out.base2 (by omega)
        obtain ⟨e0, e1, e2, e3, e4, hbj⟩ := HS.out.train jj hlt
        have HI := Lib.hid (fun (W : World) (e : Ext w W) => (HS.out.isTrain hlt).ext e)
        have hT := HC.out.ok.train _ _ (Line.tr_at hlt)
        have HAj := Lib.hid (HA.out jj hlt)
        obtain ⟨ha0, ha1⟩ := arrT_bd HC.out hlt
        obtain ⟨hb0, hb1⟩ := lateT_bd hT (e := arrT l p jj) (by omega)
        have HN := Lib.hid (sumF_at (fun i => lateT (l.tr i) (arrT l p i)) hlt)
        go_wp2_with fail
        go_region_with (first  | (go_at_call 39; refine (spec_Arrives_any (HL.out _ (hS.ext.trans (by repeat (first | (with_reducible assumption) | (with_reducible exact Ext.refl _) | apply Ext.alloc | apply Ext.drewN | apply Ext.drew)))) (HP.out _ (hS.ext.trans (by repeat (first | (with_reducible assumption) | (with_reducible exact Ext.refl _) | apply Ext.alloc | apply Ext.drewN | apply Ext.drew)))) hs0.out hpn hpl _).mono ?_; rw [HAj.out]; rintro e w3 ⟨rfl, hE3⟩; have hX3 : Ext wr w3 := Ext.trans (by repeat (first | (with_reducible assumption) | (with_reducible exact Ext.refl _) | apply Ext.alloc | apply Ext.drewN | apply Ext.drew)) hE3; have hL := (hS.newAt #[.int .i64 (l.tr jj).frm, .int .i64 (l.tr jj).ready, .int .i64 (l.tr jj).due, .int .i64 (l.tr jj).weight, .slice (some ⟨bl jj, ol jj, none⟩) (l.tr jj).legs.length (cl jj)] 80 rfl).trans (Ext.trans (by repeat (first | (with_reducible assumption) | (with_reducible exact Ext.refl _) | apply Ext.alloc | apply Ext.drewN | apply Ext.drew)) hE3); obtain ⟨m1, m2, m3, m4, m5, m6, m7, m8⟩ := hL.open3)  | (go_at_call 103; refine (l1late_any (HI.out _ (hS.ext.trans (by repeat (first | (with_reducible assumption) | (with_reducible exact Ext.refl _) | apply Ext.alloc | apply Ext.drewN | apply Ext.drew)))) hT _ (by omega) (by omega)).mono ?_; rintro e w4 ⟨rfl, hE4⟩; have hX4 : Ext wr w4 := Ext.trans (by repeat (first | (with_reducible assumption) | (with_reducible exact Ext.refl _) | apply Ext.alloc | apply Ext.drewN | apply Ext.drew)) hE4))
        all_goals
          go_wp2_with fail
          exact ⟨⟨jj + 1, q + lateT (l.tr jj) (arrT l p jj), by omega, by go_num, rfl, by omega, by omega, by rw [← HT.out, HN.out]; unfold Hid; omega, hS.trans (by repeat (first | (with_reducible assumption) | (with_reducible exact Ext.refl _) | apply Ext.alloc | apply Ext.drewN | apply Ext.drew))⟩, (by simp [intOf]; omega)⟩
      · have HE := Lib.hid (sumF_end (fun i => lateT (l.tr i) (arrT l p i)) (i := jj) (n := l.trains.length) (by omega))
        go_wp2_with fail
        go_ret
        exact ⟨ret_i64 (by rw [hA.out, ← HT.out, HE.out]; simp), hS.ext⟩
end Go.Proofs.Ythhkbfjolmgloaa
