/- Where a leg begins, its track, when its train can begin it, when it leaves: spec.l2at, l2track, l2ready, l2leaves and impl.from, leaves answer plain functions. Condition: the line is right, the plan fits. -/
import Derived.Test.YthhkbfjolmgloaaML3a
namespace Go.Proofs.Ythhkbfjolmgloaa
open Go.RowKit
set_option linter.unusedVariables false
set_option linter.unusedSimpArgs false
def Train.trk (t : Train) (k : Nat) : Int := min (t.at_ k) (t.legs.getD k default).to
def readyT (l : Line) (p : List (List Int)) (i k : Nat) : Int := if k = 0 then (l.tr i).ready + (l.leg i 0).stay else st p i (k - 1) + (l.leg i (k - 1)).run + (l.leg i k).stay
def leaves (l : Line) (p : List (List Int)) (j m : Nat) : Int := if m + 1 < (l.tr j).legs.length then st p j (m + 1) else st p j m + (l.leg j m).run
theorem SeeL.isTrain {w : World} {l : Line} {A0 A2 : Option Addr} {b0 o0 b2 o2 : Nat} {bl ol cl : Nat → Nat} (h : SeeL w l A0 A2 b0 o0 b2 o2 bl ol cl) {i : Nat} (hi : i < l.trains.length) : IsTrain w (l.tr i) (.agg #[.int .i64 (l.tr i).frm, .int .i64 (l.tr i).ready, .int .i64 (l.tr i).due, .int .i64 (l.tr i).weight, .slice (some ⟨bl i, ol i, none⟩) ((l.tr i).legs.length) (cl i)]) :=
  ⟨some ⟨bl i, ol i, none⟩, cl i, rfl, fun k x hx => by
    have hk : k < (l.tr i).legs.length := lt_of_some hx
    have e := Line.leg_at hk
    rw [hx] at e
    obtain rfl : x = l.leg i k := by simpa using e
    exact ⟨bl i, ol i, rfl, (h.train i hi).2.2.2.2.2, h.leg i k hi hk⟩⟩
set_option maxRecDepth 100000 in
set_option maxHeartbeats 1000000 in
theorem l2at_any {w : World} {t : Train} {v : Value} (ht : IsTrain w t v) (hn : t.legs.length ≤ 10) {k : Nat} (hk : k < t.legs.length) :
    Calls Try.prog 132 #[v, .int .i64 k] w fun e w' => e = .returned (.int .i64 (t.at_ k)) ∧ Ext w w' := by
  obtain ⟨A4, c4, rfl, hR⟩ := ht
  cases k with
  | zero =>
    have hA : Hid (t.at_ 0 = t.frm) := rfl
    clear hR
    go_enter Try.func132, Try.ntmps132
    go_wp2_with fail
    go_ret
    exact ⟨ret_i64 hA.out.symm, (by repeat (first | (with_reducible assumption) | (with_reducible exact Ext.refl _) | apply Ext.alloc | apply Ext.drewN | apply Ext.drew))⟩
  | succ k =>
    have hk1 : k < t.legs.length := by omega
    obtain ⟨x, hx⟩ := hid_of_lt hk1
    obtain ⟨b, o, rfl, hb⟩ := hR.base hk1
    obtain ⟨f0, f1, f2⟩ := hR.at_ hx.out
    have hA : Hid (t.at_ (k + 1) = x.to) := by simp [Hid, Train.at_, List.getElem?_eq_getElem hk1 ▸ hx.out, hx.out]
    clear hR
    go_enter Try.func132, Try.ntmps132
    go_wp2_with fail
    go_ret
    exact ⟨ret_i64 hA.out.symm, (by repeat (first | (with_reducible assumption) | (with_reducible exact Ext.refl _) | apply Ext.alloc | apply Ext.drewN | apply Ext.drew))⟩
set_option maxRecDepth 100000 in
set_option maxHeartbeats 1000000 in
theorem from_any {w : World} {t : Train} {v : Value} (ht : IsTrain w t v) (hn : t.legs.length ≤ 10) {k : Nat} (hk : k < t.legs.length) :
    Calls Try.prog 96 #[v, .int .i64 k] w fun e w' => e = .returned (.int .i64 (t.at_ k)) ∧ Ext w w' := by
  obtain ⟨A4, c4, rfl, hR⟩ := ht
  cases k with
  | zero =>
    have hA : Hid (t.at_ 0 = t.frm) := rfl
    clear hR
    go_enter Try.func96, Try.ntmps96
    go_wp2_with fail
    go_ret
    exact ⟨ret_i64 hA.out.symm, (by repeat (first | (with_reducible assumption) | (with_reducible exact Ext.refl _) | apply Ext.alloc | apply Ext.drewN | apply Ext.drew))⟩
  | succ k =>
    have hk1 : k < t.legs.length := by omega
    obtain ⟨x, hx⟩ := hid_of_lt hk1
    obtain ⟨b, o, rfl, hb⟩ := hR.base hk1
    obtain ⟨f0, f1, f2⟩ := hR.at_ hx.out
    have hA : Hid (t.at_ (k + 1) = x.to) := by simp [Hid, Train.at_, List.getElem?_eq_getElem hk1 ▸ hx.out, hx.out]
    clear hR
    go_enter Try.func96, Try.ntmps96
    go_wp2_with fail
    go_ret
    exact ⟨ret_i64 hA.out.symm, (by repeat (first | (with_reducible assumption) | (with_reducible exact Ext.refl _) | apply Ext.alloc | apply Ext.drewN | apply Ext.drew))⟩
set_option maxRecDepth 100000 in
set_option maxHeartbeats 1000000 in
theorem l2track_any {w : World} {t : Train} {v : Value} (ht : IsTrain w t v) (hn : t.legs.length ≤ 10) {k : Nat} (hk : k < t.legs.length) :
    Calls Try.prog 110 #[v, .int .i64 k] w fun e w' => e = .returned (.int .i64 (t.trk k)) ∧ Ext w w' := by
  have HT := Lib.hid (fun (W : World) (e : Ext w W) => ht.ext e)
  obtain ⟨A4, c4, rfl, hR⟩ := ht
  obtain ⟨x, hx⟩ := hid_of_lt hk
  obtain ⟨b, o, rfl, hb⟩ := hR.base hk
  obtain ⟨f0, f1, f2⟩ := hR.at_ hx.out
  have hA : Hid (t.trk k = min (t.at_ k) x.to) := by simp only [Hid, Train.trk, getD_some hx.out]
  clear hR
  go_enter Try.func110, Try.ntmps110
  go_wp2_with fail
  refine (l2at_any (HT.out _ (by repeat (first | (with_reducible assumption) | (with_reducible exact Ext.refl _) | apply Ext.alloc | apply Ext.drewN | apply Ext.drew))) hn hk).mono ?_
  rintro e w1 ⟨rfl, hE⟩
  have hS := (Lp.start1 w _ _).trans hE; clear hE
  obtain ⟨k1, k2, k3, k4⟩ := hS.open1
  go_wp2_with fail
  all_goals
    go_ret
    exact ⟨ret_i64 (by rw [hA.out]; omega), hS.ext⟩
set_option maxRecDepth 100000 in
set_option maxHeartbeats 1000000 in
theorem l2ready_any {w : World} {l : Line} {p : List (List Int)} {u v : Value} (hl : IsLine w l u) (hp : IsPlan w p v) (O : Ok l) (F : Fits l p) {i k : Nat} (hi : i < l.trains.length) (hk : k < (l.tr i).legs.length) :
    Calls Try.prog 109 #[u, v, .int .i64 i, .int .i64 k] w fun e w' => e = .returned (.int .i64 (readyT l p i k)) ∧ Ext w w' := by
  obtain ⟨A0, c0, A2, c2, rfl, h0, h2⟩ := hl
  obtain ⟨A3, c3, rfl, h3⟩ := hp
  obtain ⟨b0, o0, b2, o2, bl, ol, cl, SL⟩ := seeL O h0 h2
  obtain ⟨b3, o3, br, or', cr, SP⟩ := seeP O F h3
  clear h0 h2 h3
  have B := O.bd
  obtain ⟨rfl, hb2⟩ := SL.base2 (by omega)
  obtain ⟨rfl, hb3⟩ := SP.base (by omega)
  obtain ⟨e0, e1, e2, e3, e4, hbl⟩ := SL.train i hi
  obtain ⟨r0, hbr⟩ := SP.row i hi
  obtain ⟨f0, f1, f2⟩ := SL.leg i k hi hk
  obtain ⟨_, _, x1, x2, x3, x4⟩ := B.leg i k hi hk
  have n10 := B.nl1 i hi
  have n5 := B.n5
  have t0 := B.tr i hi
  rw [F.rows]
  have hlt : i < l.trains.length := hi
  have d1 : bl i < w.heap.size + 1 := by omega
  have d2 : bl i < w.heap.size + 1 + 1 := by omega
  have d3 : br i < w.heap.size + 1 := by omega
  have d4 : br i < w.heap.size + 1 + 1 := by omega
  have d5 : b3 < w.heap.size + 1 := by omega
  have d6 : b3 < w.heap.size + 1 + 1 := by omega
  have hn5 : l.trains.length ≤ 5 := n5
  cases k with
  | zero =>
    have hA : Hid (readyT l p i 0 = (l.tr i).ready + (l.leg i 0).stay) := rfl
    simp only [Nat.zero_mul, Nat.add_zero] at f0 f1 f2
    clear SL SP F O B
    go_enter Try.func109, Try.ntmps109
    go_wp2_with fail
    go_quiet (fail)
    go_wp2_with fail
    go_ret
    exact ⟨ret_i64 hA.out.symm, (by repeat (first | (with_reducible assumption) | (with_reducible exact Ext.refl _) | apply Ext.alloc | apply Ext.drewN | apply Ext.drew))⟩
  | succ k =>
    have hA : Hid (readyT l p i (k + 1) = st p i k + (l.leg i k).run + (l.leg i (k + 1)).stay) := by simp [Hid, readyT]
    have hk1 : k < (l.tr i).legs.length := by omega
    obtain ⟨g0, g1, g2⟩ := SL.leg i k hi hk1
    have s0 := SP.st i k hi hk1
    obtain ⟨_, _, y1, y2, y3, y4⟩ := B.leg i k hi hk1
    obtain ⟨z1, z2⟩ := F.bd hi hk1
    clear SL SP F O B
    go_enter Try.func109, Try.ntmps109
    go_wp2_with fail
    go_quiet (fail)
    go_wp2_with fail
    go_ret
    exact ⟨ret_i64 hA.out.symm, (by repeat (first | (with_reducible assumption) | (with_reducible exact Ext.refl _) | apply Ext.alloc | apply Ext.drewN | apply Ext.drew))⟩
set_option maxRecDepth 100000 in
set_option maxHeartbeats 1000000 in
theorem l2leaves_any {w : World} {l : Line} {p : List (List Int)} {u v : Value} (hl : IsLine w l u) (hp : IsPlan w p v) (O : Ok l) (F : Fits l p) {i k : Nat} (hi : i < l.trains.length) (hk : k < (l.tr i).legs.length) :
    Calls Try.prog 133 #[u, v, .int .i64 i, .int .i64 k] w fun e w' => e = .returned (.int .i64 (leaves l p i k)) ∧ Ext w w' := by
  obtain ⟨A0, c0, A2, c2, rfl, h0, h2⟩ := hl
  obtain ⟨A3, c3, rfl, h3⟩ := hp
  obtain ⟨b0, o0, b2, o2, bl, ol, cl, SL⟩ := seeL O h0 h2
  obtain ⟨b3, o3, br, or', cr, SP⟩ := seeP O F h3
  clear h0 h2 h3
  have B := O.bd
  obtain ⟨rfl, hb2⟩ := SL.base2 (by omega)
  obtain ⟨rfl, hb3⟩ := SP.base (by omega)
  obtain ⟨e0, e1, e2, e3, e4, hbl⟩ := SL.train i hi
  obtain ⟨r0, hbr⟩ := SP.row i hi
  obtain ⟨f0, f1, f2⟩ := SL.leg i k hi hk
  have s0 := SP.st i k hi hk
  obtain ⟨_, _, x1, x2, x3, x4⟩ := B.leg i k hi hk
  obtain ⟨z1, z2⟩ := F.bd hi hk
  have n10 := B.nl1 i hi
  have n5 := B.n5
  rw [F.rows]
  have hlt : i < l.trains.length := hi
  have hn5 : l.trains.length ≤ 5 := n5
  by_cases hk1 : k + 1 < (l.tr i).legs.length
  · have hA : Hid (leaves l p i k = st p i (k + 1)) := by simp only [Hid, leaves, if_pos hk1]
    have s1 := SP.st i (k + 1) hi hk1
    clear SL SP F O B
    go_enter Try.func133, Try.ntmps133
    go_wp2_with fail
    go_ret
    exact ⟨ret_i64 hA.out.symm, (by repeat (first | (with_reducible assumption) | (with_reducible exact Ext.refl _) | apply Ext.alloc | apply Ext.drewN | apply Ext.drew))⟩
  · have hA : Hid (leaves l p i k = st p i k + (l.leg i k).run) := by simp only [Hid, leaves, if_neg hk1]
    clear SL SP F O B
    go_enter Try.func133, Try.ntmps133
    go_wp2_with fail
    go_quiet (fail)
    go_wp2_with fail
    go_ret
    exact ⟨ret_i64 hA.out.symm, (by repeat (first | (with_reducible assumption) | (with_reducible exact Ext.refl _) | apply Ext.alloc | apply Ext.drewN | apply Ext.drew))⟩
set_option maxRecDepth 100000 in
set_option maxHeartbeats 1000000 in
theorem leaves_any {w : World} {l : Line} {p : List (List Int)} {u v : Value} (hl : IsLine w l u) (hp : IsPlan w p v) (O : Ok l) (F : Fits l p) {i k : Nat} (hi : i < l.trains.length) (hk : k < (l.tr i).legs.length) :
    Calls Try.prog 98 #[u, v, .int .i64 i, .int .i64 k] w fun e w' => e = .returned (.int .i64 (leaves l p i k)) ∧ Ext w w' := by
  obtain ⟨A0, c0, A2, c2, rfl, h0, h2⟩ := hl
  obtain ⟨A3, c3, rfl, h3⟩ := hp
  obtain ⟨b0, o0, b2, o2, bl, ol, cl, SL⟩ := seeL O h0 h2
  obtain ⟨b3, o3, br, or', cr, SP⟩ := seeP O F h3
  clear h0 h2 h3
  have B := O.bd
  obtain ⟨rfl, hb2⟩ := SL.base2 (by omega)
  obtain ⟨rfl, hb3⟩ := SP.base (by omega)
  obtain ⟨e0, e1, e2, e3, e4, hbl⟩ := SL.train i hi
  obtain ⟨r0, hbr⟩ := SP.row i hi
  obtain ⟨f0, f1, f2⟩ := SL.leg i k hi hk
  have s0 := SP.st i k hi hk
  obtain ⟨_, _, x1, x2, x3, x4⟩ := B.leg i k hi hk
  obtain ⟨z1, z2⟩ := F.bd hi hk
  have n10 := B.nl1 i hi
  have n5 := B.n5
  rw [F.rows]
  have hlt : i < l.trains.length := hi
  have hn5 : l.trains.length ≤ 5 := n5
  by_cases hk1 : k + 1 < (l.tr i).legs.length
  · have hA : Hid (leaves l p i k = st p i (k + 1)) := by simp only [Hid, leaves, if_pos hk1]
    have s1 := SP.st i (k + 1) hi hk1
    clear SL SP F O B
    go_enter Try.func98, Try.ntmps98
    go_wp2_with fail
    go_ret
    exact ⟨ret_i64 hA.out.symm, (by repeat (first | (with_reducible assumption) | (with_reducible exact Ext.refl _) | apply Ext.alloc | apply Ext.drewN | apply Ext.drew))⟩
  · have hA : Hid (leaves l p i k = st p i k + (l.leg i k).run) := by simp only [Hid, leaves, if_neg hk1]
    clear SL SP F O B
    go_enter Try.func98, Try.ntmps98
    go_wp2_with fail
    go_quiet (fail)
    go_wp2_with fail
    go_ret
    exact ⟨ret_i64 hA.out.symm, (by repeat (first | (with_reducible assumption) | (with_reducible exact Ext.refl _) | apply Ext.alloc | apply Ext.drewN | apply Ext.drew))⟩
end Go.Proofs.Ythhkbfjolmgloaa
