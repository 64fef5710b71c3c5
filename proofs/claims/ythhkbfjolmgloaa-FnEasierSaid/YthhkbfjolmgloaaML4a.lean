/- From when to when a train is at a station: spec.l3there answers plain functions. Condition: the line is right, the plan fits. -/
import Derived.Test.YthhkbfjolmgloaaMHTrack
import Derived.Deep.RegionHeld3
namespace Go.Proofs.Ythhkbfjolmgloaa
open Go.RowKit
set_option linter.unusedVariables false
set_option linter.unusedSimpArgs false
def whereT (l : Line) (i k : Nat) : Int := if k = (l.tr i).legs.length then (l.leg i (k - 1)).to else (l.tr i).at_ k
def fromT (l : Line) (p : List (List Int)) (i k : Nat) : Int := if k = 0 then (l.tr i).ready else st p i (k - 1) + (l.leg i (k - 1)).run
def tillT (l : Line) (p : List (List Int)) (i k : Nat) : Int := if k = (l.tr i).legs.length then fromT l p i k else st p i k
theorem openA3 {w wr : World} {bs : List (Nat × Array Value × TypeId)} {b1 b2 b3 : Nat} {cs1 cs2 cs3 : Array Value} {t1 t2 t3 : TypeId} (h : Lp w wr ((b1, cs1, t1) :: (b2, cs2, t2) :: (b3, cs3, t3) :: bs)) : Lp w wr ((b1, cs1, t1) :: (b2, cs2, t2) :: (b3, cs3, t3) :: bs) ∧ (∀ g o, g < w.heap.size → wr.cell? ⟨g, o, none⟩ = w.cell? ⟨g, o, none⟩) ∧ (∀ g, g < w.heap.size → g < wr.heap.size) ∧ (∀ j, wr.cell? ⟨b1, j, none⟩ = cs1[j]?) ∧ b1 < wr.heap.size ∧ (∀ j, wr.cell? ⟨b2, j, none⟩ = cs2[j]?) ∧ b2 < wr.heap.size ∧ (∀ j, wr.cell? ⟨b3, j, none⟩ = cs3[j]?) ∧ b3 < wr.heap.size := ⟨h, h.open3⟩
set_option maxRecDepth 100000 in
set_option maxHeartbeats 8000000 in
theorem l3there_any {w : World} {l : Line} {p : List (List Int)} {u v : Value} (hl : IsLine w l u) (hp : IsPlan w p v) (O : Ok l) (F : Fits l p) {i k : Nat} (hi : i < l.trains.length) (hk : k ≤ (l.tr i).legs.length) :
    Calls Try.prog 112 #[u, v, .int .i64 i, .int .i64 k] w fun e w' => e = .returned (.tuple #[.int .i64 (whereT l i k), .int .i64 (fromT l p i k), .int .i64 (tillT l p i k)]) ∧ Ext w w' := by
  obtain ⟨A0, c0, A2, c2, rfl, h0, h2⟩ := hl
  obtain ⟨A3, c3, rfl, h3⟩ := hp
  obtain ⟨b0, o0, b2, o2, bl, ol, cl, SL⟩ := seeL O h0 h2
  obtain ⟨b3, o3, br, or', cr, SP⟩ := seeP O F h3
  clear h0 h2 h3
  have B := O.bd
  have HT := Lib.hid (SL.isTrain hi)
  obtain ⟨rfl, hb2⟩ := SL.base2 (by omega)
  obtain ⟨rfl, hb3⟩ := SP.base (by omega)
  obtain ⟨e0, e1, e2, e3, e4, hbl⟩ := SL.train i hi
  obtain ⟨r0, hbr⟩ := SP.row i hi
  have n10 := B.nl1 i hi
  have n5 := B.n5
  have t0 := B.tr i hi
  rw [F.rows]
  have d1 : bl i < w.heap.size + 1 := by omega
  have d2 : bl i < w.heap.size + 1 + 1 := by omega
  have d3 : br i < w.heap.size + 1 := by omega
  have d4 : br i < w.heap.size + 1 + 1 := by omega
  have d5 : b3 < w.heap.size + 1 := by omega
  have d6 : b3 < w.heap.size + 1 + 1 := by omega
  have d7 : bl i < w.heap.size + 1 + 1 + 1 := by omega
  have d8 : br i < w.heap.size + 1 + 1 + 1 := by omega
  have d9 : b3 < w.heap.size + 1 + 1 + 1 := by omega
  have hSS : Lp w (((w.alloc (.cells #[.slice A0 l.tracks.length c0, .int .i64 l.gap, .slice (some ⟨b2, o2, none⟩) l.trains.length c2] 33)).alloc (.cells #[.slice (some ⟨b3, o3, none⟩) l.trains.length c3] 42)).alloc (.cells #[.int .i64 (l.tr i).frm, .int .i64 (l.tr i).ready, .int .i64 (l.tr i).due, .int .i64 (l.tr i).weight, .slice (some ⟨bl i, ol i, none⟩) (l.tr i).legs.length (cl i)] 80)) [(w.heap.size + 1 + 1, #[.int .i64 (l.tr i).frm, .int .i64 (l.tr i).ready, .int .i64 (l.tr i).due, .int .i64 (l.tr i).weight, .slice (some ⟨bl i, ol i, none⟩) (l.tr i).legs.length (cl i)], 80), (w.heap.size + 1, #[.slice (some ⟨b3, o3, none⟩) l.trains.length c3], 42), (w.heap.size, #[.slice A0 l.tracks.length c0, .int .i64 l.gap, .slice (some ⟨b2, o2, none⟩) l.trains.length c2], 33)] := (Lp.start2 w _ _ _ _).newAt _ _ (by simp)
  have HSS := Lib.hid hSS; clear hSS
  cases k with
  | zero =>
    have hw : Hid (whereT l i 0 = (l.tr i).at_ 0) := by unfold Hid whereT; rw [if_neg (by omega)]
    have hf : Hid (fromT l p i 0 = (l.tr i).ready) := rfl
    have ht : Hid (tillT l p i 0 = st p i 0) := by unfold Hid tillT; rw [if_neg (by omega)]
    have s0 := SP.st i 0 hi (by omega)
    simp only [Nat.add_zero] at s0
    clear SL SP F O B
    have hne : ((0 : Int) == ((l.tr i).legs.length : Int)) = false := by simp; omega
    have hpos : 0 < (l.tr i).legs.length := by omega
    have H132 : Hid (∀ W, Ext w W → Calls Try.prog 132 #[.agg #[.int .i64 (l.tr i).frm, .int .i64 (l.tr i).ready, .int .i64 (l.tr i).due, .int .i64 (l.tr i).weight, .slice (some ⟨bl i, ol i, none⟩) (l.tr i).legs.length (cl i)], .int .i64 0] W fun e w' => e = .returned (.int .i64 ((l.tr i).at_ 0)) ∧ Ext W w') := fun W e => l2at_any (HT.out.ext e) n10.2 (k := 0) (by omega)
    go_enter Try.func112, Try.ntmps112
    go_wp2_with fail
    go_region_held3 (fun W => Lp w W [(w.heap.size + 1 + 1, #[.int .i64 (l.tr i).frm, .int .i64 (l.tr i).ready, .int .i64 (l.tr i).due, .int .i64 (l.tr i).weight, .slice (some ⟨bl i, ol i, none⟩) (l.tr i).legs.length (cl i)], 80), (w.heap.size + 1, #[.slice (some ⟨b3, o3, none⟩) l.trains.length c3], 42), (w.heap.size, #[.slice A0 l.tracks.length c0, .int .i64 l.gap, .slice (some ⟨b2, o2, none⟩) l.trains.length c2], 33)] ∧ (∀ g o, g < w.heap.size → W.cell? ⟨g, o, none⟩ = w.cell? ⟨g, o, none⟩) ∧ (∀ g, g < w.heap.size → g < W.heap.size) ∧ (∀ j, W.cell? ⟨w.heap.size + 1 + 1, j, none⟩ = (#[.int .i64 (l.tr i).frm, .int .i64 (l.tr i).ready, .int .i64 (l.tr i).due, .int .i64 (l.tr i).weight, .slice (some ⟨bl i, ol i, none⟩) (l.tr i).legs.length (cl i)] : Array Value)[j]?) ∧ w.heap.size + 1 + 1 < W.heap.size ∧ (∀ j, W.cell? ⟨w.heap.size + 1, j, none⟩ = (#[.slice (some ⟨b3, o3, none⟩) l.trains.length c3] : Array Value)[j]?) ∧ w.heap.size + 1 < W.heap.size ∧ (∀ j, W.cell? ⟨w.heap.size, j, none⟩ = (#[.slice A0 l.tracks.length c0, .int .i64 l.gap, .slice (some ⟨b2, o2, none⟩) l.trains.length c2] : Array Value)[j]?) ∧ w.heap.size < W.heap.size) (first | assumption | exact openA3 HSS.out.drew | exact openA3 (Lp.trans (And.left (by assumption)) (by assumption))) (first  | (go_at_call 132; have hX := Lp.ext (And.left (by assumption : Lp w _ _ ∧ _)); with_reducible refine (H132.out _ hX).mono ?_; rintro e w5 ⟨rfl, hE5⟩))
    all_goals
      have hL := Lp.ext (And.left (by assumption : Lp w _ _ ∧ _))
      go_wp2_with fail
      exact bodyPost_ret (v := .tuple #[.int .i64 ((l.tr i).at_ 0), .int .i64 (l.tr i).ready, .int .i64 (st p i 0)]) (by simp [results, Try.results112, go_sem]) rfl ⟨by rw [hw.out, hf.out, ht.out], hL⟩
  | succ k =>
    have hk1 : k < (l.tr i).legs.length := by omega
    obtain ⟨q0, q1, q2⟩ := SL.leg i k hi hk1
    have s1 := SP.st i k hi hk1
    obtain ⟨_, _, y1, y2, y3, y4⟩ := B.leg i k hi hk1
    obtain ⟨z3, z4⟩ := F.bd hi hk1
    have hf : Hid (fromT l p i (k + 1) = st p i k + (l.leg i k).run) := by simp [Hid, fromT]
    by_cases hlast : k + 1 = (l.tr i).legs.length
    · have hw : Hid (whereT l i (k + 1) = (l.leg i k).to) := by unfold Hid whereT; rw [if_pos hlast]; rfl
      have ht : Hid (tillT l p i (k + 1) = st p i k + (l.leg i k).run) := by unfold Hid tillT; rw [if_pos hlast]; exact hf.out
      have hne : (((k : Int) + 1) == ((l.tr i).legs.length : Int)) = true := by simp; omega
      clear SL SP F O B
      clear hlast
      go_enter Try.func112, Try.ntmps112
      go_wp2_with fail
      go_quiet (fail)
      go_wp2_with fail
      exact bodyPost_ret (v := .tuple #[.int .i64 (l.leg i k).to, .int .i64 (st p i k + (l.leg i k).run), .int .i64 (st p i k + (l.leg i k).run)]) (by simp [results, Try.results112, go_sem]) rfl ⟨by rw [hw.out, hf.out, ht.out], by repeat (first | with_reducible exact HSS.out.ext | apply Ext.drewN | apply Ext.drew)⟩
    · have hw : Hid (whereT l i (k + 1) = (l.tr i).at_ (k + 1)) := by unfold Hid whereT; rw [if_neg hlast]
      have ht : Hid (tillT l p i (k + 1) = st p i (k + 1)) := by unfold Hid tillT; rw [if_neg hlast]
      have hk2 : k + 1 < (l.tr i).legs.length := by omega
      have s0 := SP.st i (k + 1) hi hk2
      have hk3 : (k : Int) + 1 < ((l.tr i).legs.length : Int) := by omega
      have hk4 : (0 : Int) ≤ (k : Int) + 1 := by omega
      have H132 : Hid (∀ W, Ext w W → Calls Try.prog 132 #[.agg #[.int .i64 (l.tr i).frm, .int .i64 (l.tr i).ready, .int .i64 (l.tr i).due, .int .i64 (l.tr i).weight, .slice (some ⟨bl i, ol i, none⟩) (l.tr i).legs.length (cl i)], .int .i64 ((k : Int) + 1)] W fun e w' => e = .returned (.int .i64 ((l.tr i).at_ (k + 1))) ∧ Ext W w') := fun W e => l2at_any (HT.out.ext e) n10.2 hk2
      have hne : (((k : Int) + 1) == ((l.tr i).legs.length : Int)) = false := by simp; omega
      clear SL SP F O B
      clear hlast
      go_enter Try.func112, Try.ntmps112
      go_wp2_with fail
      go_quiet (fail)
      go_wp2_with fail
      go_region_held3 (fun W => Lp w W [(w.heap.size + 1 + 1, #[.int .i64 (l.tr i).frm, .int .i64 (l.tr i).ready, .int .i64 (l.tr i).due, .int .i64 (l.tr i).weight, .slice (some ⟨bl i, ol i, none⟩) (l.tr i).legs.length (cl i)], 80), (w.heap.size + 1, #[.slice (some ⟨b3, o3, none⟩) l.trains.length c3], 42), (w.heap.size, #[.slice A0 l.tracks.length c0, .int .i64 l.gap, .slice (some ⟨b2, o2, none⟩) l.trains.length c2], 33)] ∧ (∀ g o, g < w.heap.size → W.cell? ⟨g, o, none⟩ = w.cell? ⟨g, o, none⟩) ∧ (∀ g, g < w.heap.size → g < W.heap.size) ∧ (∀ j, W.cell? ⟨w.heap.size + 1 + 1, j, none⟩ = (#[.int .i64 (l.tr i).frm, .int .i64 (l.tr i).ready, .int .i64 (l.tr i).due, .int .i64 (l.tr i).weight, .slice (some ⟨bl i, ol i, none⟩) (l.tr i).legs.length (cl i)] : Array Value)[j]?) ∧ w.heap.size + 1 + 1 < W.heap.size ∧ (∀ j, W.cell? ⟨w.heap.size + 1, j, none⟩ = (#[.slice (some ⟨b3, o3, none⟩) l.trains.length c3] : Array Value)[j]?) ∧ w.heap.size + 1 < W.heap.size ∧ (∀ j, W.cell? ⟨w.heap.size, j, none⟩ = (#[.slice A0 l.tracks.length c0, .int .i64 l.gap, .slice (some ⟨b2, o2, none⟩) l.trains.length c2] : Array Value)[j]?) ∧ w.heap.size < W.heap.size) (first | assumption | exact openA3 HSS.out.drew | exact openA3 (Lp.drew (Lp.drewN HSS.out _)) | exact openA3 (Lp.drew HSS.out.drew) | exact openA3 (Lp.trans (And.left (by assumption)) (by assumption))) (first  | (go_at_call 132; have hX := Lp.ext (And.left (by assumption : Lp w _ _ ∧ _)); refine (H132.out _ hX).mono ?_; rintro e w5 ⟨rfl, hE5⟩))
      all_goals
        have hL := Lp.ext (And.left (by assumption : Lp w _ _ ∧ _))
        go_wp2_with fail
        exact bodyPost_ret (v := .tuple #[.int .i64 ((l.tr i).at_ (k + 1)), .int .i64 (st p i k + (l.leg i k).run), .int .i64 (st p i (k + 1))]) (by simp [results, Try.results112, go_sem]) rfl ⟨by rw [hw.out, hf.out, ht.out], hL⟩
end Go.Proofs.Ythhkbfjolmgloaa
