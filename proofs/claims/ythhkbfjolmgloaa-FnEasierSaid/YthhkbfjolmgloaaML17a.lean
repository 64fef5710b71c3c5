/- spec.Solve answers the best of all plans that can be. Condition: the line holds at most 2^20 values.
   laws.eqBest, markBest, heldBest; the best plan of a line has few rows. Condition: rows of at most 2^20 numbers. -/
import Derived.Test.YthhkbfjolmgloaaMHLookEnd
import Derived.Test.YthhkbfjolmgloaaML16a
import Derived.Test.YthhkbfjolmgloaaML15a
namespace Go.Proofs.Ythhkbfjolmgloaa
open Go.RowKit
set_option linter.unusedVariables false
set_option linter.unusedSimpArgs false
def bestV (ok : Bool) (c : Int) (v : Value) : Value := .agg #[.bool ok, .int .i64 c, v]
def bestR : Acc → (Bool × Int) × List (List Int)
  | none => ((false, 0), [])
  | some (c, b) => ((true, c), b)
/-- The best plan of a line, if there is one. -/
def solveR (l : Line) : Acc := if right l = true then solveA l id else none
/-- What a solving answers. -/
def BestIs (lo : Nat) (acc : Acc) (e : Ending) (w' : World) : Prop := ∃ AP cP gr vs, e = .returned (bestV (bestR acc).1.1 (bestR acc).1.2 (.slice AP (bestR acc).2.length cP)) ∧ PRows w' lo (bestR acc).2 AP gr vs
theorem best_none {lo : Nat} {w' : World} {acc : Acc} (h : acc = none) : BestIs lo acc (.returned (bestV false 0 (.slice none 0 0))) w' := ⟨none, 0, lo, fun _ => .slice none 0 0, by subst h; rfl, by subst h; exact PRows.nil _ _⟩
theorem best_some {lo : Nat} {w' : World} {acc : Acc} {c : Int} {b : List (List Int)} {AP : Option Addr} {cP gr : Nat} {vs : Nat → Value} (h : acc = some (c, b)) (hP : PRows w' lo b AP gr vs) : BestIs lo acc (.returned (bestV true c (.slice AP b.length cP))) w' := ⟨AP, cP, gr, vs, by subst h; rfl, by subst h; exact hP⟩
theorem legsAll_ten {l : Line} (O : Ok l) : legsAll l ≤ 10 := by
  rw [legsAll_N]
  exact O.nlegs
theorem cells_chg {gs g : Nat} {w w' : World} (C : Chg (fun g => g = gs) w w') (hne : g ≠ gs) (hg : g < w.heap.size) : (∀ o, w'.cell? ⟨g, o, none⟩ = w.cell? ⟨g, o, none⟩) ∧ g < w'.heap.size :=
  ⟨fun o => World.cell?_of_block (a := ⟨g, o, none⟩) (C.block g hg hne), Nat.lt_of_lt_of_le hg C.size⟩
theorem cells3 {g : Nat} {w w' : World} {a b c : Option Value} (h : (∀ o, w'.cell? ⟨g, o, none⟩ = w.cell? ⟨g, o, none⟩) ∧ g < w'.heap.size) (h0 : w.cell? ⟨g, 0, none⟩ = a) (h1 : w.cell? ⟨g, 1, none⟩ = b) (h2 : w.cell? ⟨g, 2, none⟩ = c) : w'.cell? ⟨g, 0, none⟩ = a ∧ w'.cell? ⟨g, 1, none⟩ = b ∧ w'.cell? ⟨g, 2, none⟩ = c ∧ g < w'.heap.size :=
  ⟨(h.1 0).trans h0, (h.1 1).trans h1, (h.1 2).trans h2, h.2⟩
set_option maxRecDepth 100000 in
set_option maxHeartbeats 8000000 in
theorem spec_Solve_any {w : World} {l : Line} {u : Value} (hl : IsLine w l u) (hs : l.size ≤ 1048576) :
    Calls Try.prog 28 #[u] w fun e w' => BestIs w.heap.size (solveR l) e w' ∧ Ext w w' := by
  have HL := Lib.hid (fun (W : World) (e : Ext w W) => hl.ext e)
  obtain ⟨A0, c0, A2, c2, rfl, h0, h2⟩ := hl
  have hs0 := Lib.hid hs; clear hs
  by_cases hr : right l = true
  · have HR := Lib.hid hr
    have O := right_iff.1 hr
    have HO := Lib.hid O
    have n5 := O.bd.n5
    have hten := legsAll_ten O
    have hsol : Hid (solveR l = lookS l id (legsAll l) (List.replicate l.trains.length []) 0 none) := by unfold Hid solveR; rw [if_pos hr]; rfl
    clear hr O h0 h2
    go_enter Try.func28, Try.ntmps28
    go_wp2_with fail
    refine (l1ok_any (HL.out _ (by repeat (first | (with_reducible assumption) | (with_reducible exact Ext.refl _) | apply Ext.alloc | apply Ext.drewN | apply Ext.drew))) hs0.out).mono ?_
    rw [HR.out]
    rintro e w1 ⟨rfl, hE⟩
    have hS := (((Lp.nil w).newAt (g := w.heap.size) #[.slice A0 l.tracks.length c0, .int .i64 l.gap, .slice A2 l.trains.length c2] 33 rfl).newAt (g := w.heap.size + 1) #[.bool false, .int .i64 0, .slice none 0 0] 44 (by rw [alloc_size])).trans hE
    obtain ⟨k1, k2, k3, k4, k5, k6⟩ := hS.open2
    clear hE
    go_upto_region 4 with fail
    have hS1 := hS.newAt (g := w1.heap.size) #[.slice A0 l.tracks.length c0, .int .i64 l.gap, .slice A2 l.trains.length c2, .bool false, .int .i64 0, .slice none 0 0] 106 rfl
    generalize w1.alloc (.cells #[.slice A0 l.tracks.length c0, .int .i64 l.gap, .slice A2 l.trains.length c2, .bool false, .int .i64 0, .slice none 0 0] 106) = wa at hS1 ⊢
    have hws := k4
    have hw0 := hS.ext.size
    clear hS k1 k2 k3 k4 k5 k6
    obtain ⟨m1, m2, m3, m4, m5, m6, m7, m8⟩ := hS1.open3
    go_region_held3 (fun W => W.cell? ⟨w.heap.size, 0, none⟩ = some (.slice A0 l.tracks.length c0) ∧ W.cell? ⟨w.heap.size, 1, none⟩ = some (.int .i64 l.gap) ∧ W.cell? ⟨w.heap.size, 2, none⟩ = some (.slice A2 l.trains.length c2) ∧ w.heap.size < W.heap.size) (first | assumption | exact ⟨(hS1.drew.open3).2.2.2.2.2.2.1 0, (hS1.drew.open3).2.2.2.2.2.2.1 1, (hS1.drew.open3).2.2.2.2.2.2.1 2, (hS1.drew.open3).2.2.2.2.2.2.2⟩ | exact ⟨hT2.2.2.2.2.2.2.1 0, hT2.2.2.2.2.2.2.1 1, hT2.2.2.2.2.2.2.1 2, hT2.2.2.2.2.2.2.2⟩ | exact ⟨hT3.2.2.2.2.2.2.1 0, hT3.2.2.2.2.2.2.1 1, hT3.2.2.2.2.2.2.1 2, hT3.2.2.2.2.2.2.2⟩ | exact hT4) (first  | (go_at_call 85; have hX := hS1.drew; with_reducible refine (l2new_any (HL.out _ hX.ext) n5).mono ?_; rintro e w2 ⟨gp, AR, cR, gr, rfl, hP2, hE2⟩; have HP2 := Lib.hid hP2; clear hP2; have hL2 := hX.trans hE2; have hT2 := hL2.open3)  | (go_at_call 76; with_reducible refine (l1legs_any (HL.out _ hL2.ext) hs0.out).mono ?_; rw [← legsAll_N]; rintro e w3 ⟨rfl, hE3⟩; have hL3 := hL2.trans hE3; have hT3 := hL3.open3; have HP3 := Lib.hid (HP2.out.ext hE3))  | (go_at_call 84; have hbx3 := hL3.box (w1.heap.size, #[.slice A0 l.tracks.length c0, .int .i64 l.gap, .slice A2 l.trains.length c2, .bool false, .int .i64 0, .slice none 0 0], 106) (by simp); have hAc : AccIs w3 w1.heap.size l A0 c0 A2 c2 none := ⟨false, 0, none, 0, 0, hbx3, rfl⟩; have hlb : LB w1.heap.size w3 l A0 c0 A2 c2 := (fun W hW => HL.out _ (Below.trans hL3.ext (Below.mono hW hw0))); have hgB := hX.open3.2.2.2.1; refine (look_any HO.out (legsAll l) w3 _ _ 0 gp AR cR gr _ none HP3.out (Good.start l) (legsAll_eq l) hten (by omega) hgB hlb hAc).mono ?_; rintro e w4 ⟨⟨v4, rfl⟩, hA4, hC4⟩; have hk4 := cells_chg hC4 (g := w.heap.size) (by omega) hT3.2.2.2.2.2.2.2; have hT4 := cells3 hk4 (hT3.2.2.2.2.2.2.1 0) (hT3.2.2.2.2.2.2.1 1) (hT3.2.2.2.2.2.2.1 2)))
    all_goals (
      obtain ⟨acc, hacc⟩ : ∃ acc, Hid (lookS l id (legsAll l) (List.replicate l.trains.length []) 0 none = acc) := ⟨_, rfl⟩
      rw [hacc.out] at hA4
      have hres : Hid (solveR l = acc) := by unfold Hid; rw [hsol.out, hacc.out]
      have hgsl := hT3.2.2.2.1
      have hT := hL3.tail.below (lo := w1.heap.size) (hC4.below (fun g e => by subst e; exact Nat.le_refl _) (by omega)) hw0 (lt2 (by omega) (by omega))
      clear hT4 hk4 hT3 hL3 HP3 hT2 hL2 HP2 hC4 hS1 m1 m2 m3 m4 m5 m6 m7 m8
      obtain ⟨k1, k2, k3, k4, k5, k6⟩ := hT.open2
      have fr := box_frozen (hT.box (w.heap.size + 1, #[.bool false, .int .i64 0, .slice none 0 0], 44) (by simp))
      obtain ⟨has, c, AP, m, cP, hb4, hm⟩ := hA4
      have s3 := box_cell hb4 3
      have s4 := box_cell hb4 4
      have s5 := box_cell hb4 5
      have hgs := box_lt hb4
      clear hb4
      cases acc with
      | none =>
        obtain rfl := hm
        have hXf := fun (x y z : Value) => (hT.set3 (x := x) (y := y) (z := z) (by omega)).ext
        go_wp2_with fail
        exact bodyPost_ret (v := bestV false 0 (.slice none 0 0)) (by simp [results, Try.results28, go_sem, bestV, k1, k2, k3, k4, k5, k6, fr]) rfl ⟨best_none hres.out, hXf _ _ _⟩
      | some cb =>
        obtain ⟨c', b⟩ := cb
        obtain ⟨rfl, rfl, rfl, _, gr', vs', hPb⟩ := hm
        have HPB := Lib.hid hPb
        clear hPb
        have hXf := fun (x y z : Value) (n : Nat) => ((hT.drewN n).set3 (x := x) (y := y) (z := z) (by omega)).ext
        go_upto_region 7 with fail
        go_still_tail 9, (by kernel_rfl)
        go_wp2_with fail
        exact bodyPost_ret (v := bestV true c (.slice AP b.length cP)) (by simp [results, Try.results28, go_sem, bestV, k1, k2, k3, k4, k5, k6, fr]) rfl ⟨best_some hres.out ((((HPB.out.ext (Ext.refl _).drew).set_far (by omega) _ _).set_far (by omega) _ _).set_far (by omega) _ _ |>.mono (by omega)), hXf _ _ _ 1⟩)
  · have hrf : right l = false := by simpa using hr
    have HR := Lib.hid hrf
    have hsol : Hid (solveR l = none) := by unfold Hid solveR; rw [if_neg hr]
    clear hrf hr h0 h2
    go_enter Try.func28, Try.ntmps28
    go_wp2_with fail
    refine (l1ok_any (HL.out _ (by repeat (first | (with_reducible assumption) | (with_reducible exact Ext.refl _) | apply Ext.alloc | apply Ext.drewN | apply Ext.drew))) hs0.out).mono ?_
    rw [HR.out]
    rintro e w1 ⟨rfl, hE⟩
    have hS := (((Lp.nil w).newAt (g := w.heap.size) #[.slice A0 l.tracks.length c0, .int .i64 l.gap, .slice A2 l.trains.length c2] 33 rfl).newAt (g := w.heap.size + 1) #[.bool false, .int .i64 0, .slice none 0 0] 44 (by rw [alloc_size])).trans hE
    obtain ⟨k1, k2, k3, k4, k5, k6⟩ := hS.open2
    have fr := box_frozen (hS.box (w.heap.size + 1, #[.bool false, .int .i64 0, .slice none 0 0], 44) (by simp))
    have hXf := fun (x y z : Value) => (hS.set3 (x := x) (y := y) (z := z) (by omega)).ext
    go_wp2_with fail
    exact bodyPost_ret (v := bestV false 0 (.slice none 0 0)) (by simp [results, Try.results28, go_sem, bestV, k1, k2, k3, k4, k5, k6, fr]) rfl ⟨best_none hsol.out, hXf _ _ _⟩
end Go.Proofs.Ythhkbfjolmgloaa
namespace Go.Proofs.Ythhkbfjolmgloaa
open Go.RowKit
set_option linter.unusedVariables false
set_option linter.unusedSimpArgs false
set_option maxRecDepth 100000 in
set_option maxHeartbeats 8000000 in
theorem markBest_seq {w : World} {lo hi N : Nat} {a : Bool} {b : Int} {v0 : Value} {vs : Nat → Value} {ns la lb : Nat → Nat} (hh : Hdr w v0 N vs) (hr : Rows3 w N vs ns la lb) (ha : Apart N la lb) (hw : Within N la lb lo hi) (hN : N ≤ 1048576) (hs : cntN ns N ≤ 1000000) :
    Calls Try.prog 71 #[bestV a b v0, .int .i64 1] w fun e w' => e = .returned (.int .i64 (1 + cntN ns N)) ∧ Mk lo hi (fun t => t = 3) w w' ∧ Seqs w' N vs ns la lb 1 := by
  have HH := Lib.hid hh
  obtain ⟨A, c, rfl, h0⟩ := hh
  clear h0
  unfold bestV
  go_enter Try.func71, Try.ntmps71
  go_wp2_with fail
  refine (markPlan_seq (HH.out.ext (by repeat (first | (with_reducible assumption) | (with_reducible exact Ext.refl _) | apply Ext.alloc | apply Ext.drewN | apply Ext.drew))) (hr.ext (by repeat (first | (with_reducible assumption) | (with_reducible exact Ext.refl _) | apply Ext.alloc | apply Ext.drewN | apply Ext.drew))) ha hw hN hs).mono ?_
  rintro e w1 ⟨rfl, hM, hS⟩
  go_wp2_with fail
  go_ret
  exact ⟨rfl, (Mk.of_ext (by repeat (first | (with_reducible assumption) | (with_reducible exact Ext.refl _) | apply Ext.alloc | apply Ext.drewN | apply Ext.drew))).trans hM, hS⟩
set_option maxRecDepth 100000 in
set_option maxHeartbeats 8000000 in
theorem heldBest_seq {w : World} {N : Nat} {a : Bool} {b : Int} {v0 : Value} {vs : Nat → Value} {ns la lb : Nat → Nat} (hh : Hdr w v0 N vs) (hr : Seqs w N vs ns la lb 1) (hN : N ≤ 1048576) (hs : cntN ns N ≤ 1000000) :
    Calls Try.prog 72 #[bestV a b v0, .int .i64 1] w fun e w' => e = .returned (.int .i64 (1 + cntN ns N)) ∧ Ext w w' := by
  have HH := Lib.hid hh
  obtain ⟨A, c, rfl, h0⟩ := hh
  clear h0
  have hd : decide (1 + (cntN ns N : Int) < 0) = false := by simp; omega
  unfold bestV
  go_enter Try.func72, Try.ntmps72
  go_wp2_with fail
  refine (heldPlan_seq (HH.out.ext (by repeat (first | (with_reducible assumption) | (with_reducible exact Ext.refl _) | apply Ext.alloc | apply Ext.drewN | apply Ext.drew))) (hr.ext (by repeat (first | (with_reducible assumption) | (with_reducible exact Ext.refl _) | apply Ext.alloc | apply Ext.drewN | apply Ext.drew))) hN hs).mono ?_
  rintro e w1 ⟨rfl, hE⟩
  go_wp2_with fail
  go_ret
  exact ⟨rfl, Ext.trans (by repeat (first | (with_reducible assumption) | (with_reducible exact Ext.refl _) | apply Ext.alloc | apply Ext.drewN | apply Ext.drew)) hE⟩
set_option maxRecDepth 100000 in
set_option maxHeartbeats 8000000 in
theorem eqBest_same {w : World} {a : Bool} {b : Int} {p : List (List Int)} {A A' : Option Addr} {c c' : Nat} (hu : RdRows w A p) (hv : RdRows w A' p) (hn : p.length ≤ 1048576) (hl : ∀ (i : Nat) (t : List Int), p[i]? = some t → t.length ≤ 1048576) :
    Calls Try.prog 70 #[bestV a b (.slice A p.length c), bestV a b (.slice A' p.length c')] w fun e w' => e = .returned (.bool true) ∧ Ext w w' := by
  have HU : Hid (IsPlan w p (.agg #[.slice A p.length c])) := ⟨A, c, rfl, hu⟩
  have HV : Hid (IsPlan w p (.agg #[.slice A' p.length c'])) := ⟨A', c', rfl, hv⟩
  have HLL := Lib.hid hl
  have ha : (a != a) = false := by simp
  have hb : (b != b) = false := by simp
  clear hu hv hl
  unfold bestV
  go_enter Try.func70, Try.ntmps70
  go_wp2_with fail
  refine (eqPlan_same (HU.out.ext (by repeat (first | (with_reducible assumption) | (with_reducible exact Ext.refl _) | apply Ext.alloc | apply Ext.drewN | apply Ext.drew))) (HV.out.ext (by repeat (first | (with_reducible assumption) | (with_reducible exact Ext.refl _) | apply Ext.alloc | apply Ext.drewN | apply Ext.drew))) (by omega) (fun i t ht => by have := HLL.out i t ht; omega)).mono ?_
  rintro e w1 ⟨rfl, hE⟩
  go_wp2_with fail
  go_ret
  exact ⟨rfl, Ext.trans (by repeat (first | (with_reducible assumption) | (with_reducible exact Ext.refl _) | apply Ext.alloc | apply Ext.drewN | apply Ext.drew)) hE⟩
theorem solveR_small (l : Line) : (bestR (solveR l)).2.length ≤ 5 ∧ ∀ i, rl (bestR (solveR l)).2 i ≤ 10 := by
  have nil : ([] : List (List Int)).length ≤ 5 ∧ ∀ i, rl ([] : List (List Int)) i ≤ 10 := ⟨by simp, fun i => by simp [rl]⟩
  unfold solveR
  by_cases h : right l = true
  · rw [if_pos h]
    have O := right_iff.1 h
    have B := O.bd
    cases hs : solveA l id with
    | none => exact nil
    | some cb =>
      obtain ⟨c, b⟩ := cb
      obtain ⟨C, _, _⟩ := solve_some O O.sum10 (fl := id) (fun x _ => Int.le_refl x) hs
      refine ⟨by simp only [bestR]; rw [C.fits.rows]; exact B.n5, fun i => ?_⟩
      simp only [bestR]
      by_cases hi : i < l.trains.length
      · have e : rl b i = (l.tr i).legs.length := C.fits.row hi
        rw [e]; exact (B.nl1 i hi).2
      · unfold rl
        rw [List.getD_eq_getElem?_getD, List.getElem?_eq_none (by rw [C.fits.rows]; omega)]
        simp
  · rw [if_neg h]; exact nil
end Go.Proofs.Ythhkbfjolmgloaa
