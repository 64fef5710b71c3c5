/- The closures of impl.Check: each answers its clash at a leg. Condition: the line is right, the plan fits. -/
import Derived.Test.YthhkbfjolmgloaaEach
import Derived.Deep.DeepCutAuto
namespace Go.Proofs.Ythhkbfjolmgloaa
open Go.RowKit
set_option linter.unusedVariables false
set_option linter.unusedSimpArgs false
set_option maxRecDepth 100000 in
set_option maxHeartbeats 1000000 in
theorem c94_any {w : World} {l : Line} {p : List (List Int)} {A0 A2 A3 : Option Addr} {c0 c2 c3 gl gp : Nat} (hl : IsLine w l (.agg #[.slice A0 l.tracks.length c0, .int .i64 l.gap, .slice A2 l.trains.length c2])) (hp : IsPlan w p (.agg #[.slice A3 p.length c3])) (O : Ok l) (F : Fits l p) (bx1 : w.heap[gl]? = some (.cells #[.slice A0 l.tracks.length c0, .int .i64 l.gap, .slice A2 l.trains.length c2] 33 (0, 0))) (bx2 : w.heap[gp]? = some (.cells #[.slice A3 p.length c3] 42 (0, 0))) {i k : Nat} (hi : i < l.trains.length) (hk : k < (l.tr i).legs.length) :
    Calls Try.prog 94 #[.int .i64 i, .int .i64 k, .pointer (some ⟨gl, 0, none⟩), .pointer (some ⟨gp, 0, none⟩)] w fun e w' => e = .returned (clV (cl2 l p i k)) ∧ Ext w w' := by
  obtain ⟨A0', c0', A2', c2', hq, h0, h2⟩ := hl
  simp only [Value.agg.injEq, Array.mk.injEq, List.cons.injEq, Value.slice.injEq, and_true, true_and] at hq
  obtain ⟨⟨rfl, rfl⟩, rfl, rfl⟩ := hq
  obtain ⟨A3', c3', hq, h3⟩ := hp
  simp only [Value.agg.injEq, Array.mk.injEq, List.cons.injEq, Value.slice.injEq, and_true, true_and] at hq
  obtain ⟨rfl, rfl⟩ := hq
  obtain ⟨b0, o0, b2, o2, bl, ol, cl, SL⟩ := seeL O h0 h2
  obtain ⟨b3, o3, br, or', cr, SP⟩ := seeP O F h3
  clear h0 h2 h3
  have B := O.bd
  obtain ⟨rfl, hb2⟩ := SL.base2 (by omega)
  obtain ⟨rfl, hb3⟩ := SP.base (by omega)
  obtain ⟨e0, e1, e2, e3, e4, hbl⟩ := SL.train i hi
  obtain ⟨r0, hbr⟩ := SP.row i hi
  obtain ⟨f0, f1, f2⟩ := SL.leg i k hi hk
  have s0 := SP.st i k hi hk
  obtain ⟨_, _, x1, x2, x3, x4⟩ := B.leg i k hi hk
  obtain ⟨z1, z2⟩ := F.bd hi hk
  have n10 := B.nl1 i hi
  have n5 := B.n5
  have t0 := B.tr i hi
  have p5 : p.length = l.trains.length := F.rows
  rw [p5] at bx2
  have g2 : w.cell? ⟨gl, 2, none⟩ = _ := box_cell bx1 2
  have g3 : w.cell? ⟨gp, 0, none⟩ = _ := box_cell bx2 0
  have hgl := box_lt bx1
  have hgp := box_lt bx2
  have d1 : bl i < w.heap.size + 1 := by omega
  have d3 : br i < w.heap.size + 1 := by omega
  have d5 : b3 < w.heap.size + 1 := by omega
  have d7 : gp < w.heap.size + 1 := by omega
  have d8 : gl < w.heap.size + 1 := by omega
  have d9 : b2 < w.heap.size + 1 := by omega
  clear bx1 bx2
  cases k with
  | zero =>
    have hA : Hid (readyT l p i 0 = (l.tr i).ready + (l.leg i 0).stay) := rfl
    simp only [Nat.zero_mul, Nat.add_zero] at f0 f1 f2 s0
    clear SL SP F O B
    by_cases he : st p i 0 < (l.tr i).ready + (l.leg i 0).stay
    · have hV : Hid (cl2 l p i 0 = ((2, (i : Int), 0, 0) : Cl)) := by simp [Hid, cl2, early, hA.out, he]
      go_enter Try.func94, Try.ntmps94
      go_wp2_with fail
      go_quiet (fail)
      go_wp2_with fail
      exact bodyPost_ret (v := clV (2, i, 0, 0)) (by simp [results, Try.results94, go_sem, clV]) rfl ⟨by rw [hV.out], (by repeat (first | (with_reducible exact hS.ext) | (with_reducible assumption) | (with_reducible exact Ext.refl _) | with_reducible apply Ext.alloc | with_reducible apply Ext.drewN | with_reducible apply Ext.drew | with_reducible refine Ext.setCell ?_ (by simp only []; omega) _))⟩
    · have hV : Hid (cl2 l p i 0 = (0, 0, 0, 0)) := by simp [Hid, cl2, early, hA.out, he]
      go_enter Try.func94, Try.ntmps94
      go_wp2_with fail
      go_quiet (fail)
      go_wp2_with fail
      exact bodyPost_ret (v := clV (0, 0, 0, 0)) (by simp [results, Try.results94, go_sem, clV]) rfl ⟨by rw [hV.out], (by repeat (first | (with_reducible exact hS.ext) | (with_reducible assumption) | (with_reducible exact Ext.refl _) | with_reducible apply Ext.alloc | with_reducible apply Ext.drewN | with_reducible apply Ext.drew | with_reducible refine Ext.setCell ?_ (by simp only []; omega) _))⟩
  | succ k =>
    have hA : Hid (readyT l p i (k + 1) = st p i k + (l.leg i k).run + (l.leg i (k + 1)).stay) := by simp [Hid, readyT]
    have hk1 : k < (l.tr i).legs.length := by omega
    obtain ⟨q0, q1, q2⟩ := SL.leg i k hi hk1
    have s1 := SP.st i k hi hk1
    obtain ⟨_, _, y1, y2, y3, y4⟩ := B.leg i k hi hk1
    obtain ⟨z3, z4⟩ := F.bd hi hk1
    clear SL SP F O B
    by_cases he : st p i (k + 1) < st p i k + (l.leg i k).run + (l.leg i (k + 1)).stay
    · have hV : Hid (cl2 l p i (k + 1) = ((2, (i : Int), ((k + 1 : Nat) : Int), 0) : Cl)) := by simp [Hid, cl2, early, hA.out, he]
      go_enter Try.func94, Try.ntmps94
      go_wp2_with fail
      go_quiet (fail)
      go_wp2_with fail
      go_quiet (fail)
      go_wp2_with fail
      exact bodyPost_ret (v := clV (2, i, (k + 1 : Nat), 0)) (by simp [results, Try.results94, go_sem, clV]) rfl ⟨by rw [hV.out], (by repeat (first | (with_reducible exact hS.ext) | (with_reducible assumption) | (with_reducible exact Ext.refl _) | with_reducible apply Ext.alloc | with_reducible apply Ext.drewN | with_reducible apply Ext.drew | with_reducible refine Ext.setCell ?_ (by simp only []; omega) _))⟩
    · have hV : Hid (cl2 l p i (k + 1) = (0, 0, 0, 0)) := by simp [Hid, cl2, early, hA.out, he]
      go_enter Try.func94, Try.ntmps94
      go_wp2_with fail
      go_quiet (fail)
      go_wp2_with fail
      go_quiet (fail)
      go_wp2_with fail
      exact bodyPost_ret (v := clV (0, 0, 0, 0)) (by simp [results, Try.results94, go_sem, clV]) rfl ⟨by rw [hV.out], (by repeat (first | (with_reducible exact hS.ext) | (with_reducible assumption) | (with_reducible exact Ext.refl _) | with_reducible apply Ext.alloc | with_reducible apply Ext.drewN | with_reducible apply Ext.drew | with_reducible refine Ext.setCell ?_ (by simp only []; omega) _))⟩
end Go.Proofs.Ythhkbfjolmgloaa
