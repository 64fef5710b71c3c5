/- laws.mark*: numbers are written over memory of the call's own; what else there is stays. Condition: the rows hold at most 2^20 values, the number is at most 2^40. -/
import Derived.Test.YthhkbfjolmgloaaPlans
namespace Go.Proofs.Ythhkbfjolmgloaa
open Go.RowKit
set_option linter.unusedVariables false
set_option linter.unusedSimpArgs false
/-- Rows of cells from block lo up to hi may hold other cells; all else is as it was. -/
structure Mk (lo hi : Nat) (T : TypeId → Prop) (w w' : World) : Prop where
  os : w'.os = w.os
  tape : w'.tape = w.tape
  output : w'.output = w.output
  size : w.heap.size ≤ w'.heap.size
  block : ∀ (g : Nat) (o : Obj), w.heap[g]? = some o → w'.heap[g]? = some o ∨ (lo ≤ g ∧ g < hi ∧ ∃ (cs cs' : Array Value) (t : TypeId), T t ∧ o = .cells cs t (0, 0) ∧ w'.heap[g]? = some (.cells cs' t (0, 0)) ∧ cs'.size = cs.size)
section
variable {lo hi : Nat} {T T' : TypeId → Prop} {w w' w'' : World}
theorem Mk.refl (lo hi : Nat) (T : TypeId → Prop) (w : World) : Mk lo hi T w w := ⟨rfl, rfl, rfl, Nat.le_refl _, fun _ _ h => Or.inl h⟩
theorem Mk.trans (h : Mk lo hi T w w') (k : Mk lo hi T w' w'') : Mk lo hi T w w'' := by
  refine ⟨k.os.trans h.os, k.tape.trans h.tape, k.output.trans h.output, Nat.le_trans h.size k.size, fun g o hg => ?_⟩
  rcases h.block g o hg with h1 | ⟨a1, a2, cs, cs', t, a3, a4, a5, a6⟩
  · exact k.block g o h1
  · rcases k.block g _ a5 with h2 | ⟨_, _, ds, ds', t', b3, b4, b5, b6⟩
    · exact Or.inr ⟨a1, a2, cs, cs', t, a3, a4, h2, a6⟩
    · simp only [Obj.cells.injEq] at b4
      obtain ⟨rfl, rfl, _⟩ := b4
      exact Or.inr ⟨a1, a2, cs, ds', t, a3, a4, b5, b6.trans a6⟩
theorem Mk.mono (h : Mk lo hi T w w') (hT : ∀ t, T t → T' t) : Mk lo hi T' w w' := ⟨h.os, h.tape, h.output, h.size, fun g o hg => by
  rcases h.block g o hg with h1 | ⟨a1, a2, cs, cs', t, a3, a4, a5, a6⟩
  · exact Or.inl h1
  · exact Or.inr ⟨a1, a2, cs, cs', t, hT t a3, a4, a5, a6⟩⟩
theorem Mk.wide {lo' hi' : Nat} (h : Mk lo hi T w w') (h1 : lo' ≤ lo) (h2 : hi ≤ hi') : Mk lo' hi' T w w' := ⟨h.os, h.tape, h.output, h.size, fun g o hg => by
  rcases h.block g o hg with h1 | ⟨a1, a2, cs, cs', t, a3, a4, a5, a6⟩
  · exact Or.inl h1
  · exact Or.inr ⟨by omega, by omega, cs, cs', t, a3, a4, a5, a6⟩⟩
theorem Mk.of_ext (h : Ext w w') : Mk lo hi T w w' := ⟨h.os, h.tape, h.output, h.size, fun _ _ hg => Or.inl (h.box hg)⟩
theorem Mk.far (h : Mk lo hi T w w') {g : Nat} {o : Obj} (hg : w.heap[g]? = some o) (hf : g < lo ∨ hi ≤ g) : w'.heap[g]? = some o := by
  rcases h.block g o hg with h1 | ⟨a1, a2, _⟩
  · exact h1
  · omega
theorem Mk.other (h : Mk lo hi T w w') {g : Nat} {cs : Array Value} {t : TypeId} {f : Nat × Nat} (hg : w.heap[g]? = some (.cells cs t f)) (hf : ¬ T t) : w'.heap[g]? = some (.cells cs t f) := by
  rcases h.block g _ hg with h1 | ⟨_, _, ds, ds', t', b3, b4, _⟩
  · exact h1
  · simp only [Obj.cells.injEq] at b4
    obtain ⟨_, rfl, _⟩ := b4
    exact absurd b3 hf
theorem Mk.row (h : Mk lo hi T w w') {g : Nat} {cs : Array Value} {t : TypeId} (hg : w.heap[g]? = some (.cells cs t (0, 0))) : ∃ cs', w'.heap[g]? = some (.cells cs' t (0, 0)) ∧ cs'.size = cs.size := by
  rcases h.block g _ hg with h1 | ⟨_, _, ds, ds', t', b3, b4, b5, b6⟩
  · exact ⟨cs, h1, rfl⟩
  · simp only [Obj.cells.injEq] at b4
    obtain ⟨rfl, rfl, _⟩ := b4
    exact ⟨ds', b5, b6⟩
theorem Mk.below (h : Mk lo hi T w w') {B : Nat} (hB : B ≤ lo) (hw : B ≤ w.heap.size) : Below B w w' := ⟨h.os, h.tape, h.output, h.size, fun g hg => by
  have hgw : g < w.heap.size := by omega
  rw [Array.getElem?_eq_getElem hgw]
  exact h.far (Array.getElem?_eq_getElem hgw) (Or.inl (by omega))⟩
theorem Mk.setCell {g : Nat} {cs : Array Value} {t : TypeId} (hg : w.heap[g]? = some (.cells cs t (0, 0))) (h1 : lo ≤ g) (h2 : g < hi) (hT : T t) (j : Nat) (u : Value) : Mk lo hi T w (w.setCell ⟨g, j, none⟩ u) := by
  refine ⟨rfl, rfl, rfl, by simp [World.setCell], fun g' o hg' => ?_⟩
  by_cases e : g' = g
  · subst e
    rw [hg] at hg'
    obtain rfl : _ = o := by simpa using hg'
    exact Or.inr ⟨h1, h2, cs, _, t, hT, rfl, box_set hg j u, by simp⟩
  · exact Or.inl ((Below.heap_setCell w ⟨g, j, none⟩ u g' e).trans hg')
end
/-- A row of n elements of so many cells each, of the call's own. -/
def MRow (lo hi : Nat) (w : World) (t : TypeId) (v : Value) (n size : Nat) : Prop := n = 0 ∧ (∃ A c, v = .slice A 0 c) ∨ ∃ g c cs, v = .slice (some ⟨g, 0, none⟩) n c ∧ lo ≤ g ∧ g < hi ∧ w.heap[g]? = some (.cells cs t (0, 0)) ∧ n * size ≤ cs.size
theorem MRow.form {lo hi : Nat} {w : World} {t : TypeId} {v : Value} {n size : Nat} (h : MRow lo hi w t v n size) : ∃ A c, v = .slice A n c := by
  rcases h with ⟨rfl, A, c, rfl⟩ | ⟨g, c, cs, rfl, _⟩
  · exact ⟨A, c, rfl⟩
  · exact ⟨_, _, rfl⟩
theorem MRow.mk {lo hi lo' hi' : Nat} {T : TypeId → Prop} {w w' : World} {t : TypeId} {v : Value} {n size : Nat} (h : MRow lo hi w t v n size) (k : Mk lo' hi' T w w') : MRow lo hi w' t v n size := by
  rcases h with h | ⟨g, c, cs, h1, h2, h3, h4, h5⟩
  · exact Or.inl h
  · obtain ⟨cs', q1, q2⟩ := k.row h4
    exact Or.inr ⟨g, c, cs', h1, h2, h3, q1, by omega⟩
theorem MRow.ext {lo hi : Nat} {w w' : World} {t : TypeId} {v : Value} {n size : Nat} (h : MRow lo hi w t v n size) (e : Ext w w') : MRow lo hi w' t v n size := h.mk (Mk.of_ext (lo := lo) (hi := hi) (T := fun _ => False) e)
theorem cell_of_lt {w : World} {g : Nat} {cs : Array Value} {t : TypeId} {f : Nat × Nat} (h : w.heap[g]? = some (.cells cs t f)) {j : Nat} (hj : j < cs.size) : ∃ x, w.cell? ⟨g, j, none⟩ = some x := ⟨cs[j], by rw [box_cell h]; exact Array.getElem?_eq_getElem hj⟩
set_option maxRecDepth 100000 in
set_option maxHeartbeats 8000000 in
theorem markIntS_any {w : World} {lo hi : Nat} {v : Value} {n : Nat} (hv : MRow lo hi w 3 v n 1) (hn : n ≤ 1048576) (k : Int) (hk0 : 0 ≤ k) (hk1 : k ≤ 1152921504606846976) :
    Calls Try.prog 56 #[v, .int .i64 k] w fun e w' => e = .returned (.int .i64 (k + n)) ∧ Mk lo hi (fun t => t = 3) w w' := by
  obtain ⟨A, c, rfl⟩ := hv.form
  have HV := Lib.hid hv; clear hv
  go_enter Try.func56, Try.ntmps56
  go_wp2_with fail
  go_loopw [1, 5] (fun a j wr => ∃ (jj : Nat), jj ≤ n ∧ j = .int .i64 jj ∧ a = .int .i64 (k + jj) ∧ Mk lo hi (fun t => t = 3) w wr) (fun _ j _ => n - (intOf j).toNat)
  case atStart => exact ⟨0, Nat.zero_le _, rfl, by simp, Mk.refl _ _ _ _⟩
  case round =>
    obtain ⟨jj, hjj, rfl, rfl, hM⟩ := hrel
    by_cases hlt : jj < n
    · rcases HV.out.mk hM with ⟨h0, _⟩ | ⟨g, c', cs, h1, h2, h3, h4, h5⟩
      · omega
      · simp only [Value.slice.injEq] at h1
        obtain ⟨rfl, _, rfl⟩ := h1
        obtain ⟨x, hx⟩ := cell_of_lt h4 (j := jj) (by omega)
        have fr := box_frozen h4
        have hlt2 := box_lt h4
        have hM2 := Lib.hid (hM.trans (Mk.setCell h4 h2 h3 (T := fun t => t = 3) rfl jj (.int .i64 (k + jj))))
        clear hM
        go_wp2_with fail
        exact ⟨⟨jj + 1, by omega, by go_num, by simp only [Value.int.injEq, true_and]; omega, hM2.out⟩, (by simp [intOf]; omega)⟩
    · obtain rfl : jj = n := by omega
      go_wp2_with fail
      go_ret
      exact ⟨rfl, hM⟩
set_option maxRecDepth 100000 in
set_option maxHeartbeats 8000000 in
theorem markLegS_any {w : World} {lo hi : Nat} {v : Value} {n : Nat} (hv : MRow lo hi w 84 v n 3) (hn : n ≤ 1048576) (k : Int) (hk0 : 0 ≤ k) (hk1 : k ≤ 1152921504606846976) :
    Calls Try.prog 134 #[v, .int .i64 k] w fun e w' => e = .returned (.int .i64 (k + 3 * n)) ∧ Mk lo hi (fun t => t = 84) w w' := by
  obtain ⟨A, c, rfl⟩ := hv.form
  have HV := Lib.hid hv; clear hv
  go_enter Try.func134, Try.ntmps134
  go_wp2_with fail
  go_loopw [1, 5] (fun a j wr => ∃ (jj : Nat), jj ≤ n ∧ j = .int .i64 jj ∧ a = .int .i64 (k + 3 * jj) ∧ Mk lo hi (fun t => t = 84) w wr) (fun _ j _ => n - (intOf j).toNat)
  case atStart => exact ⟨0, Nat.zero_le _, rfl, by simp, Mk.refl _ _ _ _⟩
  case round =>
    obtain ⟨jj, hjj, rfl, rfl, hM⟩ := hrel
    by_cases hlt : jj < n
    · rcases HV.out.mk hM with ⟨h0, _⟩ | ⟨g, c', cs, h1, h2, h3, h4, h5⟩
      · omega
      · simp only [Value.slice.injEq] at h1
        obtain ⟨rfl, _, rfl⟩ := h1
        obtain ⟨x0, hx0⟩ := cell_of_lt h4 (j := jj * 3) (by omega)
        obtain ⟨x1, hx1⟩ := cell_of_lt h4 (j := jj * 3 + 1) (by omega)
        obtain ⟨x2, hx2⟩ := cell_of_lt h4 (j := jj * 3 + 2) (by omega)
        have fr := box_frozen h4
        have hlt2 := box_lt h4
        have q0 := box_set h4 (jj * 3) (.int .i64 (k + 3 * jj))
        have q1 := box_set q0 (jj * 3 + 1) (.int .i64 (k + 3 * jj + 1))
        have hM2 := Lib.hid (((hM.trans (Mk.setCell h4 h2 h3 (T := fun t => t = 84) rfl (jj * 3) (.int .i64 (k + 3 * jj)))).trans (Mk.setCell q0 h2 h3 (T := fun t => t = 84) rfl (jj * 3 + 1) (.int .i64 (k + 3 * jj + 1)))).trans (Mk.setCell q1 h2 h3 (T := fun t => t = 84) rfl (jj * 3 + 2) (.int .i64 (k + 3 * jj + 1 + 1))))
        clear hM q0 q1
        go_wp2_with fail
        exact ⟨⟨jj + 1, by omega, by go_num, by simp only [Value.int.injEq, true_and]; omega, hM2.out⟩, (by simp [intOf]; omega)⟩
    · obtain rfl : jj = n := by omega
      go_wp2_with fail
      go_ret
      exact ⟨rfl, hM⟩
/-- Trains of the call's own, with so many legs each. -/
def MTrains (lo hi : Nat) (w : World) (v : Value) (ns : List Nat) : Prop := ns = [] ∧ (∃ A c, v = .slice A 0 c) ∨ ∃ g c cs, v = .slice (some ⟨g, 0, none⟩) ns.length c ∧ lo ≤ g ∧ g < hi ∧ w.heap[g]? = some (.cells cs 80 (0, 0)) ∧ ns.length * 5 ≤ cs.size ∧ ∀ (j m : Nat), ns[j]? = some m → ∃ u, cs[j * 5 + 4]? = some u ∧ MRow lo hi w 84 u m 3
theorem MTrains.form {lo hi : Nat} {w : World} {v : Value} {ns : List Nat} (h : MTrains lo hi w v ns) : ∃ A c, v = .slice A ns.length c := by
  rcases h with ⟨rfl, A, c, rfl⟩ | ⟨g, c, cs, rfl, _⟩
  · exact ⟨A, c, rfl⟩
  · exact ⟨_, _, rfl⟩
set_option maxRecDepth 100000 in
set_option maxHeartbeats 8000000 in
theorem markTrainS_any {w : World} {lo hi : Nat} {v : Value} {ns : List Nat} (hv : MTrains lo hi w v ns) (hn : ns.length ≤ 1048576) (hm : ∀ (j m : Nat), ns[j]? = some m → m ≤ 1048576) (k : Int) (hk0 : 0 ≤ k) (hk1 : k ≤ 1099511627776) :
    Calls Try.prog 115 #[v, .int .i64 k] w fun e w' => ∃ k', e = .returned (.int .i64 k') ∧ 0 ≤ k' ∧ k' ≤ k + 4194304 * ns.length ∧ Mk lo hi (fun t => t = 80 ∨ t = 84) w w' := by
  rcases hv with ⟨rfl, A, c, rfl⟩ | ⟨g, c, cs, rfl, hg1, hg2, hg, hsz, hrow⟩
  · go_enter Try.func115, Try.ntmps115
    go_wp2_with fail
    go_loopw [1, 5] (fun a j wr => j = .int .i64 0 ∧ a = .int .i64 k ∧ wr = w) (fun _ _ _ => 0)
    case atStart => exact ⟨rfl, rfl, rfl⟩
    case round =>
      obtain ⟨rfl, rfl, rfl⟩ := hrel
      go_wp2_with fail
      go_ret
      exact ⟨k, rfl, hk0, by simp, Mk.refl _ _ _ _⟩
  · have HR := Lib.hid hrow; clear hrow
    have HM := Lib.hid hm; clear hm
    go_enter Try.func115, Try.ntmps115
    go_wp2_with fail
    go_loopw [1, 5] (fun a j wr => ∃ (jj : Nat) (q : Int), jj ≤ ns.length ∧ j = .int .i64 jj ∧ a = .int .i64 q ∧ 0 ≤ q ∧ q ≤ k + 4194304 * jj ∧ Mk lo hi (fun t => t = 80 ∨ t = 84) w wr ∧ ∃ cs' : Array Value, wr.heap[g]? = some (.cells cs' 80 (0, 0)) ∧ cs'.size = cs.size ∧ Hid (∀ j, j < ns.length → cs'[j * 5 + 4]? = cs[j * 5 + 4]?)) (fun _ j _ => ns.length - (intOf j).toNat)
    case atStart => exact ⟨0, k, Nat.zero_le _, rfl, rfl, hk0, by simp, Mk.refl _ _ _ _, cs, hg, rfl, fun _ _ => rfl⟩
    case round =>
      obtain ⟨jj, q, hjj, rfl, rfl, hq0, hq1, hM, cs', h4, h5, H6⟩ := hrel
      by_cases hlt : jj < ns.length
      · obtain ⟨m, hm⟩ := hid_of_lt hlt
        have hm2 := HM.out jj m hm.out
        obtain ⟨u, hu, hU⟩ := HR.out jj m hm.out
        rw [← H6.out jj hlt] at hu
        have hu' := (box_cell h4 (jj * 5 + 4)).trans hu
        obtain ⟨A4, c4, rfl⟩ := hU.form
        obtain ⟨x0, hx0⟩ := cell_of_lt h4 (j := jj * 5) (by omega)
        obtain ⟨x1, hx1⟩ := cell_of_lt h4 (j := jj * 5 + 1) (by omega)
        obtain ⟨x2, hx2⟩ := cell_of_lt h4 (j := jj * 5 + 2) (by omega)
        obtain ⟨x3, hx3⟩ := cell_of_lt h4 (j := jj * 5 + 3) (by omega)
        have fr := box_frozen h4
        have hlt2 := box_lt h4
        have q0 := box_set h4 (jj * 5) (.int .i64 q)
        have q1 := box_set q0 (jj * 5 + 1) (.int .i64 (q + 1))
        have q2 := box_set q1 (jj * 5 + 2) (.int .i64 (q + 1 + 1))
        have q3 := Lib.hid (box_set q2 (jj * 5 + 3) (.int .i64 (q + 1 + 1 + 1)))
        have hT : (fun t : TypeId => t = 80 ∨ t = 84) 80 := Or.inl rfl
        have hM2 := Lib.hid ((((hM.trans (Mk.setCell h4 hg1 hg2 (T := fun t => t = 80 ∨ t = 84) hT (jj * 5) (.int .i64 q))).trans (Mk.setCell q0 hg1 hg2 (T := fun t => t = 80 ∨ t = 84) hT (jj * 5 + 1) (.int .i64 (q + 1)))).trans (Mk.setCell q1 hg1 hg2 (T := fun t => t = 80 ∨ t = 84) hT (jj * 5 + 2) (.int .i64 (q + 1 + 1)))).trans (Mk.setCell q2 hg1 hg2 (T := fun t => t = 80 ∨ t = 84) hT (jj * 5 + 3) (.int .i64 (q + 1 + 1 + 1))))
        have HU := Lib.hid hU; clear hU
        clear hM q0 q1 q2 hu
        go_wp2_with fail
        refine (markLegS_any (HU.out.mk hM2.out) hm2 _ (by omega) (by omega)).mono ?_
        rintro e w5 ⟨rfl, hM5⟩
        have r5 := hM5.other q3.out (by decide)
        have hM6 := Lib.hid (hM2.out.trans (hM5.mono (fun t ht => Or.inr ht)))
        go_wp2_with fail
        refine ⟨⟨jj + 1, q + 1 + 1 + 1 + 1 + 3 * m, by omega, by go_num, rfl, by omega, by omega, hM6.out, _, r5, by simp [h5], fun j hj => ?_⟩, (by simp [intOf]; omega)⟩
        rw [Array.getElem?_setIfInBounds_ne (by omega), Array.getElem?_setIfInBounds_ne (by omega), Array.getElem?_setIfInBounds_ne (by omega), Array.getElem?_setIfInBounds_ne (by omega)]
        exact H6.out j hj
      · obtain rfl : jj = ns.length := by omega
        go_wp2_with fail
        go_ret
        exact ⟨q, rfl, hq0, hq1, hM⟩
end Go.Proofs.Ythhkbfjolmgloaa
