/- laws.mark*, held* over a result: the numbers written are found again. Condition: the row holds at most 2^20 values. -/
import Derived.Test.YthhkbfjolmgloaaMark
namespace Go.Proofs.Ythhkbfjolmgloaa
open Go.RowKit
set_option linter.unusedVariables false
set_option linter.unusedSimpArgs false
/-- A row of n elements of so many cells each that holds k, k + 1 .. -/
def MSeq (lo hi : Nat) (w : World) (t : TypeId) (v : Value) (n size : Nat) (k : Int) : Prop := n = 0 ∧ (∃ A c, v = .slice A 0 c) ∨ ∃ g c cs, v = .slice (some ⟨g, 0, none⟩) n c ∧ lo ≤ g ∧ g < hi ∧ w.heap[g]? = some (.cells cs t (0, 0)) ∧ n * size ≤ cs.size ∧ ∀ j, j < n * size → cs[j]? = some (.int .i64 (k + j))
theorem MSeq.form {lo hi : Nat} {w : World} {t : TypeId} {v : Value} {n size : Nat} {k : Int} (h : MSeq lo hi w t v n size k) : ∃ A c, v = .slice A n c := by
  rcases h with ⟨rfl, A, c, rfl⟩ | ⟨g, c, cs, rfl, _⟩
  · exact ⟨A, c, rfl⟩
  · exact ⟨_, _, rfl⟩
theorem MSeq.box {lo hi : Nat} {w w' : World} {t : TypeId} {v : Value} {n size : Nat} {k : Int} (h : MSeq lo hi w t v n size k) (e : ∀ (g : Nat) (o : Obj), lo ≤ g → g < hi → w.heap[g]? = some o → w'.heap[g]? = some o) : MSeq lo hi w' t v n size k := by
  rcases h with h | ⟨g, c, cs, h1, h2, h3, h4, h5⟩
  · exact Or.inl h
  · exact Or.inr ⟨g, c, cs, h1, h2, h3, e g _ h2 h3 h4, h5⟩
theorem MSeq.ext {lo hi : Nat} {w w' : World} {t : TypeId} {v : Value} {n size : Nat} {k : Int} (h : MSeq lo hi w t v n size k) (e : Ext w w') : MSeq lo hi w' t v n size k := h.box fun g o _ _ hg => e.box hg
set_option maxRecDepth 100000 in
set_option maxHeartbeats 8000000 in
theorem markInts_seq {w : World} {lo hi : Nat} {v : Value} {n : Nat} (hv : MRow lo hi w 3 v n 1) (hn : n ≤ 1048576) (k : Int) (hk0 : 0 ≤ k) (hk1 : k ≤ 1048576) :
    Calls Try.prog 56 #[v, .int .i64 k] w fun e w' => e = .returned (.int .i64 (k + n)) ∧ Mk lo hi (fun t => t = 3) w w' ∧ MSeq lo hi w' 3 v n 1 k := by
  rcases hv with ⟨rfl, A, c, rfl⟩ | ⟨g, c, cs, rfl, h2, h3, h4, h5⟩
  · go_enter Try.func56, Try.ntmps56
    go_wp2_with fail
    go_loopw [1, 5] (fun a j wr => j = .int .i64 0 ∧ a = .int .i64 k ∧ wr = w) (fun _ _ _ => 0)
    case atStart => exact ⟨rfl, rfl, rfl⟩
    case round =>
      obtain ⟨rfl, rfl, rfl⟩ := hrel
      go_wp2_with fail
      go_ret
      exact ⟨by simp, Mk.refl _ _ _ _, Or.inl ⟨rfl, A, c, rfl⟩⟩
  · go_enter Try.func56, Try.ntmps56
    go_wp2_with fail
    go_loopw [1, 5] (fun a j wr => ∃ (jj : Nat), jj ≤ n ∧ j = .int .i64 jj ∧ a = .int .i64 (k + jj) ∧ Mk lo hi (fun t => t = 3) w wr ∧ ∃ cs' : Array Value, wr.heap[g]? = some (.cells cs' 3 (0, 0)) ∧ cs'.size = cs.size ∧ Hid (∀ j, j < jj → cs'[j]? = some (.int .i64 (k + j)))) (fun _ j _ => n - (intOf j).toNat)
    case atStart => exact ⟨0, Nat.zero_le _, rfl, by simp, Mk.refl _ _ _ _, cs, h4, rfl, fun j hj => by omega⟩
    case round =>
      obtain ⟨jj, hjj, rfl, rfl, hM, cs', q4, q5, HC⟩ := hrel
      by_cases hlt : jj < n
      · obtain ⟨x, hx⟩ := cell_of_lt q4 (j := jj) (by omega)
        have fr := box_frozen q4
        have hlt2 := box_lt q4
        have hM2 := Lib.hid (hM.trans (Mk.setCell q4 h2 h3 (T := fun t => t = 3) rfl jj (.int .i64 (k + jj))))
        have q6 := Lib.hid (box_set q4 jj (.int .i64 (k + jj)))
        clear hM
        go_wp2_with fail
        refine ⟨⟨jj + 1, by omega, by go_num, by simp only [Value.int.injEq, true_and]; omega, hM2.out, _, q6.out, by simp [q5], fun j hj => ?_⟩, (by simp [intOf]; omega)⟩
        by_cases e : j = jj
        · subst e; rw [Array.getElem?_setIfInBounds_self_of_lt (by omega)]
        · rw [Array.getElem?_setIfInBounds_ne (by omega)]; exact HC.out j (by omega)
      · obtain rfl : jj = n := by omega
        go_wp2_with fail
        go_ret
        exact ⟨rfl, hM, Or.inr ⟨g, c, cs', rfl, h2, h3, q4, by omega, fun j hj => HC.out j (by omega)⟩⟩
set_option maxRecDepth 100000 in
set_option maxHeartbeats 8000000 in
theorem heldInts_seq {w : World} {lo hi : Nat} {v : Value} {n : Nat} {k : Int} (hv : MSeq lo hi w 3 v n 1 k) (hn : n ≤ 1048576) (hk0 : 0 ≤ k) (hk1 : k ≤ 1048576) :
    Calls Try.prog 57 #[v, .int .i64 k] w fun e w' => e = .returned (.int .i64 (k + n)) ∧ Ext w w' := by
  rcases hv with ⟨rfl, A, c, rfl⟩ | ⟨g, c, cs, rfl, h2, h3, h4, h5, h6⟩
  · go_enter Try.func57, Try.ntmps57
    go_wp2_with fail
    go_loopw [1, 5] (fun a j wr => j = .int .i64 0 ∧ a = .int .i64 k ∧ wr = w) (fun _ _ _ => 0)
    case atStart => exact ⟨rfl, rfl, rfl⟩
    case round =>
      obtain ⟨rfl, rfl, rfl⟩ := hrel
      go_wp2_with fail
      go_ret
      exact ⟨by simp, (by repeat (first | (with_reducible assumption) | (with_reducible exact Ext.refl _) | apply Ext.alloc | apply Ext.drewN | apply Ext.drew))⟩
  · have H6 := Lib.hid h6; clear h6
    have hlt2 := box_lt h4
    have hc := box_cell h4
    go_enter Try.func57, Try.ntmps57
    go_wp2_with fail
    go_loopw [1, 5] (fun a j wr => ∃ (jj : Nat), jj ≤ n ∧ j = .int .i64 jj ∧ a = .int .i64 (k + jj) ∧ wr = w) (fun _ j _ => n - (intOf j).toNat)
    case atStart => exact ⟨0, Nat.zero_le _, rfl, by simp, rfl⟩
    case round =>
      obtain ⟨jj, hjj, rfl, rfl, rfl⟩ := hrel
      by_cases hlt : jj < n
      · have hx := (hc jj).trans (H6.out jj (by omega))
        have hne : ((k + (jj : Int)) != (k + (jj : Int))) = false := by simp
        clear hc
        go_wp2_with fail
        exact ⟨⟨jj + 1, by omega, by go_num, by simp only [Value.int.injEq, true_and]; omega, by first | rfl | trivial⟩, (by simp [intOf]; omega)⟩
      · obtain rfl : jj = n := by omega
        go_wp2_with fail
        go_ret
        exact ⟨rfl, (by repeat (first | (with_reducible assumption) | (with_reducible exact Ext.refl _) | apply Ext.alloc | apply Ext.drewN | apply Ext.drew))⟩
theorem seq5 {cs : Array Value} {k : Int} {jj : Nat} (hsz : jj * 5 + 4 < cs.size) (h : ∀ j, j < jj * 5 → cs[j]? = some (.int .i64 (k + j))) {j : Nat} (hj : j < jj * 5 + 5) :
    (((((cs.setIfInBounds (jj * 5) (.int .i64 (k + 5 * jj))).setIfInBounds (jj * 5 + 1) (.int .i64 (k + 5 * jj + 1))).setIfInBounds (jj * 5 + 2) (.int .i64 (k + 5 * jj + 1 + 1))).setIfInBounds (jj * 5 + 3) (.int .i64 (k + 5 * jj + 1 + 1 + 1))).setIfInBounds (jj * 5 + 4) (.int .i64 (k + 5 * jj + 1 + 1 + 1 + 1)))[j]? = some (.int .i64 (k + j)) := by
  have iv : ∀ a b : Int, a = b → some (Value.int .i64 a) = some (.int .i64 b) := fun a b e => by rw [e]
  simp only [Array.getElem?_setIfInBounds, Array.size_setIfInBounds]
  by_cases e4 : jj * 5 + 4 = j
  · rw [if_pos e4, if_pos (by omega)]; exact iv _ _ (by omega)
  · rw [if_neg e4]
    by_cases e3 : jj * 5 + 3 = j
    · rw [if_pos e3, if_pos (by omega)]; exact iv _ _ (by omega)
    · rw [if_neg e3]
      by_cases e2 : jj * 5 + 2 = j
      · rw [if_pos e2, if_pos (by omega)]; exact iv _ _ (by omega)
      · rw [if_neg e2]
        by_cases e1 : jj * 5 + 1 = j
        · rw [if_pos e1, if_pos (by omega)]; exact iv _ _ (by omega)
        · rw [if_neg e1]
          by_cases e0 : jj * 5 = j
          · rw [if_pos e0, if_pos (by omega)]; exact iv _ _ (by omega)
          · rw [if_neg e0]; exact h j (by omega)

set_option maxRecDepth 100000 in
set_option maxHeartbeats 8000000 in
theorem markMeetS_seq {w : World} {lo hi : Nat} {v : Value} {n : Nat} (hv : MRow lo hi w 92 v n 5) (hn : n ≤ 1048576) (k : Int) (hk0 : 0 ≤ k) (hk1 : k ≤ 1048576) :
    Calls Try.prog 51 #[v, .int .i64 k] w fun e w' => e = .returned (.int .i64 (k + 5 * n)) ∧ Mk lo hi (fun t => t = 92) w w' ∧ MSeq lo hi w' 92 v n 5 k := by
  rcases hv with ⟨rfl, A, c, rfl⟩ | ⟨g, c, cs, rfl, h2, h3, h4, h5⟩
  · go_enter Try.func51, Try.ntmps51
    go_wp2_with fail
    go_loopw [1, 5] (fun a j wr => j = .int .i64 0 ∧ a = .int .i64 k ∧ wr = w) (fun _ _ _ => 0)
    case atStart => exact ⟨rfl, rfl, rfl⟩
    case round =>
      obtain ⟨rfl, rfl, rfl⟩ := hrel
      go_wp2_with fail
      go_ret
      exact ⟨by simp, Mk.refl _ _ _ _, Or.inl ⟨rfl, A, c, rfl⟩⟩
  · go_enter Try.func51, Try.ntmps51
    go_wp2_with fail
    go_loopw [1, 5] (fun a j wr => ∃ (jj : Nat), jj ≤ n ∧ j = .int .i64 jj ∧ a = .int .i64 (k + 5 * jj) ∧ Mk lo hi (fun t => t = 92) w wr ∧ ∃ cs' : Array Value, wr.heap[g]? = some (.cells cs' 92 (0, 0)) ∧ cs'.size = cs.size ∧ Hid (∀ j, j < jj * 5 → cs'[j]? = some (.int .i64 (k + j)))) (fun _ j _ => n - (intOf j).toNat)
    case atStart => exact ⟨0, Nat.zero_le _, rfl, by simp, Mk.refl _ _ _ _, cs, h4, rfl, fun j hj => by omega⟩
    case round =>
      obtain ⟨jj, hjj, rfl, rfl, hM, cs', q4, q5, HC⟩ := hrel
      by_cases hlt : jj < n
      · have hsz : jj * 5 + 4 < cs'.size := by omega
        obtain ⟨x0, hx0⟩ := cell_of_lt q4 (j := jj * 5) (by omega)
        obtain ⟨x1, hx1⟩ := cell_of_lt q4 (j := jj * 5 + 1) (by omega)
        obtain ⟨x2, hx2⟩ := cell_of_lt q4 (j := jj * 5 + 2) (by omega)
        obtain ⟨x3, hx3⟩ := cell_of_lt q4 (j := jj * 5 + 3) (by omega)
        obtain ⟨x4, hx4⟩ := cell_of_lt q4 (j := jj * 5 + 4) (by omega)
        have fr := box_frozen q4
        have hlt2 := box_lt q4
        have p0 := box_set q4 (jj * 5) (.int .i64 (k + 5 * jj))
        have p1 := box_set p0 (jj * 5 + 1) (.int .i64 (k + 5 * jj + 1))
        have p2 := box_set p1 (jj * 5 + 2) (.int .i64 (k + 5 * jj + 1 + 1))
        have p3 := box_set p2 (jj * 5 + 3) (.int .i64 (k + 5 * jj + 1 + 1 + 1))
        have p4 := box_set p3 (jj * 5 + 4) (.int .i64 (k + 5 * jj + 1 + 1 + 1 + 1))
        have hM2 := Lib.hid (((((hM.trans (Mk.setCell q4 h2 h3 (T := fun t => t = 92) rfl (jj * 5) (.int .i64 (k + 5 * jj)))).trans (Mk.setCell p0 h2 h3 (T := fun t => t = 92) rfl (jj * 5 + 1) (.int .i64 (k + 5 * jj + 1)))).trans (Mk.setCell p1 h2 h3 (T := fun t => t = 92) rfl (jj * 5 + 2) (.int .i64 (k + 5 * jj + 1 + 1)))).trans (Mk.setCell p2 h2 h3 (T := fun t => t = 92) rfl (jj * 5 + 3) (.int .i64 (k + 5 * jj + 1 + 1 + 1)))).trans (Mk.setCell p3 h2 h3 (T := fun t => t = 92) rfl (jj * 5 + 4) (.int .i64 (k + 5 * jj + 1 + 1 + 1 + 1))))
        have q6 := Lib.hid p4
        clear hM p0 p1 p2 p3 p4
        go_wp2_with fail
        refine ⟨⟨jj + 1, by omega, by go_num, by simp only [Value.int.injEq, true_and]; omega, hM2.out, _, q6.out, by simp [q5], fun j hj => ?_⟩, (by simp [intOf]; omega)⟩
        exact seq5 hsz HC.out (by omega)
      · obtain rfl : jj = n := by omega
        go_wp2_with fail
        go_ret
        exact ⟨rfl, hM, Or.inr ⟨g, c, cs', rfl, h2, h3, q4, by omega, fun j hj => HC.out j hj⟩⟩

set_option maxRecDepth 100000 in
set_option maxHeartbeats 8000000 in
theorem heldMeetS_seq {w : World} {lo hi : Nat} {v : Value} {n : Nat} {k : Int} (hv : MSeq lo hi w 92 v n 5 k) (hn : n ≤ 1048576) (hk0 : 0 ≤ k) (hk1 : k ≤ 1048576) :
    Calls Try.prog 52 #[v, .int .i64 k] w fun e w' => e = .returned (.int .i64 (k + 5 * n)) ∧ Ext w w' := by
  rcases hv with ⟨rfl, A, c, rfl⟩ | ⟨g, c, cs, rfl, h2, h3, h4, h5, h6⟩
  · go_enter Try.func52, Try.ntmps52
    go_wp2_with fail
    go_loopw [1, 5] (fun a j wr => j = .int .i64 0 ∧ a = .int .i64 k ∧ wr = w) (fun _ _ _ => 0)
    case atStart => exact ⟨rfl, rfl, rfl⟩
    case round =>
      obtain ⟨rfl, rfl, rfl⟩ := hrel
      go_wp2_with fail
      go_ret
      exact ⟨by simp, (by repeat (first | (with_reducible assumption) | (with_reducible exact Ext.refl _) | apply Ext.alloc | apply Ext.drewN | apply Ext.drew))⟩
  · have H6 := Lib.hid h6; clear h6
    have hlt2 := box_lt h4
    have hc := box_cell h4
    go_enter Try.func52, Try.ntmps52
    go_wp2_with fail
    go_loopw [1, 5] (fun a j wr => ∃ (jj : Nat), jj ≤ n ∧ j = .int .i64 jj ∧ a = .int .i64 (k + 5 * jj) ∧ wr = w) (fun _ j _ => n - (intOf j).toNat)
    case atStart => exact ⟨0, Nat.zero_le _, rfl, by simp, rfl⟩
    case round =>
      obtain ⟨jj, hjj, rfl, rfl, rfl⟩ := hrel
      by_cases hlt : jj < n
      · skip
        have hx0 := (hc (jj * 5)).trans (H6.out (jj * 5) (by omega))
        have hx1 := (hc (jj * 5 + 1)).trans (H6.out (jj * 5 + 1) (by omega))
        have hx2 := (hc (jj * 5 + 2)).trans (H6.out (jj * 5 + 2) (by omega))
        have hx3 := (hc (jj * 5 + 3)).trans (H6.out (jj * 5 + 3) (by omega))
        have hx4 := (hc (jj * 5 + 4)).trans (H6.out (jj * 5 + 4) (by omega))
        rw [show (k + ((jj * 5 : Nat) : Int)) = k + 5 * (jj : Int) by omega] at hx0
        rw [show (k + ((jj * 5 + 1 : Nat) : Int)) = k + 5 * (jj : Int) + 1 by omega] at hx1
        rw [show (k + ((jj * 5 + 2 : Nat) : Int)) = k + 5 * (jj : Int) + 1 + 1 by omega] at hx2
        rw [show (k + ((jj * 5 + 3 : Nat) : Int)) = k + 5 * (jj : Int) + 1 + 1 + 1 by omega] at hx3
        rw [show (k + ((jj * 5 + 4 : Nat) : Int)) = k + 5 * (jj : Int) + 1 + 1 + 1 + 1 by omega] at hx4
        have hne0 : ((k + 5 * (jj : Int)) != (k + 5 * (jj : Int))) = false := by simp
        have hne1 : ((k + 5 * (jj : Int) + 1) != (k + 5 * (jj : Int) + 1)) = false := by simp
        have hne2 : ((k + 5 * (jj : Int) + 1 + 1) != (k + 5 * (jj : Int) + 1 + 1)) = false := by simp
        have hne3 : ((k + 5 * (jj : Int) + 1 + 1 + 1) != (k + 5 * (jj : Int) + 1 + 1 + 1)) = false := by simp
        have hne4 : ((k + 5 * (jj : Int) + 1 + 1 + 1 + 1) != (k + 5 * (jj : Int) + 1 + 1 + 1 + 1)) = false := by simp
        clear hc
        go_wp2_with fail
        exact ⟨⟨jj + 1, by omega, by go_num, by simp only [Value.int.injEq, true_and]; omega, by first | rfl | trivial⟩, (by simp [intOf]; omega)⟩
      · obtain rfl : jj = n := by omega
        go_wp2_with fail
        go_ret
        exact ⟨rfl, (by repeat (first | (with_reducible assumption) | (with_reducible exact Ext.refl _) | apply Ext.alloc | apply Ext.drewN | apply Ext.drew))⟩
end Go.Proofs.Ythhkbfjolmgloaa
