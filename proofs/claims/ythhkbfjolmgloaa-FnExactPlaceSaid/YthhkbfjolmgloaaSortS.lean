/- slices.insertionSortCmpFunc, stableCmpFunc, SortStableFunc with impl.Order's comparison: a row of pairs becomes sorted. Condition: at most 10 pairs, their numbers between 0 and 2^40. -/
import Derived.Test.YthhkbfjolmgloaaMark
import Derived.Test.YthhkbfjolmgloaaOrderP
import Derived.Deep.RegionWith
import Derived.Deep.RegionHeld3
namespace Go.Proofs.Ythhkbfjolmgloaa
open Go.RowKit
set_option linter.unusedVariables false
set_option linter.unusedSimpArgs false
def cmpV (x y : Int × Int) : Int := if x.1 ≠ y.1 then x.1 - y.1 else x.2 - y.2
theorem cmpV_neg {x y : Int × Int} : cmpV x y < 0 ↔ ¬ leP y x := by
  unfold cmpV leP
  by_cases h : x.1 = y.1
  · rw [if_neg (by simp [h])]; omega
  · rw [if_pos h]; omega
def pairV (x : Int × Int) : Value := .agg #[.int .i64 x.1, .int .i64 x.2]
set_option maxRecDepth 100000 in
set_option maxHeartbeats 1000000 in
theorem orderCmp_any (x y : Int × Int) (hx : 0 ≤ x.1 ∧ x.1 ≤ 1099511627776 ∧ 0 ≤ x.2 ∧ x.2 ≤ 1099511627776) (hy : 0 ≤ y.1 ∧ y.1 ≤ 1099511627776 ∧ 0 ≤ y.2 ∧ y.2 ≤ 1099511627776) (w : World) :
    Calls Try.prog 118 #[.agg #[.int .i64 x.1, .int .i64 x.2], .agg #[.int .i64 y.1, .int .i64 y.2]] w fun e w' => e = .returned (.int .i64 (cmpV x y)) ∧ Ext w w' := by
  obtain ⟨x1, x2⟩ := x
  obtain ⟨y1, y2⟩ := y
  simp only at hx hy ⊢
  by_cases h : x1 = y1
  · have hV : Hid (cmpV (x1, x2) (y1, y2) = x2 - y2) := by simp [Hid, cmpV, h]
    have h' : (x1 != y1) = false := by simp [h]
    clear h
    go_enter Try.func118, Try.ntmps118
    go_wp2_with fail
    go_ret
    exact ⟨ret_i64 hV.out.symm, (by repeat (first | (with_reducible assumption) | (with_reducible exact Ext.refl _) | apply Ext.alloc | apply Ext.drewN | apply Ext.drew))⟩
  · have hV : Hid (cmpV (x1, x2) (y1, y2) = x1 - y1) := by simp [Hid, cmpV, h]
    have h' : (x1 != y1) = true := by simp [h]
    clear h
    go_enter Try.func118, Try.ntmps118
    go_wp2_with fail
    go_ret
    exact ⟨ret_i64 hV.out.symm, (by repeat (first | (with_reducible assumption) | (with_reducible exact Ext.refl _) | apply Ext.alloc | apply Ext.drewN | apply Ext.drew))⟩
/-- Pairs lie in a row of cells. -/
def PairsAt (cs : Array Value) (d : List (Int × Int)) : Prop := d.length * 2 ≤ cs.size ∧ ∀ j, j < d.length → cs[j * 2]? = some (.int .i64 (d.getD j (0, 0)).1) ∧ cs[j * 2 + 1]? = some (.int .i64 (d.getD j (0, 0)).2)
theorem leP_total (x y : Int × Int) : leP x y ∨ leP y x := by unfold leP; omega
theorem leP_trans {x y z : Int × Int} (h1 : leP x y) (h2 : leP y z) : leP x z := by unfold leP at *; omega
def at2 (d : List (Int × Int)) (j : Nat) : Int × Int := d.getD j (0, 0)
def swap2 (d : List (Int × Int)) (j : Nat) : List (Int × Int) := (d.set j (at2 d (j - 1))).set (j - 1) (at2 d j)
theorem swap2_len (d : List (Int × Int)) (j : Nat) : (swap2 d j).length = d.length := by simp [swap2]
theorem at2_get {d : List (Int × Int)} {j : Nat} (h : j < d.length) : at2 d j = d[j] := by simp [at2, List.getD_eq_getElem?_getD, h]
theorem swap2_perm {d : List (Int × Int)} {j : Nat} (h : j < d.length) : (swap2 d j).Perm d := by
  have h1 : j - 1 < d.length := by omega
  unfold swap2
  rw [at2_get h, at2_get h1]
  exact List.set_set_perm h h1
theorem swap2_at {d : List (Int × Int)} {j : Nat} (h0 : 0 < j) (h : j < d.length) (q : Nat) : at2 (swap2 d j) q = if q = j then at2 d (j - 1) else if q = j - 1 then at2 d j else at2 d q := by
  have h1 : j - 1 < d.length := by omega
  unfold swap2
  generalize hx : at2 d (j - 1) = x
  generalize hy : at2 d j = y
  unfold at2
  simp only [List.getD_eq_getElem?_getD, List.getElem?_set, List.length_set]
  by_cases e1 : q = j
  · subst e1
    rw [if_neg (by omega), if_pos rfl, if_pos h, if_pos rfl]; rfl
  · rw [if_neg e1]
    by_cases e2 : q = j - 1
    · subst e2
      rw [if_pos rfl, if_pos h1, if_pos rfl]; rfl
    · rw [if_neg (Ne.symm e2), if_neg (Ne.symm e1), if_neg e2]
/-- Sorted up to i. -/
def SortedTo (d : List (Int × Int)) (i : Nat) : Prop := ∀ p q, p < q → q < i → leP (at2 d p) (at2 d q)
/-- Sorted up to i but for place j, whose pair belongs ahead of all behind it. -/
def SortedBut (d : List (Int × Int)) (i j : Nat) : Prop := (∀ p q, p < q → q < i → p ≠ j → q ≠ j → leP (at2 d p) (at2 d q)) ∧ ∀ q, j < q → q < i → leP (at2 d j) (at2 d q)
theorem SortedTo.but {d : List (Int × Int)} {i : Nat} (h : SortedTo d i) : SortedBut d (i + 1) i := ⟨fun p q h1 h2 h3 h4 => h p q h1 (by omega), fun q h1 h2 => by omega⟩
theorem SortedBut.done {d : List (Int × Int)} {i j : Nat} (h : SortedBut d i j) (hj : j < i) (h0 : j = 0 ∨ leP (at2 d (j - 1)) (at2 d j)) : SortedTo d i := by
  intro p q h1 h2
  by_cases e : q = j
  · subst e
    rcases h0 with h0 | h0
    · omega
    · by_cases e2 : p = q - 1
      · subst e2; exact h0
      · exact leP_trans (h.1 p (q - 1) (by omega) (by omega) (by omega) (by omega)) h0
  · by_cases e2 : p = j
    · subst e2; exact h.2 q h1 h2
    · exact h.1 p q h1 h2 e2 e
theorem SortedBut.swap {d : List (Int × Int)} {i j : Nat} (h : SortedBut d i j) (hj0 : 0 < j) (hj : j < i) (hi : i ≤ d.length) (hlt : ¬ leP (at2 d (j - 1)) (at2 d j)) : SortedBut (swap2 d j) i (j - 1) := by
  have hle : leP (at2 d j) (at2 d (j - 1)) := by
    rcases leP_total (at2 d (j - 1)) (at2 d j) with q | q
    · exact absurd q hlt
    · exact q
  have hjd : j < d.length := by omega
  refine ⟨fun p q h1 h2 h3 h4 => ?_, fun q h1 h2 => ?_⟩
  · rw [swap2_at hj0 hjd, swap2_at hj0 hjd, if_neg h3, if_neg h4]
    by_cases e1 : p = j
    · rw [if_pos e1, if_neg (by omega)]
      exact h.1 (j - 1) q (by omega) h2 (by omega) (by omega)
    · rw [if_neg e1]
      by_cases e2 : q = j
      · rw [if_pos e2]
        exact h.1 p (j - 1) (by omega) (by omega) e1 (by omega)
      · rw [if_neg e2]
        exact h.1 p q h1 h2 e1 e2
  · rw [swap2_at hj0 hjd, swap2_at hj0 hjd, if_neg (by omega : ¬ j - 1 = j), if_pos rfl]
    by_cases e2 : q = j
    · rw [if_pos e2]; exact hle
    · rw [if_neg e2, if_neg (by omega)]
      exact h.2 q (by omega) h2
theorem SortedTo.pairwise {d : List (Int × Int)} (h : SortedTo d d.length) : d.Pairwise leP := by
  rw [List.pairwise_iff_getElem]
  intro i j hi hj hij
  have := h i j hij hj
  rwa [at2_get hi, at2_get hj] at this
end Go.Proofs.Ythhkbfjolmgloaa
