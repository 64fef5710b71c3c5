/- laws.eqIntS answers true at two rows of the same numbers. Condition: at most 5000 numbers. -/
import Derived.Test.YthhkbfjolmgloaaLawKit
import Derived.Test.YthhkbfjolmgloaaEq
namespace Go.Proofs.Ythhkbfjolmgloaa
open Go.RowKit
set_option linter.unusedVariables false
set_option linter.unusedSimpArgs false
theorem rd_of_owns {w : World} {B N : Nat} {v : Value} {D : List Int} (h : w.ownsRow B 3 1 v N (nums D)) : N = D.length ∧ ∃ A c, v = .slice A D.length c ∧ RdInt w A D := by
  have hl := h.1
  rw [nums_length, Nat.mul_one] at hl
  refine ⟨hl.symm, ?_⟩
  rcases h.2 with ⟨h1, h2⟩ | ⟨g, cap, cur, h1, h2, h3, h4, h5, h6, h7⟩
  · subst h2
    obtain rfl : D = [] := List.eq_nil_of_length_eq_zero hl
    exact ⟨none, 0, h1, fun j x hx => by simp at hx⟩
  · refine ⟨some ⟨g, 0, none⟩, cap, by rw [h1, ← hl], fun j x hx => ⟨g, 0, rfl, box_lt h3, ?_⟩⟩
    have hj := lt_of_some hx
    have e : cur.toList[j]? = (nums D)[j]? := by rw [← h7, List.getElem?_take_of_lt (by omega)]
    unfold AtInt
    rw [box_cell h3, Nat.zero_add, Nat.mul_one]
    have e2 : cur[j]? = cur.toList[j]? := by simp
    rw [e2, e]
    simp [nums, hx]
theorem eqInts_own {w : World} {B1 B2 N1 N2 : Nat} {v1 v2 : Value} {D : List Int} (h1 : w.ownsRow B1 3 1 v1 N1 (nums D)) (h2 : w.ownsRow B2 3 1 v2 N2 (nums D)) (hN : N1 ≤ 5000) :
    Calls Try.prog 55 #[v1, v2] w fun e w' => e = .returned (.bool true) ∧ Ext w w' := by
  obtain ⟨e1, A1, c1, rfl, r1⟩ := rd_of_owns h1
  obtain ⟨e2, A2, c2, rfl, r2⟩ := rd_of_owns h2
  exact eqIntS_same c1 c2 r1 r2 (by omega)
end Go.Proofs.Ythhkbfjolmgloaa
