/- What marks leave of a call's boxes and rows. No condition. -/
import Derived.Test.YthhkbfjolmgloaaMark2
import Derived.Test.YthhkbfjolmgloaaMeets3
namespace Go.Proofs.Ythhkbfjolmgloaa
open Go.RowKit
set_option linter.unusedVariables false
set_option linter.unusedSimpArgs false
theorem Lp.marked {lo hi : Nat} {T : TypeId → Prop} {w wr w2 : World} {bs : List (Nat × Array Value × TypeId)} (h : Lp w wr bs) (k : Mk lo hi T wr w2) (hw : w.heap.size ≤ lo) (hb : ∀ x, x ∈ bs → x.1 < lo ∨ hi ≤ x.1) : Lp w w2 bs :=
  ⟨Below.trans h.ext (k.below hw h.ext.size), fun x hx => k.far (h.box x hx) (hb x hx)⟩
theorem ownsRow_marked {lo hi : Nat} {T : TypeId → Prop} {w w2 : World} {B : Nat} {e : TypeId} {size : Nat} {v : Value} {n : Nat} {xs : List Value} (h : w.ownsRow B e size v n xs) (k : Mk lo hi T w w2) (hb : ∀ g, v.ownBlock = some g → g < lo ∨ hi ≤ g) : w2.ownsRow B e size v n xs := by
  refine ⟨h.1, ?_⟩
  rcases h.2 with h2 | ⟨g, cap, cur, rfl, h2, h3, h4⟩
  · exact Or.inl h2
  · exact Or.inr ⟨g, cap, cur, rfl, h2, k.far h3 (hb g rfl), h4⟩
theorem mrow_of_owns {w : World} {B : Nat} {e : TypeId} {size : Nat} {v : Value} {n : Nat} {xs : List Value} (h : w.ownsRow B e size v n xs) : MRow B w.heap.size w e v n size := by
  rcases h.2 with ⟨h1, h2⟩ | ⟨g, cap, cur, h1, h2, h3, h4, h5, h6, h7⟩
  · exact Or.inl ⟨h2, none, 0, h1⟩
  · refine Or.inr ⟨g, cap, cur, h1, h2, box_lt h3, h3, ?_⟩
    rw [h6]
    exact Nat.mul_le_mul_right _ h4
theorem far4 {b1 b2 b3 b4 lo hi : Nat} {c1 c2 c3 c4 : Array Value} {t1 t2 t3 t4 : TypeId} (h1 : b1 < lo ∨ hi ≤ b1) (h2 : b2 < lo ∨ hi ≤ b2) (h3 : b3 < lo ∨ hi ≤ b3) (h4 : b4 < lo ∨ hi ≤ b4) : ∀ x, x ∈ [(b1, c1, t1), (b2, c2, t2), (b3, c3, t3), (b4, c4, t4)] → x.1 < lo ∨ hi ≤ x.1 := by
  intro x hx
  simp only [List.mem_cons, List.not_mem_nil, or_false] at hx
  rcases hx with rfl | rfl | rfl | rfl
  · exact h1
  · exact h2
  · exact h3
  · exact h4
end Go.Proofs.Ythhkbfjolmgloaa
