/- Five of a call's own boxes at once. No condition. -/
import Derived.Test.YthhkbfjolmgloaaML0a
namespace Go.Proofs.Ythhkbfjolmgloaa
open Go.RowKit
set_option linter.unusedVariables false
set_option linter.unusedSimpArgs false
theorem Lp.open5 {w wr : World} {bs : List (Nat × Array Value × TypeId)} {b1 b2 b3 b4 b5 : Nat} {cs1 cs2 cs3 cs4 cs5 : Array Value} {t1 t2 t3 t4 t5 : TypeId} (h : Lp w wr ((b1, cs1, t1) :: (b2, cs2, t2) :: (b3, cs3, t3) :: (b4, cs4, t4) :: (b5, cs5, t5) :: bs)) : (∀ g o, g < w.heap.size → wr.cell? ⟨g, o, none⟩ = w.cell? ⟨g, o, none⟩) ∧ (∀ g, g < w.heap.size → g < wr.heap.size) ∧ (∀ j, wr.cell? ⟨b1, j, none⟩ = cs1[j]?) ∧ b1 < wr.heap.size ∧ (∀ j, wr.cell? ⟨b2, j, none⟩ = cs2[j]?) ∧ b2 < wr.heap.size ∧ (∀ j, wr.cell? ⟨b3, j, none⟩ = cs3[j]?) ∧ b3 < wr.heap.size ∧ (∀ j, wr.cell? ⟨b4, j, none⟩ = cs4[j]?) ∧ b4 < wr.heap.size ∧ (∀ j, wr.cell? ⟨b5, j, none⟩ = cs5[j]?) ∧ b5 < wr.heap.size := by
  obtain ⟨k1, k2, k3, k4, k5, k6, k7, k8, k9, k10⟩ := h.open4
  obtain ⟨_, _, k11, k12⟩ := h.tail.tail.tail.tail.open1
  exact ⟨k1, k2, k3, k4, k5, k6, k7, k8, k9, k10, k11, k12⟩
theorem openS2 {w wr : World} {bs : List (Nat × Array Value × TypeId)} {b1 b2 : Nat} {cs1 cs2 : Array Value} {t1 t2 : TypeId} (h : Lp w wr ((b1, cs1, t1) :: (b2, cs2, t2) :: bs)) : Lp w wr ((b1, cs1, t1) :: (b2, cs2, t2) :: bs) ∧ (∀ j, wr.cell? ⟨b1, j, none⟩ = cs1[j]?) ∧ b1 < wr.heap.size ∧ (∀ j, wr.cell? ⟨b2, j, none⟩ = cs2[j]?) ∧ b2 < wr.heap.size := by
  obtain ⟨k1, k2, k3, k4, k5, k6⟩ := h.open2
  exact ⟨h, k3, k4, k5, k6⟩
theorem openS3 {w wr : World} {bs : List (Nat × Array Value × TypeId)} {b1 b2 b3 : Nat} {cs1 cs2 cs3 : Array Value} {t1 t2 t3 : TypeId} (h : Lp w wr ((b1, cs1, t1) :: (b2, cs2, t2) :: (b3, cs3, t3) :: bs)) : Lp w wr ((b1, cs1, t1) :: (b2, cs2, t2) :: (b3, cs3, t3) :: bs) ∧ (∀ g o, g < w.heap.size → wr.cell? ⟨g, o, none⟩ = w.cell? ⟨g, o, none⟩) ∧ (∀ g, g < w.heap.size → g < wr.heap.size) ∧ (∀ j, wr.cell? ⟨b3, j, none⟩ = cs3[j]?) ∧ b3 < wr.heap.size := by
  obtain ⟨k1, k2, k3, k4, k5, k6, k7, k8⟩ := h.open3
  exact ⟨h, k1, k2, k7, k8⟩
theorem box_new_drew (w : World) (o : Obj) : (w.alloc o).drew.heap[w.heap.size]? = some o := box_new w o
/-- A struct of four fields, stored into a box that was made before. -/
theorem Lp.store4 {w wr : World} {b1 b2 g : Nat} {cs1 cs2 : Array Value} {t1 t2 t : TypeId} {x0 x1 x2 x3 a b c d : Value} (h : Lp w wr [(b1, cs1, t1), (b2, cs2, t2)]) (bx : wr.heap[g]? = some (.cells #[x0, x1, x2, x3] t (0, 0))) (hg : w.heap.size ≤ g) (h1 : b1 ≠ g) (h2 : b2 ≠ g) :
    Lp w ((((wr.setCell ⟨g, 0, none⟩ a).setCell ⟨g, 1, none⟩ b).setCell ⟨g, 2, none⟩ c).setCell ⟨g, 3, none⟩ d) [(g, #[a, b, c, d], t), (b1, cs1, t1), (b2, cs2, t2)] := by
  have hne : ∀ x, x ∈ [(b1, cs1, t1), (b2, cs2, t2)] → x.1 ≠ g := by
    intro x hx
    rcases List.mem_cons.1 hx with rfl | hx
    · exact h1
    · rcases List.mem_cons.1 hx with rfl | hx
      · exact h2
      · cases hx
  have q := ((((h.add bx).set hg hne 0 a).set hg hne 1 b).set hg hne 2 c).set hg hne 3 d
  simpa using q
end Go.Proofs.Ythhkbfjolmgloaa
