/- laws.eqMeetS holds of rows that hold the same. Condition: at most 5000 meetings.
   What marks leave of a call's boxes and rows. No condition. -/
import Derived.Test.YthhkbfjolmgloaaMHMeets
import Derived.Deep.RegionWith
import Derived.Test.YthhkbfjolmgloaaML2a
namespace Go.Proofs.Ythhkbfjolmgloaa
open Go.RowKit
set_option linter.unusedVariables false
set_option linter.unusedSimpArgs false
set_option maxRecDepth 100000 in
set_option maxHeartbeats 1000000 in
theorem eqMeet_same (a b c d e : Int) (w : World) : Calls Try.prog 114 #[.agg #[.int .i64 a, .int .i64 b, .int .i64 c, .int .i64 d, .int .i64 e], .agg #[.int .i64 a, .int .i64 b, .int .i64 c, .int .i64 d, .int .i64 e]] w fun r w' => r = .returned (.bool true) ∧ Ext w w' := by
  go_enter Try.func114, Try.ntmps114
  go_wp2_with fail
  go_ret
  exact ⟨rfl, (by repeat (first | (with_reducible assumption) | (with_reducible exact Ext.refl _) | apply Ext.alloc | apply Ext.drewN | apply Ext.drew))⟩
/-- A row of fives, opened: nil, or its cells. -/
theorem row5_open {w : World} {B N : Nat} {v : Value} {D : List Int} (h : w.ownsRow B 92 5 v N (nums D)) : (N = 0 ∧ v = .slice none 0 0) ∨ ∃ g cap, v = .slice (some ⟨g, 0, none⟩) N cap ∧ g < w.heap.size ∧ ∀ j, j < N * 5 → w.cell? ⟨g, j, none⟩ = some (.int .i64 (D.getD j 0)) := by
  have hl := h.1
  rcases h.2 with ⟨h1, h2⟩ | ⟨g, cap, cur, h1, h2, h3, h4, h5, h6, h7⟩
  · exact Or.inl ⟨h2, h1⟩
  · refine Or.inr ⟨g, cap, h1, box_lt h3, fun j hj => ?_⟩
    have e1 : (cur.toList.take (N * 5))[j]? = (nums D)[j]? := by rw [h7]
    have hD : j < D.length := by simp only [nums, List.length_map] at hl; omega
    rw [List.getElem?_take_of_lt hj] at e1
    rw [box_cell h3]
    simp only [nums, List.getElem?_map, List.getElem?_eq_getElem hD, Option.map_some] at e1
    rw [List.getD_eq_getElem?_getD, List.getElem?_eq_getElem hD]
    simpa using e1
set_option maxRecDepth 100000 in
set_option maxHeartbeats 8000000 in
theorem eqMeetS_same {w : World} {B1 B2 N1 N2 : Nat} {v1 v2 : Value} {D : List Int} (h1 : w.ownsRow B1 92 5 v1 N1 (nums D)) (h2 : w.ownsRow B2 92 5 v2 N2 (nums D)) (hN : N1 ≤ 5000) :
    Calls Try.prog 48 #[v1, v2] w fun e w' => e = .returned (.bool true) ∧ Ext w w' := by
  obtain rfl : N1 = N2 := by
    have a1 := h1.1
    have a2 := h2.1
    omega
  rcases row5_open h1 with ⟨rfl, rfl⟩ | ⟨g1, c1, rfl, hg1, hc1⟩
  · rcases row5_open h2 with ⟨_, rfl⟩ | ⟨g2, c2, rfl, hg2, hc2⟩
    all_goals
      clear h1 h2
      go_enter Try.func48, Try.ntmps48
      go_wp2_with fail
      go_loopw [5] (fun j wr => j = .int .i64 0 ∧ Ext w wr) (fun _ _ => 0)
      case atStart => exact ⟨rfl, (by repeat (first | (with_reducible assumption) | (with_reducible exact Ext.refl _) | apply Ext.alloc | apply Ext.drewN | apply Ext.drew))⟩
      case round =>
        obtain ⟨rfl, hX⟩ := hrel
        go_wp2_with fail
        go_ret
        exact ⟨rfl, hX⟩
  · rcases row5_open h2 with ⟨rfl, rfl⟩ | ⟨g2, c2, rfl, hg2, hc2⟩
    · clear h1 h2 hc1
      go_enter Try.func48, Try.ntmps48
      go_wp2_with fail
      go_loopw [5] (fun j wr => j = .int .i64 0 ∧ Ext w wr) (fun _ _ => 0)
      case atStart => exact ⟨rfl, (by repeat (first | (with_reducible assumption) | (with_reducible exact Ext.refl _) | apply Ext.alloc | apply Ext.drewN | apply Ext.drew))⟩
      case round =>
        obtain ⟨rfl, hX⟩ := hrel
        go_wp2_with fail
        go_ret
        exact ⟨rfl, hX⟩
    · have H1 := Lib.hid hc1
      have H2 := Lib.hid hc2
      clear h1 h2 hc1 hc2
      go_enter Try.func48, Try.ntmps48
      go_wp2_with fail
      go_loopw [5] (fun j wr => ∃ (jj : Nat), jj ≤ N1 ∧ j = .int .i64 jj ∧ Ext w wr) (fun j _ => N1 - (intOf j).toNat)
      case atStart => exact ⟨0, Nat.zero_le _, rfl, (by repeat (first | (with_reducible assumption) | (with_reducible exact Ext.refl _) | apply Ext.alloc | apply Ext.drewN | apply Ext.drew))⟩
      case round =>
        obtain ⟨jj, hjj, rfl, hX⟩ := hrel
        by_cases hlt : jj < N1
        · obtain ⟨k1, k2⟩ := (Lp.of_ext hX).open0
          have a0 := H1.out (jj * 5) (by omega)
          have a1 := H1.out (jj * 5 + 1) (by omega)
          have a2 := H1.out (jj * 5 + 2) (by omega)
          have a3 := H1.out (jj * 5 + 3) (by omega)
          have a4 := H1.out (jj * 5 + 4) (by omega)
          have e0 := H2.out (jj * 5) (by omega)
          have e1 := H2.out (jj * 5 + 1) (by omega)
          have e2 := H2.out (jj * 5 + 2) (by omega)
          have e3 := H2.out (jj * 5 + 3) (by omega)
          have e4 := H2.out (jj * 5 + 4) (by omega)
          have HE := Lib.hid (eqMeet_same (D.getD (jj * 5) 0) (D.getD (jj * 5 + 1) 0) (D.getD (jj * 5 + 2) 0) (D.getD (jj * 5 + 3) 0) (D.getD (jj * 5 + 4) 0))
          generalize D.getD (jj * 5) 0 = d0 at *
          generalize D.getD (jj * 5 + 1) 0 = d1 at *
          generalize D.getD (jj * 5 + 2) 0 = d2 at *
          generalize D.getD (jj * 5 + 3) 0 = d3 at *
          generalize D.getD (jj * 5 + 4) 0 = d4 at *
          go_wp2_with fail
          go_region_with (go_at_call 114; refine (HE.out _).mono ?_; rintro e w3 ⟨rfl, hE3⟩; have hX3 : Ext wr w3 := Ext.trans (by repeat (first | (with_reducible assumption) | (with_reducible exact Ext.refl _) | apply Ext.alloc | apply Ext.drewN | apply Ext.drew)) hE3)
          all_goals
            go_wp2_with fail
            exact ⟨⟨jj + 1, by omega, by go_num, Ext.trans hX (by repeat (first | (with_reducible assumption) | (with_reducible exact Ext.refl _) | apply Ext.alloc | apply Ext.drewN | apply Ext.drew))⟩, (by simp [intOf]; omega)⟩
        · obtain rfl : jj = N1 := by omega
          go_wp2_with fail
          go_ret
          exact ⟨rfl, hX⟩
end Go.Proofs.Ythhkbfjolmgloaa
namespace Go.Proofs.Ythhkbfjolmgloaa
open Go.RowKit
set_option linter.unusedVariables false
set_option linter.unusedSimpArgs false
theorem Lp.marked {lo hi : Nat} {T : TypeId → Prop} {w wr w2 : World} {bs : List (Nat × Array Value × TypeId)} (h : Lp w wr bs) (k : Mk lo hi T wr w2) (hw : w.heap.size ≤ lo) (hb : ∀ x, x ∈ bs → x.1 < lo ∨ hi ≤ x.1) : Lp w w2 bs :=
  ⟨Below.trans h.ext (k.below hw h.ext.size), fun x hx => k.far (h.box x hx) (hb x hx)⟩
theorem ownsRow_marked {lo hi : Nat} {T : TypeId → Prop} {w w2 : World} {B : Nat} {e : TypeId} {size : Nat} {v : Value} {n : Nat} {xs : List Value} (h : w.ownsRow B e size v n xs) (k : Mk lo hi T w w2) (hb : ∀ g, v.ownBlock = some g → g < lo ∨ hi ≤ g) : w2.ownsRow B e size v n xs := by
  refine ⟨h.1, ?_⟩
  rcases h.2 with h2 | ⟨g, cap, cur, rfl, h2, h3, h4⟩
  · exact Or.inl h2
  · exact Or.inr ⟨g, cap, cur, rfl, h2, k.far h3 (hb g rfl), h4⟩
theorem mrow_of_owns {w : World} {B : Nat} {e : TypeId} {size : Nat} {v : Value} {n : Nat} {xs : List Value} (h : w.ownsRow B e size v n xs) : MRow B w.heap.size w e v n size := by
  rcases h.2 with ⟨h1, h2⟩ | ⟨g, cap, cur, h1, h2, h3, h4, h5, h6, h7⟩
  · exact Or.inl ⟨h2, none, 0, h1⟩
  · refine Or.inr ⟨g, cap, cur, h1, h2, box_lt h3, h3, ?_⟩
    rw [h6]
    exact Nat.mul_le_mul_right _ h4
theorem far4 {b1 b2 b3 b4 lo hi : Nat} {c1 c2 c3 c4 : Array Value} {t1 t2 t3 t4 : TypeId} (h1 : b1 < lo ∨ hi ≤ b1) (h2 : b2 < lo ∨ hi ≤ b2) (h3 : b3 < lo ∨ hi ≤ b3) (h4 : b4 < lo ∨ hi ≤ b4) : ∀ x, x ∈ [(b1, c1, t1), (b2, c2, t2), (b3, c3, t3), (b4, c4, t4)] → x.1 < lo ∨ hi ≤ x.1 := by
  intro x hx
  simp only [List.mem_cons, List.not_mem_nil, or_false] at hx
  rcases hx with rfl | rfl | rfl | rfl
  · exact h1
  · exact h2
  · exact h3
  · exact h4
end Go.Proofs.Ythhkbfjolmgloaa
