/- slices.Sort leaves a row of the same numbers. No condition. -/
import Derived.Test.YthhkbfjolmgloaaPlacer3
namespace Go.Proofs.Ythhkbfjolmgloaa
open Go.RowKit
set_option linter.unusedVariables false
set_option linter.unusedSimpArgs false
def IntsAt (cs : Array Value) (E : List Int) : Prop := ∀ j, j < E.length → cs[j]? = some (.int .i64 (E.getD j 0))
theorem Own1.open_ {B : Nat} {w : World} {v : Value} {E : List Int} (h : Own1 B w v E) : (E = [] ∧ v = .slice none 0 0) ∨ ∃ g cap cs, v = .slice (some ⟨g, 0, none⟩) E.length cap ∧ B ≤ g ∧ w.heap[g]? = some (.cells cs 3 (0, 0)) ∧ IntsAt cs E := by
  rcases h.1.2 with ⟨h1, h2⟩ | ⟨g, cap, cur, h1, h2, h3, h4, h5, h6, h7⟩
  · exact Or.inl ⟨List.eq_nil_of_length_eq_zero h2, h1⟩
  · refine Or.inr ⟨g, cap, cur, h1, h2, h3, fun j hj => ?_⟩
    have e : cur.toList[j]? = (nums E)[j]? := by rw [← h7, List.getElem?_take_of_lt (by omega)]
    have e2 : cur[j]? = cur.toList[j]? := by simp
    rw [e2, e]
    simp [nums, List.getD_eq_getElem?_getD, hj]
theorem sortInts_any {w : World} {g cap : Nat} {cs : Array Value} {E : List Int} (hb : w.heap[g]? = some (.cells cs 3 (0, 0))) (hE : IntsAt cs E) (hn : E.length ≤ 1000) :
    Calls Try.prog 131 #[.slice (some ⟨g, 0, none⟩) E.length cap] w fun e w' => e = .returned (.tuple #[]) ∧ ∃ (S : List Int) (cs' : Array Value), S.Perm E ∧ w'.heap[g]? = some (.cells cs' 3 (0, 0)) ∧ IntsAt cs' S ∧ Mk g (g + 1) (fun t => t = 3) w w' := by
  have hH : Go.Sort.Holds (Value.int .i64) w g 0 E.toArray := by
    intro j hj
    have hj' : j < E.length := by simpa using hj
    rw [Nat.zero_add]
    refine ⟨?_, box_frozen hb j⟩
    rw [box_cell hb, hE j hj', getElem!_pos _ j hj]
    simp [List.getD_eq_getElem?_getD, hj']
  refine (Try.slices_Sort_int g 0 cap E w hH (box_lt hb) (by omega)).mono ?_
  rintro e w' ⟨rfl, n, os, rfl⟩
  refine ⟨rfl, E.mergeSort fun x y => decide (x ≤ y), ?_⟩
  have hp := List.mergeSort_perm E (fun x y => decide (x ≤ y))
  generalize (E.mergeSort fun x y => decide (x ≤ y)) = S at hp ⊢
  have hM : Mk g (g + 1) (fun t => t = 3) w (Go.Sort.grow (Go.Sort.putRow (Value.int .i64) (Go.Sort.ahead w n) g 0 S.toArray) os) := mk_putRow (Value.int .i64) hb
  obtain ⟨cs', hb', hs'⟩ := hM.row hb
  have hh : Go.Sort.Holds (Value.int .i64) (Go.Sort.grow (Go.Sort.putRow (Value.int .i64) (Go.Sort.ahead w n) g 0 S.toArray) os) g 0 S.toArray :=
    Go.Sort.holds_grow _ _ os g 0 _ (by simpa using box_lt hb) (Go.Sort.holds_putRow _ _ g 0 E.toArray _ (Go.Sort.holds_ahead _ _ _ _ _ _ hH) (by simp [hp.length_eq]))
  refine ⟨cs', hp, hb', fun j hj => ?_, hM⟩
  have := (hh j (by simpa using hj)).1
  rw [Nat.zero_add, box_cell hb', getElem!_pos _ j (by simpa using hj)] at this
  rw [this]
  simp [List.getD_eq_getElem?_getD, hj]
theorem cnt_drop {S : List Int} {q : Nat} {e x : Int} (h : S[q]? = some e) : (cnt (S.drop q) x : Int) = (if x ≤ e then 1 else 0) + cnt (S.drop (q + 1)) x := by
  rw [drop_some h]
  unfold cnt
  rw [List.countP_cons]
  simp only [decide_eq_true_eq]
  split <;> omega
theorem loU_drop {S : List Int} {q : Nat} {e x u : Int} (h : S[q]? = some e) : loU x (S.drop q) u = loU x (S.drop (q + 1)) (loStep x u e) := by
  rw [drop_some h]; rfl
end Go.Proofs.Ythhkbfjolmgloaa
