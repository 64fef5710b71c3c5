/- slices.SortStableFunc with impl.Order's comparison sorts a row of pairs. Condition: at most 10 pairs, their numbers between 0 and 2^40. -/
import Derived.Test.YthhkbfjolmgloaaSortS
import Derived.Test.YthhkbfjolmgloaaShelf
namespace Go.Proofs.Ythhkbfjolmgloaa
open Go.RowKit
set_option linter.unusedVariables false
set_option linter.unusedSimpArgs false
def Bd2 (x : Int × Int) : Prop := 0 ≤ x.1 ∧ x.1 ≤ 1099511627776 ∧ 0 ≤ x.2 ∧ x.2 ≤ 1099511627776
abbrev Pr := { x : Int × Int // Bd2 x }
instance : Inhabited Pr := ⟨⟨(0, 0), by unfold Bd2; decide⟩⟩
def encPr (x : Pr) : List Value := [.int .i64 x.1.1, .int .i64 x.1.2]
def cfPr (x y : Pr) : Int := cmpV x.1 y.1
theorem grow2 (w : World) (a b : Obj) : (w.alloc a).alloc b = Go.Sort.grow (w.drewN 0) #[a, b] := by
  rw [Go.Sort.alloc_eq_grow, Go.Sort.alloc_eq_grow, Go.Sort.grow_grow]; rfl
set_option maxRecDepth 100000 in
set_option maxHeartbeats 1000000 in
theorem orderCmp_grown (x y : Int × Int) (hx : Bd2 x) (hy : Bd2 y) (w : World) :
    Calls Try.prog 118 #[.agg #[.int .i64 x.1, .int .i64 x.2], .agg #[.int .i64 y.1, .int .i64 y.2]] w fun e w' => e = .returned (.int .i64 (cmpV x y)) ∧ ∃ q os', w' = Go.Sort.grow (w.drewN q) os' := by
  obtain ⟨x1, x2⟩ := x
  obtain ⟨y1, y2⟩ := y
  unfold Bd2 at hx hy
  simp only at hx hy ⊢
  by_cases h : x1 = y1
  · have hV : Hid (cmpV (x1, x2) (y1, y2) = x2 - y2) := by simp [Hid, cmpV, h]
    have h' : (x1 != y1) = false := by simp [h]
    clear h
    go_enter Try.func118, Try.ntmps118
    go_wp2_with fail
    go_ret
    exact ⟨ret_i64 hV.out.symm, 0, _, grow2 _ _ _⟩
  · have hV : Hid (cmpV (x1, x2) (y1, y2) = x1 - y1) := by simp [Hid, cmpV, h]
    have h' : (x1 != y1) = true := by simp [h]
    clear h
    go_enter Try.func118, Try.ntmps118
    go_wp2_with fail
    go_ret
    exact ⟨ret_i64 hV.out.symm, 0, _, grow2 _ _ _⟩
theorem cmpLays118 (blk off size : Nat) (w : World) : CmpLays Try.prog 118 #[] encPr 2 cfPr blk off size w :=
  fun _ _ _ _ x y => orderCmp_grown x.1 y.1 x.2 y.2 _
theorem swoPr : Go.Sort.SWO (ltOf cfPr) where
  irrefl := fun x => by simp [ltOf, cfPr, cmpV]
  trans := fun x y z h1 h2 => by
    simp only [ltOf, cfPr, decide_eq_true_eq, cmpV_neg, leP] at *
    omega
  ntrans := fun x y z h1 h2 => by
    simp only [ltOf, cfPr, decide_eq_false_iff_not, cmpV_neg, leP, Classical.not_not] at *
    omega
theorem putCells_size {α : Type} [Inhabited α] (enc : α → Value) (off : Nat) (d : Array α) (c : Array Value) : (Go.Sort.putCells enc off d c).size = c.size := by
  simp [Go.Sort.putCells]
theorem mk_putRow {α : Type} [Inhabited α] (enc : α → Value) {w : World} {g off m : Nat} {d : Array α} {os : Array Obj} {cs : Array Value} {t : TypeId} (hb : w.heap[g]? = some (.cells cs t (0, 0))) : Mk g (g + 1) (fun t' => t' = t) w (Go.Sort.grow (Go.Sort.putRow enc (Go.Sort.ahead w m) g off d) os) := by
  have hlt := box_lt hb
  refine ⟨rfl, rfl, rfl, by simp, fun g' o hg' => ?_⟩
  have hlt' := box_lt hg'
  by_cases e : g' = g
  · subst e
    rw [hb] at hg'
    obtain rfl : Obj.cells cs t (0, 0) = o := by simpa using hg'
    refine Or.inr ⟨Nat.le_refl _, by omega, cs, Go.Sort.putCells enc off d cs, t, rfl, rfl, ?_, putCells_size _ _ _ _⟩
    rw [Go.Sort.heap_grow_old _ _ (by simpa using hlt)]
    simp [Go.Sort.putRow, Go.Sort.mapBlock, Array.getElem?_modify, hb, Go.Sort.onCells]
  · refine Or.inl ?_
    rw [Go.Sort.heap_grow_old _ _ (by simpa using hlt')]
    simp [Go.Sort.putRow, Go.Sort.mapBlock, Array.getElem?_modify, Ne.symm e, hg']
def prs (ds : List (Int × Int)) (h : ∀ x, x ∈ ds → Bd2 x) : Array Pr := (ds.pmap (fun x h => (⟨x, h⟩ : Pr)) h).toArray
theorem prs_size (ds : List (Int × Int)) (h : ∀ x, x ∈ ds → Bd2 x) : (prs ds h).size = ds.length := by simp [prs]
theorem prs_at (ds : List (Int × Int)) (h : ∀ x, x ∈ ds → Bd2 x) {j : Nat} (hj : j < ds.length) : (prs ds h)[j]!.1 = ds.getD j (0, 0) := by
  rw [getElem!_pos _ j (by rw [prs_size]; exact hj)]
  simp [prs, List.getElem_pmap, List.getD_eq_getElem?_getD, hj]
theorem prs_list (ds : List (Int × Int)) (h : ∀ x, x ∈ ds → Bd2 x) : (prs ds h).toList.map (·.1) = ds := by
  simp [prs, List.map_pmap]
theorem holds_prs {w : World} {g : Nat} {cs : Array Value} {ds : List (Int × Int)} (h : ∀ x, x ∈ ds → Bd2 x) (hb : w.heap[g]? = some (.cells cs 133 (0, 0))) (hP : PairsAt cs ds) : Go.Sort.HoldsK encPr 2 w g 0 (prs ds h) := by
  intro j hj
  rw [Go.Sort.size_flatK, prs_size] at hj
  rw [Nat.zero_add]
  refine ⟨?_, box_frozen hb j⟩
  rw [box_cell hb, Go.Sort.get_flatK _ _ _ _ (by rw [prs_size]; exact hj)]
  obtain ⟨h0, h1⟩ := hP.2 (j / 2) (by omega)
  have e := prs_at ds h (j := j / 2) (by omega)
  rcases Nat.mod_two_eq_zero_or_one j with q | q
  · rw [q]
    have : cs[j / 2 * 2]? = cs[j]? := by congr 1; omega
    rw [← this, h0, ← e]; rfl
  · rw [q]
    have : cs[j / 2 * 2 + 1]? = cs[j]? := by congr 1; omega
    rw [← this, h1, ← e]; rfl
theorem pairs_of_holds {w : World} {g : Nat} {cs : Array Value} {d : Array Pr} (hb : w.heap[g]? = some (.cells cs 133 (0, 0))) (h : Go.Sort.HoldsK encPr 2 w g 0 d) (hs : d.size * 2 ≤ cs.size) : PairsAt cs (d.toList.map (·.1)) := by
  refine ⟨by simpa using hs, fun j hj => ?_⟩
  have hj' : j < d.size := by simpa using hj
  have h0 := (Go.Sort.HoldsK.cell h hj' (show 0 < 2 by omega)).1
  have h1 := (Go.Sort.HoldsK.cell h hj' (show 1 < 2 by omega)).1
  have e : (d.toList.map (·.1)).getD j (0, 0) = d[j]!.1 := by
    rw [getElem!_pos _ j hj']
    simp [List.getD_eq_getElem?_getD, hj']
  simp only [Nat.zero_add, Nat.add_zero] at h0 h1
  rw [box_cell hb] at h0 h1
  rw [e]
  exact ⟨h0, h1⟩
theorem perm_full {d d' : Array Pr} (h : Go.Sort.PermIn 0 d.size d d') : (d'.toList.map (·.1)).Perm (d.toList.map (·.1)) := by
  obtain ⟨h1, _, h2⟩ := h
  have e1 : d.extract 0 d.size = d := by simp
  have e2 : d'.extract 0 d.size = d' := by rw [← h1]; simp
  rw [e1, e2] at h2
  exact h2.map _
theorem sorted_full {d : Array Pr} {n : Nat} (hn : n = d.size) (h : Go.Sort.SortedIn (ltOf cfPr) 0 n d) : (d.toList.map (·.1)).Pairwise leP := by
  subst hn
  rw [List.pairwise_iff_getElem]
  intro i j hi hj hij
  have hi' : i < d.size := by simpa using hi
  have hj' : j < d.size := by simpa using hj
  have := h i j (Nat.zero_le _) hij hj'
  rw [getElem!_pos _ i hi', getElem!_pos _ j hj'] at this
  have h2 : ¬ cmpV d[j].1 d[i].1 < 0 := of_decide_eq_false this
  rw [cmpV_neg] at h2
  simp only [List.getElem_map, Array.getElem_toList]
  exact Classical.not_not.1 h2
def Sorted133 (g : Nat) (cs : Array Value) (ds : List (Int × Int)) (w w' : World) : Prop :=
  ∃ cs' d', w'.heap[g]? = some (.cells cs' 133 (0, 0)) ∧ PairsAt cs' d' ∧ d'.Perm ds ∧ d'.Pairwise leP ∧ Mk g (g + 1) (fun t => t = 133) w w'
theorem insPairs_any {w : World} {g cap : Nat} {cs : Array Value} {ds : List (Int × Int)} (hb : w.heap[g]? = some (.cells cs 133 (0, 0))) (hP : PairsAt cs ds) (hn : ds.length ≤ 10) (hbd : ∀ x, x ∈ ds → Bd2 x) :
    Calls Try.prog 145 #[.slice (some ⟨g, 0, none⟩) ds.length cap, .int .i64 0, .int .i64 ds.length, .func (.func 118) #[] #[]] w fun e w' => e = .returned (.tuple #[]) ∧ Sorted133 g cs ds w w' := by
  have eg : ∀ args w, (callFunc 118 args).run Try.prog w = .ok (.enter 118 args) w := enters_of Try.func118 (by kernel_rfl) rfl
  have hH := holds_prs hbd hb hP
  have h := Try.insertionSortCmpFunc 2 Try.isAgg133 Try.sizeOf133 encPr (fun _ => rfl) (fun x v hv => by simp [encPr] at hv; rcases hv with rfl | rfl <;> rfl) cfPr 118 #[] g 0 cap 0 ds.length (prs ds hbd) w eg (cmpLays118 _ _ _ _) hH (box_lt hb) (Nat.zero_le _) (by rw [prs_size]; exact Nat.le_refl _) (by rw [prs_size]; omega)
  rw [prs_size] at h
  refine h.mono ?_
  rintro e w' ⟨rfl, n, os, rfl⟩
  refine ⟨rfl, ?_⟩
  have hS := Go.Sort.insertionSort_holds (lt := ltOf cfPr) swoPr (prs ds hbd) 0 (prs ds hbd).size (Nat.zero_le _) (Nat.le_refl _)
  rw [prs_size] at hS
  obtain ⟨hS1, hS2⟩ := hS
  generalize Go.Sort.insertionSort (ltOf cfPr) (prs ds hbd) 0 ds.length = d' at hS1 hS2 ⊢
  have hM : Mk g (g + 1) (fun t => t = 133) w (sortWorldK encPr 2 w g 0 n d' os) := mk_putRow id hb
  obtain ⟨cs', hb', hs'⟩ := hM.row hb
  have hsz : d'.size = (prs ds hbd).size := hS1.1
  have hK := holdsK_sortWorldK_c encPr 2 w g 0 (prs ds hbd) d' n os hH (box_lt hb) hsz
  rw [prs_size] at hsz
  refine ⟨cs', d'.toList.map (·.1), hb', pairs_of_holds hb' hK (by rw [hs', hsz]; exact hP.1), ?_, sorted_full hsz.symm hS2, hM⟩
  have := perm_full (d := prs ds hbd) (d' := d') (by rw [prs_size]; exact hS1)
  rwa [prs_list] at this
set_option maxRecDepth 100000 in
set_option maxHeartbeats 1000000 in
theorem stable_any {w : World} {g cap : Nat} {cs : Array Value} {ds : List (Int × Int)} (hb : w.heap[g]? = some (.cells cs 133 (0, 0))) (hP : PairsAt cs ds) (hn : ds.length ≤ 10) (hbd : ∀ x, x ∈ ds → Bd2 x) :
    Calls Try.prog 135 #[.slice (some ⟨g, 0, none⟩) ds.length cap, .int .i64 ds.length, .func (.func 118) #[] #[]] w fun e w' => e = .returned (.tuple #[]) ∧ Sorted133 g cs ds w w' := by
  have hI := Lib.hid (insPairs_any (cap := cap) hb hP hn hbd)
  clear hb hP hbd
  go_enter Try.func135, Try.ntmps135
  go_wp2_with fail
  refine wp_loop_rounds 1 ?_
  rw [rounds_succ]
  go_wp2_with (go_at_call 145; refine hI.out.mono ?_; rintro e w' ⟨rfl, hS⟩)
  refine wp_loop_rounds 1 ?_
  rw [rounds_succ]
  go_wp2_with fail
  exact bodyPost_end (v := .tuple #[]) (by simp [results, Try.results135, go_sem]) rfl ⟨rfl, hS⟩
theorem stable117_any {w : World} {g cap : Nat} {cs : Array Value} {ds : List (Int × Int)} (hb : w.heap[g]? = some (.cells cs 133 (0, 0))) (hP : PairsAt cs ds) (hn : ds.length ≤ 10) (hbd : ∀ x, x ∈ ds → Bd2 x) :
    Calls Try.prog 117 #[.slice (some ⟨g, 0, none⟩) ds.length cap, .func (.func 118) #[] #[]] w fun e w' => e = .returned (.tuple #[]) ∧ Sorted133 g cs ds w w' := by
  have hI := Lib.hid (stable_any (cap := cap) hb hP hn hbd)
  clear hb hP hbd
  go_enter Try.func117, Try.ntmps117
  go_wp2_with (go_at_call 135; refine hI.out.mono ?_; rintro e w' ⟨rfl, hS⟩)
  exact bodyPost_end (v := .tuple #[]) (by simp [results, Try.results117, go_sem]) rfl ⟨rfl, hS⟩
end Go.Proofs.Ythhkbfjolmgloaa
