/- laws.markLine, markPlan: numbers are written over a line, a plan of the call's own; what else there is stays. Condition: the rows hold at most 2^20 values. -/
import Derived.Test.YthhkbfjolmgloaaMark
namespace Go.Proofs.Ythhkbfjolmgloaa
open Go.RowKit
set_option linter.unusedVariables false
set_option linter.unusedSimpArgs false
def MLine (lo hi : Nat) (w : World) (v : Value) (l : Line) : Prop := ∃ v0 v2, v = .agg #[v0, .int .i64 l.gap, v2] ∧ MRow lo hi w 3 v0 l.tracks.length 1 ∧ MTrains lo hi w v2 (l.trains.map (·.legs.length))
theorem MTrains.mk {lo hi lo' hi' : Nat} {T : TypeId → Prop} {w w' : World} {v : Value} {ns : List Nat} (h : MTrains lo hi w v ns) (k : Mk lo' hi' T w w') (hT : ¬ T 80) : MTrains lo hi w' v ns := by
  rcases h with h | ⟨g, c, cs, h1, h2, h3, h4, h5, h6⟩
  · exact Or.inl h
  · refine Or.inr ⟨g, c, cs, h1, h2, h3, k.other h4 hT, h5, fun j m hj => ?_⟩
    obtain ⟨u, q1, q2⟩ := h6 j m hj
    exact ⟨u, q1, q2.mk k⟩
theorem MLine.mk {lo hi lo' hi' : Nat} {T : TypeId → Prop} {w w' : World} {v : Value} {l : Line} (h : MLine lo hi w v l) (k : Mk lo' hi' T w w') (hT : ¬ T 80) : MLine lo hi w' v l := by
  obtain ⟨v0, v2, h1, h2, h3⟩ := h
  exact ⟨v0, v2, h1, h2.mk k, h3.mk k hT⟩
theorem MLine.ext {lo hi : Nat} {w w' : World} {v : Value} {l : Line} (h : MLine lo hi w v l) (e : Ext w w') : MLine lo hi w' v l := h.mk (Mk.of_ext (lo := lo) (hi := hi) (T := fun _ => False) e) (fun h => h)
theorem OwnInts.mrow {B : Nat} {w : World} {v : Value} {xs : List Int} (h : OwnInts B w v xs) : MRow B w.heap.size w 3 v xs.length 1 := by
  obtain ⟨g, rfl, h1, h2⟩ := h
  exact Or.inr ⟨g, _, _, rfl, h1, box_lt h2, h2, by simp [nums]⟩
theorem legRows_len (xs : List Leg) : (xs.map legRow).flatten.length = xs.length * 3 := by
  induction xs with
  | nil => rfl
  | cons y ys ih => simp only [List.map_cons, List.flatten_cons, List.length_append, ih, List.length_cons]; simp [legRow]; omega
theorem OwnLegs.mrow {B : Nat} {w : World} {v : Value} {xs : List Leg} (h : OwnLegs B w v xs) : MRow B w.heap.size w 84 v xs.length 3 := by
  obtain ⟨g, rfl, h1, h2⟩ := h
  exact Or.inr ⟨g, _, _, rfl, h1, box_lt h2, h2, by rw [List.size_toArray, legRows_len]; exact Nat.le_refl _⟩
theorem five_len {rows : List (List Value)} (h : ∀ q, q ∈ rows → q.length = 5) : rows.flatten.length = rows.length * 5 := by
  induction rows with
  | nil => rfl
  | cons y ys ih =>
    simp only [List.flatten_cons, List.length_append, List.length_cons]
    rw [ih (fun q hq => h q (List.mem_cons_of_mem _ hq)), h y List.mem_cons_self]; omega
theorem OwnTrains.mtrains {B : Nat} {w : World} {v : Value} {xs : List Train} (h : OwnTrains B w v xs) : MTrains B w.heap.size w v (xs.map (·.legs.length)) := by
  obtain ⟨g, rows, rfl, h1, h2, h3⟩ := h
  refine Or.inr ⟨g, xs.length, _, by simp, h1, box_lt h2, h2, ?_, fun j m hj => ?_⟩
  · rw [List.size_toArray, five_len h3.five, h3.len]; simp
  · simp only [List.getElem?_map, Option.map_eq_some_iff] at hj
    obtain ⟨x, hx, rfl⟩ := hj
    obtain ⟨u, hr, ho⟩ := h3.row j x (lt_of_some hx) hx
    refine ⟨u, ?_, ho.mrow⟩
    rw [List.getElem?_toArray, flatten_get h3.five hr (by omega)]
    rfl
theorem OwnLine.mline {B : Nat} {w : World} {v : Value} {l : Line} (h : OwnLine B w v l) : MLine B w.heap.size w v l := by
  obtain ⟨v0, v2, rfl, h2, h3⟩ := h
  exact ⟨v0, v2, rfl, h2.mrow, h3.mtrains⟩
def lineTypes (t : TypeId) : Prop := t = 3 ∨ t = 80 ∨ t = 84
set_option maxRecDepth 100000 in
set_option maxHeartbeats 8000000 in
theorem markLine_any {w : World} {lo hi : Nat} {v : Value} {l : Line} (hv : MLine lo hi w v l) (S : l.Small) (k : Int) (hk0 : 0 ≤ k) (hk1 : k ≤ 1048576) :
    Calls Try.prog 49 #[v, .int .i64 k] w fun e w' => ∃ k', e = .returned (.int .i64 k') ∧ 0 ≤ k' ∧ k' ≤ 4398048608256 ∧ Mk lo hi lineTypes w w' := by
  have S0 := S.tracks
  have S2 := S.trains
  have S4 := Lib.hid S.legs
  obtain ⟨v0, v2, rfl, h0, h2⟩ := hv
  obtain ⟨A0, c0, rfl⟩ := h0.form
  have hl : (l.trains.map (·.legs.length)).length = l.trains.length := by simp
  obtain ⟨A2, c2, e2⟩ := h2.form
  rw [hl] at e2
  subst e2
  have H0 := Lib.hid h0
  have H2 := Lib.hid h2
  clear h0 h2
  go_enter Try.func49, Try.ntmps49
  go_wp2_with fail
  refine (markIntS_any (lo := lo) (hi := hi) (H0.out.ext (by repeat (first | (with_reducible assumption) | (with_reducible exact Ext.refl _) | apply Ext.alloc | apply Ext.drewN | apply Ext.drew))) S0 _ hk0 (by omega)).mono ?_
  rintro e w1 ⟨rfl, hM⟩
  have hX : Mk lo hi (fun t => t = 3) w w1 := (Mk.of_ext (by repeat (first | (with_reducible assumption) | (with_reducible exact Ext.refl _) | apply Ext.alloc | apply Ext.drewN | apply Ext.drew))).trans hM
  have hb := hM.other (box_new w (.cells #[.slice A0 l.tracks.length c0, .int .i64 l.gap, .slice A2 l.trains.length c2] 33)) (by decide)
  have g2 : w1.cell? ⟨w.heap.size, 2, none⟩ = _ := box_cell hb 2
  have gl := box_lt hb
  clear hM
  go_wp2_with fail
  refine (markTrainS_any (lo := lo) (hi := hi) (H2.out.mk hX (by decide)) (by omega) (fun j m hj => by simp only [List.getElem?_map, Option.map_eq_some_iff] at hj; obtain ⟨x, hx, rfl⟩ := hj; exact S4.out j x hx) _ (by omega) (by omega)).mono ?_
  rintro e w2 ⟨k', rfl, hk2, hk3, hM2⟩
  rw [hl] at hk3
  go_wp2_with fail
  go_ret
  refine ⟨k', rfl, hk2, by omega, (hX.mono (fun t ht => Or.inl ht)).trans (hM2.mono (fun t ht => Or.inr ht))⟩
/-- Rows of numbers of the call's own, with so many numbers each. -/
def MRows (lo hi : Nat) (w : World) (v : Value) (ns : List Nat) : Prop := ns = [] ∧ (∃ A c, v = .slice A 0 c) ∨ ∃ g c cs, v = .slice (some ⟨g, 0, none⟩) ns.length c ∧ w.heap[g]? = some (.cells cs 23 (0, 0)) ∧ ∀ (j m : Nat), ns[j]? = some m → ∃ u, cs[j]? = some u ∧ MRow lo hi w 3 u m 1
theorem MRows.form {lo hi : Nat} {w : World} {v : Value} {ns : List Nat} (h : MRows lo hi w v ns) : ∃ A c, v = .slice A ns.length c := by
  rcases h with ⟨rfl, A, c, rfl⟩ | ⟨g, c, cs, rfl, _⟩
  · exact ⟨A, c, rfl⟩
  · exact ⟨_, _, rfl⟩
theorem MRows.mk {lo hi lo' hi' : Nat} {T : TypeId → Prop} {w w' : World} {v : Value} {ns : List Nat} (h : MRows lo hi w v ns) (k : Mk lo' hi' T w w') (hT : ¬ T 23) : MRows lo hi w' v ns := by
  rcases h with h | ⟨g, c, cs, h1, h4, h6⟩
  · exact Or.inl h
  · refine Or.inr ⟨g, c, cs, h1, k.other h4 hT, fun j m hj => ?_⟩
    obtain ⟨u, q1, q2⟩ := h6 j m hj
    exact ⟨u, q1, q2.mk k⟩
theorem MRows.ext {lo hi : Nat} {w w' : World} {v : Value} {ns : List Nat} (h : MRows lo hi w v ns) (e : Ext w w') : MRows lo hi w' v ns := h.mk (Mk.of_ext (lo := lo) (hi := hi) (T := fun _ => False) e) (fun h => h)
set_option maxRecDepth 100000 in
set_option maxHeartbeats 8000000 in
theorem markIntSS_any {w : World} {lo hi : Nat} {v : Value} {ns : List Nat} (hv : MRows lo hi w v ns) (hn : ns.length ≤ 1048576) (hm : ∀ (j m : Nat), ns[j]? = some m → m ≤ 1048576) (k : Int) (hk0 : 0 ≤ k) (hk1 : k ≤ 1099511627776000) :
    Calls Try.prog 116 #[v, .int .i64 k] w fun e w' => ∃ k', e = .returned (.int .i64 k') ∧ 0 ≤ k' ∧ k' ≤ k + 1048576 * ns.length ∧ Mk lo hi (fun t => t = 3) w w' := by
  obtain ⟨A, c, rfl⟩ := hv.form
  have HV := Lib.hid hv; clear hv
  have HM := Lib.hid hm; clear hm
  go_enter Try.func116, Try.ntmps116
  go_wp2_with fail
  go_loopw [1, 5] (fun a j wr => ∃ (jj : Nat) (q : Int), jj ≤ ns.length ∧ j = .int .i64 jj ∧ a = .int .i64 q ∧ 0 ≤ q ∧ q ≤ k + 1048576 * jj ∧ Mk lo hi (fun t => t = 3) w wr) (fun _ j _ => ns.length - (intOf j).toNat)
  case atStart => exact ⟨0, k, Nat.zero_le _, rfl, rfl, hk0, by simp, Mk.refl _ _ _ _⟩
  case round =>
    obtain ⟨jj, q, hjj, rfl, rfl, hq0, hq1, hM⟩ := hrel
    by_cases hlt : jj < ns.length
    · rcases HV.out.mk hM (by decide) with ⟨h0, _⟩ | ⟨g, c', cs, h1, h4, h6⟩
      · subst h0; simp at hlt
      · simp only [Value.slice.injEq] at h1
        obtain ⟨rfl, _, rfl⟩ := h1
        obtain ⟨m, hm⟩ := hid_of_lt hlt
        have hm2 := HM.out jj m hm.out
        obtain ⟨u, hu, hU⟩ := h6 jj m hm.out
        have hu' := (box_cell h4 jj).trans hu
        obtain ⟨A4, c4, rfl⟩ := hU.form
        have HU := Lib.hid hU; clear hU h6 hu
        have hlt2 := box_lt h4
        have HM0 := Lib.hid hM; clear hM
        go_wp2_with fail
        refine (markIntS_any (lo := lo) (hi := hi) HU.out hm2 _ (by omega) (by omega)).mono ?_
        rintro e w5 ⟨rfl, hM5⟩
        have hM6 := Lib.hid (HM0.out.trans hM5)
        go_wp2_with fail
        exact ⟨⟨jj + 1, q + m, by omega, by go_num, rfl, by omega, by omega, hM6.out⟩, (by simp [intOf]; omega)⟩
    · obtain rfl : jj = ns.length := by omega
      go_wp2_with fail
      go_ret
      exact ⟨q, rfl, hq0, hq1, hM⟩
def MPlan (lo hi : Nat) (w : World) (v : Value) (p : List (List Int)) : Prop := ∃ v0, v = .agg #[v0] ∧ MRows lo hi w v0 (p.map List.length)
theorem MPlan.mk {lo hi lo' hi' : Nat} {T : TypeId → Prop} {w w' : World} {v : Value} {p : List (List Int)} (h : MPlan lo hi w v p) (k : Mk lo' hi' T w w') (hT : ¬ T 23) : MPlan lo hi w' v p := by
  obtain ⟨v0, h1, h2⟩ := h
  exact ⟨v0, h1, h2.mk k hT⟩
theorem MPlan.ext {lo hi : Nat} {w w' : World} {v : Value} {p : List (List Int)} (h : MPlan lo hi w v p) (e : Ext w w') : MPlan lo hi w' v p := h.mk (Mk.of_ext (lo := lo) (hi := hi) (T := fun _ => False) e) (fun h => h)
theorem OwnRows.mrows {B : Nat} {w : World} {v : Value} {xs : List (List Int)} (h : OwnRows B w v xs) : MRows B w.heap.size w v (xs.map List.length) := by
  obtain ⟨g, vs, rfl, h1, h2, h3⟩ := h
  refine Or.inr ⟨g, xs.length, _, by simp, h2, fun j m hj => ?_⟩
  simp only [List.getElem?_map, Option.map_eq_some_iff] at hj
  obtain ⟨x, hx, rfl⟩ := hj
  obtain ⟨u, hr, ho⟩ := h3.row j x (lt_of_some hx) hx
  exact ⟨u, by rw [List.getElem?_toArray]; exact hr, ho.mrow⟩
theorem OwnPlan.mplan {B : Nat} {w : World} {v : Value} {p : List (List Int)} (h : OwnPlan B w v p) : MPlan B w.heap.size w v p := by
  obtain ⟨g, rfl, h1⟩ := h
  exact ⟨_, rfl, h1.mrows⟩
set_option maxRecDepth 100000 in
set_option maxHeartbeats 8000000 in
theorem markPlan_any {w : World} {lo hi : Nat} {v : Value} {p : List (List Int)} (hv : MPlan lo hi w v p) (hn : p.length ≤ 1048576) (hl : ∀ (i : Nat) (t : List Int), p[i]? = some t → t.length ≤ 1048576) (k : Int) (hk0 : 0 ≤ k) (hk1 : k ≤ 1099511627776000) :
    Calls Try.prog 50 #[v, .int .i64 k] w fun e w' => ∃ k', e = .returned (.int .i64 k') ∧ 0 ≤ k' ∧ k' ≤ k + 1099511627776 ∧ Mk lo hi (fun t => t = 3) w w' := by
  obtain ⟨v0, rfl, h0⟩ := hv
  have hlen : (p.map List.length).length = p.length := by simp
  obtain ⟨A0, c0, e0⟩ := h0.form
  rw [hlen] at e0
  subst e0
  have H0 := Lib.hid h0; clear h0
  have HL := Lib.hid hl; clear hl
  go_enter Try.func50, Try.ntmps50
  go_wp2_with fail
  refine (markIntSS_any (lo := lo) (hi := hi) (H0.out.ext (by repeat (first | (with_reducible assumption) | (with_reducible exact Ext.refl _) | apply Ext.alloc | apply Ext.drewN | apply Ext.drew))) (by omega) (fun j m hj => by simp only [List.getElem?_map, Option.map_eq_some_iff] at hj; obtain ⟨x, hx, rfl⟩ := hj; exact HL.out j x hx) _ hk0 hk1).mono ?_
  rintro e w1 ⟨k', rfl, hk2, hk3, hM⟩
  rw [hlen] at hk3
  go_wp2_with fail
  go_ret
  exact ⟨k', rfl, hk2, by omega, (Mk.of_ext (by repeat (first | (with_reducible assumption) | (with_reducible exact Ext.refl _) | apply Ext.alloc | apply Ext.drewN | apply Ext.drew))).trans hM⟩
end Go.Proofs.Ythhkbfjolmgloaa
