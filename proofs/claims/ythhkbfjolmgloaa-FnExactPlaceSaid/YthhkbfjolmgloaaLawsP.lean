/- What the great laws say of the best plan, in plain data: it costs no less than all alone, what is easier costs no more, all later, one train alone. Plain data alone. -/
import Derived.Test.YthhkbfjolmgloaaPlaceP
import Derived.Test.YthhkbfjolmgloaaOrderP
import Derived.Test.YthhkbfjolmgloaaCost
namespace Go.Proofs.Ythhkbfjolmgloaa
open Go.RowKit
set_option linter.unusedVariables false
set_option linter.unusedSimpArgs false
/-! ### Sums of both kinds -/
theorem sumI_sumF {α : Type} (d : α) (f : Nat → α → Int) (l : List α) : ∀ (c i : Nat), l.length - i = c → sumI f i (l.drop i) = sumF (fun j => f j (l.getD j d)) i l.length := by
  intro c
  induction c with
  | zero => intro i h; rw [sumI_end f (by omega), sumF_end _ (by omega)]
  | succ c ih =>
    intro i h
    obtain ⟨x, hx⟩ := some_of_lt (l := l) (i := i) (by omega)
    rw [sumI_at f hx, sumF_at _ (by omega : i < l.length), ih (i + 1) (by omega), getD_some hx]
theorem legsN_sumF (l : Line) : (legsN l.trains : Int) = sumF (fun i => ((l.tr i).legs.length : Int)) 0 l.trains.length := by
  have key : ∀ (ts : List Train) (c i : Nat), ts.length - i = c → (legsN (ts.drop i) : Int) = sumF (fun j => ((ts.getD j default).legs.length : Int)) i ts.length := by
    intro ts c
    induction c with
    | zero => intro i h; rw [drop_end (by omega), sumF_end _ (by omega)]; rfl
    | succ c ih =>
      intro i h
      obtain ⟨x, hx⟩ := some_of_lt (l := ts) (i := i) (by omega)
      rw [drop_some hx, sumF_at _ (by omega : i < ts.length), getD_some hx, ← ih (i + 1) (by omega)]
      simp only [legsN]; omega
  exact key l.trains _ 0 rfl
theorem Ok.sum10 {l : Line} (O : Ok l) : sumF (fun i => ((l.tr i).legs.length : Int)) 0 l.trains.length ≤ 10 := by
  rw [← legsN_sumF]; have := O.nlegs; omega
theorem legsAll_N (l : Line) : legsAll l = legsN l.trains := by
  have := legsN_sumF l
  have := legsAll_eq l
  rw [remain_start] at this
  omega
/-! ### Alone -/
theorem legSum_leg {l : Line} {i k : Nat} (hk : k < (l.tr i).legs.length) : legSum ((l.tr i).legs.drop k) = (l.leg i k).stay + (l.leg i k).run + legSum ((l.tr i).legs.drop (k + 1)) := legSum_at (Line.leg_at hk)
theorem alone_st {l : Line} {p : List (List Int)} {i : Nat} (hr : ∀ k, k < (l.tr i).legs.length → readyT l p i k ≤ st p i k) : ∀ k, k < (l.tr i).legs.length → aloneT (l.tr i) ≤ st p i k + (l.leg i k).run + legSum ((l.tr i).legs.drop (k + 1)) := by
  intro k
  induction k with
  | zero =>
    intro hk
    have h1 := hr 0 hk
    have h2 := legSum_leg (l := l) (i := i) hk
    unfold readyT at h1
    rw [if_pos rfl] at h1
    rw [List.drop_zero] at h2
    unfold aloneT
    omega
  | succ k ih =>
    intro hk
    have h0 := ih (by omega)
    have h1 := hr (k + 1) hk
    have h2 := legSum_leg (l := l) (i := i) hk
    unfold readyT at h1
    rw [if_neg (by omega), show k + 1 - 1 = k by omega] at h1
    omega
theorem alone_le {l : Line} {p : List (List Int)} (C : Can l p) {i : Nat} (hi : i < l.trains.length) : aloneT (l.tr i) ≤ arrT l p i := by
  have hn := C.ok.bd.nl1 i hi
  have h := alone_st (fun k hk => C.ready i k hi hk) ((l.tr i).legs.length - 1) (by omega)
  rw [show (l.tr i).legs.length - 1 + 1 = (l.tr i).legs.length by omega, legSum_end (Nat.le_refl _)] at h
  unfold arrT
  rw [C.fits.row hi]
  omega
theorem least_sumF (l : Line) : least l.trains = sumF (fun i => lateT (l.tr i) (aloneT (l.tr i))) 0 l.trains.length := by
  have := sumI_sumF default (fun _ t => lateT t (aloneT t)) l.trains _ 0 rfl
  exact this
theorem least_le {l : Line} {p : List (List Int)} (C : Can l p) : leastA l ≤ costF l p := by
  unfold leastA
  rw [if_pos (right_iff.2 C.ok), least_sumF]
  exact sumF_le fun i _ hi => lateT_mono (C.ok.train i _ (Line.tr_at hi)) (alone_le C hi)
/-! ### Easier -/
structure Easier (l q : Line) : Prop where
  ok : Ok q
  n : q.trains.length ≤ l.trains.length
  len : ∀ i, i < q.trains.length → (q.tr i).legs.length = (l.tr i).legs.length
  frm : ∀ i, i < q.trains.length → (q.tr i).frm = (l.tr i).frm
  ready : ∀ i, i < q.trains.length → (q.tr i).ready = (l.tr i).ready
  due : ∀ i, i < q.trains.length → (q.tr i).due = (l.tr i).due
  weight : ∀ i, i < q.trains.length → (q.tr i).weight = (l.tr i).weight
  leg : ∀ i k, i < q.trains.length → k < (l.tr i).legs.length → (q.leg i k).to = (l.leg i k).to ∧ (q.leg i k).run ≤ (l.leg i k).run ∧ (q.leg i k).stay ≤ (l.leg i k).stay
  gap : q.gap ≤ l.gap
  tk : ∀ s, s < l.tracks.length → l.tk s ≤ q.tk s
theorem take_st {p : List (List Int)} {n i k : Nat} (h : i < n) : st (p.take n) i k = st p i k := by
  unfold st
  simp [List.getD_eq_getElem?_getD, List.getElem?_take, h]
theorem take_row {p : List (List Int)} {n i : Nat} (h : i < n) : (p.take n).getD i [] = p.getD i [] := by
  simp [List.getD_eq_getElem?_getD, List.getElem?_take, h]
theorem Easier.trk {l q : Line} (E : Easier l q) {i k : Nat} (hi : i < q.trains.length) (hk : k < (l.tr i).legs.length) : (q.tr i).trk k = (l.tr i).trk k := by
  have h1 := (E.leg i k hi hk).1
  unfold Train.trk Train.at_
  unfold Line.leg at h1
  rw [h1]
  by_cases e : k = 0
  · rw [if_pos e, if_pos e, E.frm i hi]
  · have h2 := (E.leg i (k - 1) hi (by omega)).1
    unfold Line.leg at h2
    rw [if_neg e, if_neg e, h2]
theorem fits_mk {l : Line} {p : List (List Int)} (h1 : p.length = l.trains.length) (h2 : ∀ i, i < l.trains.length → (p.getD i []).length = (l.tr i).legs.length) (h3 : ∀ i k, i < l.trains.length → k < (l.tr i).legs.length → 0 ≤ st p i k ∧ st p i k ≤ 1000000) : Fits l p where
  rows := h1
  len := fun i t ht r hr => by
    have hi := lt_of_some ht
    have e1 := Line.tr_at hi
    rw [ht] at e1
    have e2 : p.getD i [] = r := getD_some hr
    rw [← e2, h2 i hi]
    simp only [Option.some.injEq] at e1
    rw [e1]
  at_ := fun i r hr k x hx => by
    have hi : i < l.trains.length := by rw [← h1]; exact lt_of_some hr
    have e2 : p.getD i [] = r := getD_some hr
    have hk : k < (l.tr i).legs.length := by rw [← h2 i hi, e2]; exact lt_of_some hx
    have := h3 i k hi hk
    unfold st at this
    rw [e2, getD_some hx] at this
    exact this
theorem Easier.can {l q : Line} {p : List (List Int)} (E : Easier l q) (C : Can l p) : Can q (p.take q.trains.length) ∧ costF q (p.take q.trains.length) ≤ costF l p := by
  have hlt : ∀ {i}, i < q.trains.length → i < l.trains.length := fun h => Nat.lt_of_lt_of_le h E.n
  have hrow : ∀ i, i < q.trains.length → ((p.take q.trains.length).getD i []).length = (q.tr i).legs.length := fun i hi => by
    rw [take_row hi, C.fits.row (hlt hi), E.len i hi]
  have hlv : ∀ j m, j < q.trains.length → m < (l.tr j).legs.length → leaves q (p.take q.trains.length) j m ≤ leaves l p j m := by
    intro j m hj hm
    unfold leaves
    rw [take_st hj, take_st hj, E.len j hj]
    have := (E.leg j m hj hm).2.1
    by_cases e : m + 1 < (l.tr j).legs.length
    · rw [if_pos e, if_pos e]; exact Int.le_refl _
    · rw [if_neg e, if_neg e]; omega
  refine ⟨⟨E.ok, fits_mk (by rw [List.length_take, C.fits.rows]; have := E.n; omega) hrow (fun i k hi hk => by rw [take_st hi]; exact C.fits.bd (hlt hi) (by rw [← E.len i hi]; exact hk)), ?_, ?_, ?_⟩, ?_⟩
  · intro i k hi hk
    rw [E.len i hi] at hk
    have h1 := C.ready i k (hlt hi) hk
    unfold readyT at h1 ⊢
    rw [take_st hi, take_st hi]
    have h2 := E.leg i k hi hk
    have h3 := E.leg i 0 hi (by omega)
    have h4 := E.leg i (k - 1) hi (by omega)
    have h5 := E.ready i hi
    by_cases e : k = 0
    · subst e
      rw [if_pos rfl] at h1 ⊢; omega
    · rw [if_neg e] at h1 ⊢; omega
  · intro i k j m hi hk hj hm
    rw [E.len i hi] at hk
    rw [E.len j hj] at hm
    have h1 := C.apart i k j m (hlt hi) hk (hlt hj) hm
    unfold tight at h1 ⊢
    rw [E.trk hi hk, E.trk hj hm, take_st hi, take_st hj]
    simp only [decide_eq_false_iff_not] at h1 ⊢
    rintro ⟨a1, a2, a3, a4⟩
    have h2 := (E.leg j m hj hm).2.1
    have h3 := E.gap
    exact h1 ⟨a1, a2, a3, by omega⟩
  · intro i k hi hk
    rw [E.len i hi] at hk
    have h1 := C.room i k (hlt hi) hk
    have h2 := (E.leg i k hi hk).1
    have hto := C.ok.bd.leg i k (hlt hi) hk
    have h3 := E.tk (l.leg i k).to.toNat hto.2.1
    rw [h2]
    refine Int.le_trans (Int.le_trans ?_ h1) h3
    unfold taken
    have nn : ∀ j m, 0 ≤ takes l p i k j m := fun j m => by unfold takes; split; exact Int.le_refl _; split <;> decide
    refine sumF_le' E.n (fun j hj => ?_) (fun j hj => (sumF_bd (b := 1) fun m _ _ => ⟨nn j m, by unfold takes; split; decide; split <;> decide⟩).1)
    rw [E.len j hj]
    refine sumF_le fun m _ hm => ?_
    unfold takes
    rw [h2, (E.leg j m hj hm).1, take_st hi, take_st hj]
    have hl := hlv j m hj hm
    by_cases c1 : (l.leg j m).to ≠ (l.leg i k).to
    · rw [if_pos c1, if_pos c1]; exact Int.le_refl _
    · rw [if_neg c1, if_neg c1]
      by_cases c2 : st p j m > st p i k ∨ st p j m = st p i k ∧ j > i ∨ leaves l p j m < st p i k ∧ (j ≠ i ∨ m ≠ k)
      · rw [if_pos c2, if_pos]
        · exact Int.le_refl _
        · rcases c2 with c2 | c2 | c2
          · exact Or.inl c2
          · exact Or.inr (Or.inl c2)
          · exact Or.inr (Or.inr ⟨by omega, c2.2⟩)
      · rw [if_neg c2]; split <;> decide
  · unfold costF
    refine sumF_le' E.n (fun i hi => ?_) (fun i hi => (lateT_bd (C.ok.train i _ (Line.tr_at hi)) (by have := arrT_bd C hi; omega)).1)
    have hw := E.weight i hi
    have hd := E.due i hi
    have hT := C.ok.train i _ (Line.tr_at (hlt hi))
    have e : lateT (q.tr i) (arrT q (p.take q.trains.length) i) = lateT (l.tr i) (arrT q (p.take q.trains.length) i) := by unfold lateT; rw [hw, hd]
    rw [e]
    refine lateT_mono hT ?_
    have hn := C.ok.bd.nl1 i (hlt hi)
    unfold arrT
    rw [hrow i hi, C.fits.row (hlt hi), E.len i hi, take_st hi]
    have := (E.leg i ((l.tr i).legs.length - 1) hi (by omega)).2.1
    omega
/-- What is easier has a plan too, at no more cost. -/
theorem Easier.solve {l q : Line} (E : Easier l q) (O : Ok l) {fl fl' : Int → Int} (hfl : ∀ x, 0 ≤ x → fl x ≤ x) (hfl' : ∀ x, 0 ≤ x → fl' x ≤ x) {c : Int} {b : List (List Int)} (h : solveA l fl = some (c, b)) : ∃ c' b', solveA q fl' = some (c', b') ∧ c' ≤ c := by
  obtain ⟨C, e, _⟩ := solve_some O O.sum10 hfl h
  obtain ⟨C', hc⟩ := E.can C
  cases h' : solveA q fl' with
  | none => exact absurd C' (solve_none E.ok E.ok.sum10 hfl' h' _)
  | some cb =>
    obtain ⟨c', b'⟩ := cb
    obtain ⟨_, _, m⟩ := solve_some E.ok E.ok.sum10 hfl' h'
    refine ⟨c', b', rfl, ?_⟩
    have := m _ C'
    simp only [leA] at this
    omega
/-! ### The drawn plans are no better -/
theorem best_le {l : Line} (O : Ok l) {fl : Int → Int} (hfl : ∀ x, 0 ≤ x → fl x ≤ x) {c : Int} {b p : List (List Int)} (h : solveA l fl = some (c, b)) (C : Can l p) : c ≤ costF l p ∧ (c = costF l p → cmpP l p b ≠ .lt) := by
  obtain ⟨_, _, m⟩ := solve_some O O.sum10 hfl h
  have := m p C
  simp only [leA] at this
  refine ⟨by omega, fun e => ?_⟩
  rcases this with q | q
  · omega
  · intro h2
    rw [cmpP_swap l p b, h2] at q
    exact q.2 rfl
end Go.Proofs.Ythhkbfjolmgloaa
