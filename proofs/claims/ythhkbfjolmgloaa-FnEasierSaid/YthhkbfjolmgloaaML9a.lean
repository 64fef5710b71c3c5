/- What the great laws say of the best plan, in plain data: it costs no less than all alone, what is easier costs no more, all later, one train alone. Plain data alone.
   What the great laws say of the best plan, in plain data: all later, one train alone, the plan of a plan's own order. Plain data alone. -/
import Derived.Test.YthhkbfjolmgloaaML7a
import Derived.Test.YthhkbfjolmgloaaMHCost
namespace Go.Proofs.Ythhkbfjolmgloaa
open Go.RowKit
set_option linter.unusedVariables false
set_option linter.unusedSimpArgs false
/-! ### Sums of both kinds -/
theorem sumI_sumF {α : Type} (d : α) (f : Nat → α → Int) (l : List α) : ∀ (c i : Nat), l.length - i = c → sumI f i (l.drop i) = sumF (fun j => f j (l.getD j d)) i l.length := by
  intro c
  induction c with
  | zero => intro i h; rw [sumI_end f (by omega), sumF_end _ (by omega)]
  | succ c ih =>
    intro i h
    obtain ⟨x, hx⟩ := some_of_lt (l := l) (i := i) (by omega)
    rw [sumI_at f hx, sumF_at _ (by omega : i < l.length), ih (i + 1) (by omega), getD_some hx]
theorem legsN_sumF (l : Line) : (legsN l.trains : Int) = sumF (fun i => ((l.tr i).legs.length : Int)) 0 l.trains.length := by
  have key : ∀ (ts : List Train) (c i : Nat), ts.length - i = c → (legsN (ts.drop i) : Int) = sumF (fun j => ((ts.getD j default).legs.length : Int)) i ts.length := by
    intro ts c
    induction c with
    | zero => intro i h; rw [drop_end (by omega), sumF_end _ (by omega)]; rfl
    | succ c ih =>
      intro i h
      obtain ⟨x, hx⟩ := some_of_lt (l := ts) (i := i) (by omega)
      rw [drop_some hx, sumF_at _ (by omega : i < ts.length), getD_some hx, ← ih (i + 1) (by omega)]
      simp only [legsN]; omega
  exact key l.trains _ 0 rfl
theorem Ok.sum10 {l : Line} (O : Ok l) : sumF (fun i => ((l.tr i).legs.length : Int)) 0 l.trains.length ≤ 10 := by
  rw [← legsN_sumF]; have := O.nlegs; omega
theorem legsAll_N (l : Line) : legsAll l = legsN l.trains := by
  have := legsN_sumF l
  have := legsAll_eq l
  rw [remain_start] at this
  omega
/-! ### Alone -/
theorem legSum_leg {l : Line} {i k : Nat} (hk : k < (l.tr i).legs.length) : legSum ((l.tr i).legs.drop k) = (l.leg i k).stay + (l.leg i k).run + legSum ((l.tr i).legs.drop (k + 1)) := legSum_at (Line.leg_at hk)
theorem alone_st {l : Line} {p : List (List Int)} {i : Nat} (hr : ∀ k, k < (l.tr i).legs.length → readyT l p i k ≤ st p i k) : ∀ k, k < (l.tr i).legs.length → aloneT (l.tr i) ≤ st p i k + (l.leg i k).run + legSum ((l.tr i).legs.drop (k + 1)) := by
  intro k
  induction k with
  | zero =>
    intro hk
    have h1 := hr 0 hk
    have h2 := legSum_leg (l := l) (i := i) hk
    unfold readyT at h1
    rw [if_pos rfl] at h1
    rw [List.drop_zero] at h2
    unfold aloneT
    omega
  | succ k ih =>
    intro hk
    have h0 := ih (by omega)
    have h1 := hr (k + 1) hk
    have h2 := legSum_leg (l := l) (i := i) hk
    unfold readyT at h1
    rw [if_neg (by omega), show k + 1 - 1 = k by omega] at h1
    omega
theorem alone_le {l : Line} {p : List (List Int)} (C : Can l p) {i : Nat} (hi : i < l.trains.length) : aloneT (l.tr i) ≤ arrT l p i := by
  have hn := C.ok.bd.nl1 i hi
  have h := alone_st (fun k hk => C.ready i k hi hk) ((l.tr i).legs.length - 1) (by omega)
  rw [show (l.tr i).legs.length - 1 + 1 = (l.tr i).legs.length by omega, legSum_end (Nat.le_refl _)] at h
  unfold arrT
  rw [C.fits.row hi]
  omega
theorem least_sumF (l : Line) : least l.trains = sumF (fun i => lateT (l.tr i) (aloneT (l.tr i))) 0 l.trains.length := by
  have := sumI_sumF default (fun _ t => lateT t (aloneT t)) l.trains _ 0 rfl
  exact this
theorem least_le {l : Line} {p : List (List Int)} (C : Can l p) : leastA l ≤ costF l p := by
  unfold leastA
  rw [if_pos (right_iff.2 C.ok), least_sumF]
  exact sumF_le fun i _ hi => lateT_mono (C.ok.train i _ (Line.tr_at hi)) (alone_le C hi)
/-! ### Easier -/
structure Easier (l q : Line) : Prop where
  ok : Ok q
  n : q.trains.length ≤ l.trains.length
  len : ∀ i, i < q.trains.length → (q.tr i).legs.length = (l.tr i).legs.length
  frm : ∀ i, i < q.trains.length → (q.tr i).frm = (l.tr i).frm
  ready : ∀ i, i < q.trains.length → (q.tr i).ready = (l.tr i).ready
  due : ∀ i, i < q.trains.length → (q.tr i).due = (l.tr i).due
  weight : ∀ i, i < q.trains.length → (q.tr i).weight = (l.tr i).weight
  leg : ∀ i k, i < q.trains.length → k < (l.tr i).legs.length → (q.leg i k).to = (l.leg i k).to ∧ (q.leg i k).run ≤ (l.leg i k).run ∧ (q.leg i k).stay ≤ (l.leg i k).stay
  gap : q.gap ≤ l.gap
  tk : ∀ s, s < l.tracks.length → l.tk s ≤ q.tk s
theorem take_st {p : List (List Int)} {n i k : Nat} (h : i < n) : st (p.take n) i k = st p i k := by
  unfold st
  simp [List.getD_eq_getElem?_getD, List.getElem?_take, h]
theorem take_row {p : List (List Int)} {n i : Nat} (h : i < n) : (p.take n).getD i [] = p.getD i [] := by
  simp [List.getD_eq_getElem?_getD, List.getElem?_take, h]
theorem Easier.trk {l q : Line} (E : Easier l q) {i k : Nat} (hi : i < q.trains.length) (hk : k < (l.tr i).legs.length) : (q.tr i).trk k = (l.tr i).trk k := by
  have h1 := (E.leg i k hi hk).1
  unfold Train.trk Train.at_
  unfold Line.leg at h1
  rw [h1]
  by_cases e : k = 0
  · rw [if_pos e, if_pos e, E.frm i hi]
  · have h2 := (E.leg i (k - 1) hi (by omega)).1
    unfold Line.leg at h2
    rw [if_neg e, if_neg e, h2]
theorem fits_mk {l : Line} {p : List (List Int)} (h1 : p.length = l.trains.length) (h2 : ∀ i, i < l.trains.length → (p.getD i []).length = (l.tr i).legs.length) (h3 : ∀ i k, i < l.trains.length → k < (l.tr i).legs.length → 0 ≤ st p i k ∧ st p i k ≤ 1000000) : Fits l p where
  rows := h1
  len := fun i t ht r hr => by
    have hi := lt_of_some ht
    have e1 := Line.tr_at hi
    rw [ht] at e1
    have e2 : p.getD i [] = r := getD_some hr
    rw [← e2, h2 i hi]
    simp only [Option.some.injEq] at e1
    rw [e1]
  at_ := fun i r hr k x hx => by
    have hi : i < l.trains.length := by rw [← h1]; exact lt_of_some hr
    have e2 : p.getD i [] = r := getD_some hr
    have hk : k < (l.tr i).legs.length := by rw [← h2 i hi, e2]; exact lt_of_some hx
    have := h3 i k hi hk
    unfold st at this
    rw [e2, getD_some hx] at this
    exact this
theorem Easier.can {l q : Line} {p : List (List Int)} (E : Easier l q) (C : Can l p) : Can q (p.take q.trains.length) ∧ costF q (p.take q.trains.length) ≤ costF l p := by
  have hlt : ∀ {i}, i < q.trains.length → i < l.trains.length := fun h => Nat.lt_of_lt_of_le h E.n
  have hrow : ∀ i, i < q.trains.length → ((p.take q.trains.length).getD i []).length = (q.tr i).legs.length := fun i hi => by
    rw [take_row hi, C.fits.row (hlt hi), E.len i hi]
  have hlv : ∀ j m, j < q.trains.length → m < (l.tr j).legs.length → leaves q (p.take q.trains.length) j m ≤ leaves l p j m := by
    intro j m hj hm
    unfold leaves
    rw [take_st hj, take_st hj, E.len j hj]
    have := (E.leg j m hj hm).2.1
    by_cases e : m + 1 < (l.tr j).legs.length
    · rw [if_pos e, if_pos e]; exact Int.le_refl _
    · rw [if_neg e, if_neg e]; omega
  refine ⟨⟨E.ok, fits_mk (by rw [List.length_take, C.fits.rows]; have := E.n; omega) hrow (fun i k hi hk => by rw [take_st hi]; exact C.fits.bd (hlt hi) (by rw [← E.len i hi]; exact hk)), ?_, ?_, ?_⟩, ?_⟩
  · intro i k hi hk
    rw [E.len i hi] at hk
    have h1 := C.ready i k (hlt hi) hk
    unfold readyT at h1 ⊢
    rw [take_st hi, take_st hi]
    have h2 := E.leg i k hi hk
    have h3 := E.leg i 0 hi (by omega)
    have h4 := E.leg i (k - 1) hi (by omega)
    have h5 := E.ready i hi
    by_cases e : k = 0
    · subst e
      rw [if_pos rfl] at h1 ⊢; omega
    · rw [if_neg e] at h1 ⊢; omega
  · intro i k j m hi hk hj hm
    rw [E.len i hi] at hk
    rw [E.len j hj] at hm
    have h1 := C.apart i k j m (hlt hi) hk (hlt hj) hm
    unfold tight at h1 ⊢
    rw [E.trk hi hk, E.trk hj hm, take_st hi, take_st hj]
    simp only [decide_eq_false_iff_not] at h1 ⊢
    rintro ⟨a1, a2, a3, a4⟩
    have h2 := (E.leg j m hj hm).2.1
    have h3 := E.gap
    exact h1 ⟨a1, a2, a3, by omega⟩
  · intro i k hi hk
    rw [E.len i hi] at hk
    have h1 := C.room i k (hlt hi) hk
    have h2 := (E.leg i k hi hk).1
    have hto := C.ok.bd.leg i k (hlt hi) hk
    have h3 := E.tk (l.leg i k).to.toNat hto.2.1
    rw [h2]
    refine Int.le_trans (Int.le_trans ?_ h1) h3
    unfold taken
    have nn : ∀ j m, 0 ≤ takes l p i k j m := fun j m => by unfold takes; split; exact Int.le_refl _; split <;> decide
    refine sumF_le' E.n (fun j hj => ?_) (fun j hj => (sumF_bd (b := 1) fun m _ _ => ⟨nn j m, by unfold takes; split; decide; split <;> decide⟩).1)
    rw [E.len j hj]
    refine sumF_le fun m _ hm => ?_
    unfold takes
    rw [h2, (E.leg j m hj hm).1, take_st hi, take_st hj]
    have hl := hlv j m hj hm
    by_cases c1 : (l.leg j m).to ≠ (l.leg i k).to
    · rw [if_pos c1, if_pos c1]; exact Int.le_refl _
    · rw [if_neg c1, if_neg c1]
      by_cases c2 : st p j m > st p i k ∨ st p j m = st p i k ∧ j > i ∨ leaves l p j m < st p i k ∧ (j ≠ i ∨ m ≠ k)
      · rw [if_pos c2, if_pos]
        · exact Int.le_refl _
        · rcases c2 with c2 | c2 | c2
          · exact Or.inl c2
          · exact Or.inr (Or.inl c2)
          · exact Or.inr (Or.inr ⟨by omega, c2.2⟩)
      · rw [if_neg c2]; split <;> decide
  · unfold costF
    refine sumF_le' E.n (fun i hi => ?_) (fun i hi => (lateT_bd (C.ok.train i _ (Line.tr_at hi)) (by have := arrT_bd C hi; omega)).1)
    have hw := E.weight i hi
    have hd := E.due i hi
    have hT := C.ok.train i _ (Line.tr_at (hlt hi))
    have e : lateT (q.tr i) (arrT q (p.take q.trains.length) i) = lateT (l.tr i) (arrT q (p.take q.trains.length) i) := by unfold lateT; rw [hw, hd]
    rw [e]
    refine lateT_mono hT ?_
    have hn := C.ok.bd.nl1 i (hlt hi)
    unfold arrT
    rw [hrow i hi, C.fits.row (hlt hi), E.len i hi, take_st hi]
    have := (E.leg i ((l.tr i).legs.length - 1) hi (by omega)).2.1
    omega
/-- What is easier has a plan too, at no more cost. -/
theorem Easier.solve {l q : Line} (E : Easier l q) (O : Ok l) {fl fl' : Int → Int} (hfl : ∀ x, 0 ≤ x → fl x ≤ x) (hfl' : ∀ x, 0 ≤ x → fl' x ≤ x) {c : Int} {b : List (List Int)} (h : solveA l fl = some (c, b)) : ∃ c' b', solveA q fl' = some (c', b') ∧ c' ≤ c := by
  obtain ⟨C, e, _⟩ := solve_some O O.sum10 hfl h
  obtain ⟨C', hc⟩ := E.can C
  cases h' : solveA q fl' with
  | none => exact absurd C' (solve_none E.ok E.ok.sum10 hfl' h' _)
  | some cb =>
    obtain ⟨c', b'⟩ := cb
    obtain ⟨_, _, m⟩ := solve_some E.ok E.ok.sum10 hfl' h'
    refine ⟨c', b', rfl, ?_⟩
    have := m _ C'
    simp only [leA] at this
    omega
/-! ### The drawn plans are no better -/
theorem best_le {l : Line} (O : Ok l) {fl : Int → Int} (hfl : ∀ x, 0 ≤ x → fl x ≤ x) {c : Int} {b p : List (List Int)} (h : solveA l fl = some (c, b)) (C : Can l p) : c ≤ costF l p ∧ (c = costF l p → cmpP l p b ≠ .lt) := by
  obtain ⟨_, _, m⟩ := solve_some O O.sum10 hfl h
  have := m p C
  simp only [leA] at this
  refine ⟨by omega, fun e => ?_⟩
  rcases this with q | q
  · omega
  · intro h2
    rw [cmpP_swap l p b, h2] at q
    exact q.2 rfl
end Go.Proofs.Ythhkbfjolmgloaa
namespace Go.Proofs.Ythhkbfjolmgloaa
open Go.RowKit
set_option linter.unusedVariables false
set_option linter.unusedSimpArgs false
/-! ### The best plan's numbers are small -/
theorem solve_bound {l : Line} (O : Ok l) {fl : Int → Int} (hfl : ∀ x, 0 ≤ x → fl x ≤ x) {c : Int} {b : List (List Int)} (h : solveA l fl = some (c, b)) {i k : Nat} (hi : i < l.trains.length) (hk : k < (l.tr i).legs.length) : 0 ≤ st b i k ∧ st b i k ≤ 400000 := by
  have hn := legsAll_eq l
  have hle : legsAll l ≤ 10 := by rw [legsAll_N]; exact O.nlegs
  obtain ⟨a1, _, _⟩ := look_ok O hfl (legsAll l) _ 0 (Good.start l) hn hle (by omega) none
  have ha : lookS l fl (legsAll l) (List.replicate l.trains.length []) 0 none = some (c, b) := h
  rw [ha] at a1
  rcases a1 with a1 | ⟨q, hq, e⟩
  · cases a1
  · simp only [Option.some.injEq, Prod.mk.injEq] at e
    obtain ⟨rfl, rfl⟩ := e
    obtain ⟨⟨last', G, hl⟩, q2, _, _⟩ := reach_ok O (legsAll l) _ 0 (Good.start l) hn hle (by omega) b hq
    have := G.at_ i k hi (by rw [q2 i hi]; exact hk)
    omega
/-! ### All later -/
def laterT (d : Int) (t : Train) : Train := { t with ready := t.ready + d, due := t.due + d }
def laterL (l : Line) (d : Int) : Line := { l with trains := l.trains.map (laterT d) }
def laterP (p : List (List Int)) (d : Int) : List (List Int) := p.map fun r => r.map (· + d)
theorem laterL_n (l : Line) (d : Int) : (laterL l d).trains.length = l.trains.length := by simp [laterL]
theorem laterL_tr {l : Line} {d : Int} {i : Nat} (hi : i < l.trains.length) : (laterL l d).tr i = laterT d (l.tr i) := by
  unfold Line.tr laterL
  simp [List.getD_eq_getElem?_getD, hi]
theorem laterL_leg {l : Line} {d : Int} {i : Nat} (hi : i < l.trains.length) (k : Nat) : (laterL l d).leg i k = l.leg i k := by
  unfold Line.leg
  rw [laterL_tr hi]; rfl
theorem laterL_back (l : Line) (d : Int) : laterL (laterL l d) (-d) = l := by
  obtain ⟨a, g, ts⟩ := l
  simp only [laterL, List.map_map]
  congr 1
  conv => rhs; rw [← List.map_id ts]
  congr 1
  funext t
  obtain ⟨a, b, c, e, f⟩ := t
  simp [laterT, Function.comp]
  omega
theorem laterP_back (p : List (List Int)) (d : Int) : laterP (laterP p (-d)) d = p := by
  unfold laterP
  rw [List.map_map]
  conv => rhs; rw [← List.map_id p]
  congr 1
  funext r
  simp only [Function.comp, List.map_map, id]
  conv => rhs; rw [← List.map_id r]
  congr 1
  funext x
  show x + -d + d = x
  omega
theorem laterP_row {p : List (List Int)} {d : Int} (i : Nat) : ((laterP p d).getD i []).length = (p.getD i []).length := by
  unfold laterP
  simp only [List.getD_eq_getElem?_getD, List.getElem?_map]
  cases p[i]? <;> simp
theorem laterP_st {p : List (List Int)} {d : Int} {i k : Nat} (hk : k < (p.getD i []).length) : st (laterP p d) i k = st p i k + d := by
  unfold st laterP
  simp only [List.getD_eq_getElem?_getD, List.getElem?_map] at hk ⊢
  cases hp : p[i]? with
  | none => rw [hp] at hk; simp at hk
  | some r =>
    rw [hp] at hk
    simp only [Option.getD_some] at hk
    simp [hk]
theorem Can.later {l : Line} {p : List (List Int)} {d : Int} (C : Can l p) (O : Ok (laterL l d)) (hb : ∀ i k, i < l.trains.length → k < (l.tr i).legs.length → 0 ≤ st p i k + d ∧ st p i k + d ≤ 1000000) : Can (laterL l d) (laterP p d) := by
  have hn := laterL_n l d
  have hlen : ∀ i, i < l.trains.length → ((laterL l d).tr i).legs.length = (l.tr i).legs.length := fun i hi => by rw [laterL_tr hi]; rfl
  have hst : ∀ i k, i < l.trains.length → k < (l.tr i).legs.length → st (laterP p d) i k = st p i k + d := fun i k hi hk => laterP_st (by rw [C.fits.row hi]; exact hk)
  have htrk : ∀ i k, i < l.trains.length → ((laterL l d).tr i).trk k = (l.tr i).trk k := fun i k hi => by rw [laterL_tr hi]; rfl
  refine ⟨O, fits_mk (by rw [hn, ← C.fits.rows]; simp [laterP]) (fun i hi => ?_) (fun i k hi hk => ?_), ?_, ?_, ?_⟩
  · rw [hn] at hi
    rw [laterP_row, C.fits.row hi, hlen i hi]
  · rw [hn] at hi; rw [hlen i hi] at hk
    rw [hst i k hi hk]; exact hb i k hi hk
  · intro i k hi hk
    rw [hn] at hi; rw [hlen i hi] at hk
    have h := C.ready i k hi hk
    unfold readyT at h ⊢
    rw [hst i k hi hk, laterL_leg hi, laterL_leg hi, laterL_leg hi]
    by_cases e : k = 0
    · rw [if_pos e] at h ⊢
      rw [laterL_tr hi]
      show (l.tr i).ready + d + _ ≤ _
      omega
    · rw [if_neg e] at h ⊢
      rw [hst i (k - 1) hi (by omega)]; omega
  · intro i k j m hi hk hj hm
    rw [hn] at hi hj; rw [hlen i hi] at hk; rw [hlen j hj] at hm
    have h := C.apart i k j m hi hk hj hm
    unfold tight at h ⊢
    rw [htrk i k hi, htrk j m hj, hst i k hi hk, hst j m hj hm, laterL_leg hj]
    simp only [decide_eq_false_iff_not] at h ⊢
    rintro ⟨a1, a2, a3, a4⟩
    exact h ⟨a1, a2, by omega, by have e : (laterL l d).gap = l.gap := rfl; omega⟩
  · intro i k hi hk
    rw [hn] at hi; rw [hlen i hi] at hk
    have h := C.room i k hi hk
    rw [laterL_leg hi]
    show _ ≤ l.tk _
    refine Int.le_trans (Int.le_of_eq ?_) h
    unfold taken
    rw [hn]
    refine sumF_congr fun j _ hj => ?_
    rw [hlen j hj]
    refine sumF_congr fun m _ hm => ?_
    have e1 : leaves (laterL l d) (laterP p d) j m = leaves l p j m + d := by
      unfold leaves
      rw [hlen j hj, laterL_leg hj]
      by_cases e : m + 1 < (l.tr j).legs.length
      · rw [if_pos e, if_pos e, hst j (m + 1) hj e]
      · rw [if_neg e, if_neg e, hst j m hj hm]; omega
    unfold takes
    rw [laterL_leg hi, laterL_leg hj, hst i k hi hk, hst j m hj hm, e1]
    by_cases c1 : (l.leg j m).to ≠ (l.leg i k).to
    · rw [if_pos c1, if_pos c1]
    · rw [if_neg c1, if_neg c1]
      by_cases c2 : st p j m > st p i k ∨ st p j m = st p i k ∧ j > i ∨ leaves l p j m < st p i k ∧ (j ≠ i ∨ m ≠ k)
      · rw [if_pos c2, if_pos]
        rcases c2 with c2 | c2 | c2
        · exact Or.inl (by omega)
        · exact Or.inr (Or.inl ⟨by omega, c2.2⟩)
        · exact Or.inr (Or.inr ⟨by omega, c2.2⟩)
      · rw [if_neg c2, if_neg]
        rintro (c3 | c3 | c3)
        · exact c2 (Or.inl (by omega))
        · exact c2 (Or.inr (Or.inl ⟨by omega, c3.2⟩))
        · exact c2 (Or.inr (Or.inr ⟨by omega, c3.2⟩))
theorem costF_later {l : Line} {p : List (List Int)} {d : Int} (O : Ok l) (F : Fits l p) : costF (laterL l d) (laterP p d) = costF l p := by
  unfold costF
  rw [laterL_n]
  refine sumF_congr fun i _ hi => ?_
  have hn := O.bd.nl1 i hi
  unfold arrT
  rw [laterP_row, F.row hi, laterP_st (by rw [F.row hi]; omega), laterL_leg hi, laterL_tr hi]
  unfold lateT laterT
  simp only
  congr 2
  omega
theorem lexO_congr {a b : Nat → Ordering} {i n : Nat} (h : ∀ j, i ≤ j → j < n → a j = b j) : lexO a i n = lexO b i n := by
  unfold lexO
  rw [findF_congr (g := fun i => if b i = .eq then none else some (b i)) fun j h1 h2 => by rw [h j h1 h2]]
theorem cmpP_later {l : Line} {p q : List (List Int)} {d : Int} (Fp : Fits l p) (Fq : Fits l q) : cmpP (laterL l d) (laterP p d) (laterP q d) = cmpP l p q := by
  unfold cmpP
  rw [laterL_n]
  refine lexO_congr fun i _ hi => ?_
  unfold cmpR
  rw [laterL_tr hi]
  refine lexO_congr fun k _ hk => ?_
  have hk' : k < (l.tr i).legs.length := hk
  rw [laterP_st (by rw [Fp.row hi]; exact hk'), laterP_st (by rw [Fq.row hi]; exact hk')]
  unfold cmpI
  by_cases c1 : st p i k < st q i k
  · rw [if_pos c1, if_pos (by omega)]
  · rw [if_neg c1, if_neg (by omega)]
    by_cases c2 : st p i k = st q i k
    · rw [if_pos c2, if_pos (by omega)]
    · rw [if_neg c2, if_neg (by omega)]
theorem Can.st_ready {l : Line} {p : List (List Int)} (C : Can l p) {i : Nat} (hi : i < l.trains.length) : ∀ k, k < (l.tr i).legs.length → (l.tr i).ready ≤ st p i k := by
  intro k
  induction k with
  | zero =>
    intro hk
    have h := C.ready i 0 hi hk
    have := C.ok.bd.leg i 0 hi hk
    unfold readyT at h
    rw [if_pos rfl] at h
    omega
  | succ k ih =>
    intro hk
    have := C.row_lt hi hk
    have := ih (by omega)
    omega
/-- All later: the best plan is so much later, at the same cost. -/
theorem solve_later {l : Line} {d : Int} (O : Ok l) (O' : Ok (laterL l d)) (hd0 : 0 ≤ d) (hd1 : d ≤ 1000) {fl fl' : Int → Int} (hfl : ∀ x, 0 ≤ x → fl x ≤ x) (hfl' : ∀ x, 0 ≤ x → fl' x ≤ x) : solveA (laterL l d) fl' = (solveA l fl).map fun cb => (cb.1, laterP cb.2 d) := by
  have down : ∀ p', Can (laterL l d) p' → Can l (laterP p' (-d)) := fun p' C' => by
    have hn := laterL_n l d
    have := Can.later (d := -d) C' (by rw [laterL_back]; exact O) (fun i k hi hk => by
      have h1 := C'.st_ready hi k hk
      have h2 := C'.fits.bd hi hk
      rw [hn] at hi
      rw [laterL_tr hi] at h1
      have h3 : (l.tr i).ready + d ≤ st p' i k := h1
      have h4 := O.bd.tr i hi
      omega)
    rwa [laterL_back] at this
  have up : ∀ c b, solveA l fl = some (c, b) → Can (laterL l d) (laterP b d) := fun c b h => by
    obtain ⟨C, _, _⟩ := solve_some O O.sum10 hfl h
    exact C.later O' (fun i k hi hk => by have := solve_bound O hfl h hi hk; omega)
  cases h : solveA l fl with
  | none =>
    cases h' : solveA (laterL l d) fl' with
    | none => rfl
    | some cb => exact absurd (down _ (solve_some O' O'.sum10 hfl' h').1) (solve_none O O.sum10 hfl h _)
  | some cb =>
    obtain ⟨c, b⟩ := cb
    have hu := up c b h
    cases h' : solveA (laterL l d) fl' with
    | none => exact absurd hu (solve_none O' O'.sum10 hfl' h' _)
    | some cb' =>
      obtain ⟨c', b'⟩ := cb'
      obtain ⟨C, e, m⟩ := solve_some O O.sum10 hfl h
      obtain ⟨C', e', m'⟩ := solve_some O' O'.sum10 hfl' h'
      have hD := down _ C'
      have hb' : laterP (laterP b' (-d)) d = b' := laterP_back b' d
      have hc1 := costF_later (d := d) O hD.fits
      rw [hb'] at hc1
      have hc2 := costF_later (d := d) O C.fits
      have m1 := m _ hD
      have m2 := m' _ hu
      simp only [leA] at m1 m2
      have hcc : c = c' := by omega
      subst hcc
      have h3 : cmpP l b (laterP b' (-d)) ≠ .gt := by
        rcases m1 with q | q
        · omega
        · exact q.2
      have h4 : cmpP (laterL l d) b' (laterP b d) ≠ .gt := by
        rcases m2 with q | q
        · omega
        · exact q.2
      have h5 := cmpP_later (d := d) hD.fits C.fits
      rw [hb'] at h5
      rw [h5, cmpP_swap l b (laterP b' (-d))] at h4
      have h6 : cmpP l b (laterP b' (-d)) = .eq := by
        revert h3 h4
        cases cmpP l b (laterP b' (-d)) <;> simp
      have h7 := plan_ext C.fits hD.fits (cmpP_eq.1 h6)
      simp only [Option.map_some]
      rw [h7, hb']
/-! ### One train alone -/
def soloR (t : Train) : List Int := (List.range t.legs.length).map fun k => aloneT t - legSum (t.legs.drop (k + 1)) - (t.legs.getD k default).run
theorem solo_st {l : Line} {k : Nat} (hk : k < (l.tr 0).legs.length) : st [soloR (l.tr 0)] 0 k = aloneT (l.tr 0) - legSum ((l.tr 0).legs.drop (k + 1)) - (l.leg 0 k).run := by
  unfold st soloR Line.leg
  simp [List.getD_eq_getElem?_getD, hk]
theorem solo_ready {l : Line} {k : Nat} (hk : k < (l.tr 0).legs.length) : readyT l [soloR (l.tr 0)] 0 k = st [soloR (l.tr 0)] 0 k := by
  unfold readyT
  rw [solo_st hk]
  have h := legSum_leg (l := l) (i := 0) hk
  by_cases e : k = 0
  · subst e
    rw [if_pos rfl]
    rw [List.drop_zero] at h
    unfold aloneT
    omega
  · rw [if_neg e, solo_st (by omega), show k - 1 + 1 = k by omega]
    omega
theorem solo_can {l : Line} (O : Ok l) (h1 : l.trains.length = 1) : Can l [soloR (l.tr 0)] := by
  have hlen : (soloR (l.tr 0)).length = (l.tr 0).legs.length := by simp [soloR]
  have B := O.bd
  have hstep : ∀ k, k + 1 < (l.tr 0).legs.length → st [soloR (l.tr 0)] 0 k < st [soloR (l.tr 0)] 0 (k + 1) := fun k hk => by
    have h := solo_ready (l := l) (k := k + 1) hk
    unfold readyT at h
    rw [if_neg (by omega), show k + 1 - 1 = k by omega] at h
    have b1 := B.leg 0 k (by omega) (by omega)
    have b2 := B.leg 0 (k + 1) (by omega) hk
    omega
  have hmono : ∀ d k, k + d + 1 < (l.tr 0).legs.length → st [soloR (l.tr 0)] 0 k < st [soloR (l.tr 0)] 0 (k + d + 1) := by
    intro d
    induction d with
    | zero => intro k hk; exact hstep k hk
    | succ d ih =>
      intro k hk
      have a := ih k (by omega)
      have b := hstep (k + d + 1) (by omega)
      rw [show k + (d + 1) + 1 = k + d + 1 + 1 by omega]
      omega
  have hlt : ∀ {j k : Nat}, j < k → k < (l.tr 0).legs.length → st [soloR (l.tr 0)] 0 j < st [soloR (l.tr 0)] 0 k := fun {j k} h hk => by
    have := hmono (k - j - 1) j (by omega)
    rwa [show j + (k - j - 1) + 1 = k by omega] at this
  have hbd : ∀ k, k < (l.tr 0).legs.length → 0 ≤ st [soloR (l.tr 0)] 0 k ∧ st [soloR (l.tr 0)] 0 k ≤ 1000000 := fun k hk => by
    have b0 := aloneT_bd O (Line.tr_at (l := l) (i := 0) (by omega))
    have b1 := B.leg 0 k (by omega) hk
    have b2 := legSum_bd (ls := (l.tr 0).legs.drop (k + 1)) (n := 0) (fun j x hx => by
      rw [List.getElem?_drop] at hx
      have h := (O.train 0 _ (Line.tr_at (by omega))).leg _ _ hx
      omega)
    have e := solo_st (l := l) hk
    refine ⟨?_, by omega⟩
    have h0 : 0 ≤ st [soloR (l.tr 0)] 0 0 := by
      have h := solo_ready (l := l) (k := 0) (by omega)
      unfold readyT at h
      rw [if_pos rfl] at h
      have b3 := B.leg 0 0 (by omega) (by omega)
      have b4 := B.tr 0 (by omega)
      omega
    by_cases e0 : k = 0
    · subst e0; exact h0
    · have := hlt (j := 0) (k := k) (by omega) hk
      omega
  refine ⟨O, fits_mk (by simp [h1]) (fun i hi => ?_) (fun i k hi hk => ?_), ?_, ?_, ?_⟩
  · obtain rfl : i = 0 := by omega
    exact hlen
  · obtain rfl : i = 0 := by omega
    exact hbd k hk
  · intro i k hi hk
    obtain rfl : i = 0 := by omega
    rw [solo_ready hk]; exact Int.le_refl _
  · intro i k j m hi hk hj hm
    unfold tight
    simp only [decide_eq_false_iff_not]
    intro h; exact h.1 (by omega)
  · intro i k hi hk
    obtain rfl : i = 0 := by omega
    have b1 := B.leg 0 k (by omega) hk
    have b2 := B.tk _ b1.2.1
    refine Int.le_trans ?_ b2.1
    unfold taken
    rw [h1, sumF_one (k := 0) (Nat.le_refl _) (by omega) (fun j _ h2 h3 => by omega)]
    have key : ∀ m, m < (l.tr 0).legs.length → m ≠ k → takes l [soloR (l.tr 0)] 0 k 0 m = 0 := by
      intro m hm hmk
      unfold takes
      by_cases c1 : (l.leg 0 m).to ≠ (l.leg 0 k).to
      · rw [if_pos c1]
      · rw [if_neg c1, if_pos]
        by_cases c2 : k < m
        · exact Or.inl (hlt c2 hm)
        · by_cases c3 : m + 1 = k
          · exfalso
            have a := (O.train 0 _ (Line.tr_at (by omega))).adj k _ (Line.leg_at hk)
            unfold Train.at_ at a
            rw [if_neg (by omega)] at a
            have e : ((l.tr 0).legs.getD (k - 1) default).to = (l.leg 0 m).to := by unfold Line.leg; rw [show k - 1 = m by omega]
            rw [e] at a
            simp only [ne_eq, Classical.not_not] at c1
            omega
          · refine Or.inr (Or.inr ⟨?_, Or.inr hmk⟩)
            unfold leaves
            rw [if_pos (by omega)]
            exact hlt (by omega) hk
    rw [sumF_one (k := k) (Nat.zero_le _) hk (fun j _ h2 h3 => key j h2 h3)]
    unfold takes
    split
    · decide
    · split <;> decide
theorem solo_least {l : Line} (O : Ok l) (h1 : l.trains.length = 1) : costF l [soloR (l.tr 0)] = leastA l := by
  unfold leastA
  rw [if_pos (right_iff.2 O), least_sumF]
  unfold costF
  refine sumF_congr fun i _ hi => ?_
  obtain rfl : i = 0 := by omega
  have hn := O.bd.nl1 0 (by omega)
  have hlen : (soloR (l.tr 0)).length = (l.tr 0).legs.length := by simp [soloR]
  unfold arrT
  rw [show ([soloR (l.tr 0)].getD 0 []).length = (l.tr 0).legs.length from hlen, solo_st (by omega), show (l.tr 0).legs.length - 1 + 1 = (l.tr 0).legs.length by omega, legSum_end (Nat.le_refl _)]
  congr 1; omega
/-- One train alone begins each leg as soon as it can. -/
theorem solo_solve {l : Line} (O : Ok l) (h1 : l.trains.length = 1) {fl : Int → Int} (hfl : ∀ x, 0 ≤ x → fl x ≤ x) : solveA l fl = some (leastA l, [soloR (l.tr 0)]) := by
  have C0 := solo_can O h1
  cases h : solveA l fl with
  | none => exact absurd C0 (solve_none O O.sum10 hfl h _)
  | some cb =>
    obtain ⟨c, b⟩ := cb
    obtain ⟨C, e, m⟩ := solve_some O O.sum10 hfl h
    have hm := m _ C0
    have hl := least_le C
    simp only [leA] at hm
    rw [solo_least O h1] at hm
    have hc : c = leastA l := by omega
    have h3 : cmpP l b [soloR (l.tr 0)] ≠ .gt := by
      rcases hm with q | q
      · omega
      · exact q.2
    have h4 : cmpP l [soloR (l.tr 0)] b ≠ .gt := cmpP_le fun i k hi hk => by
      obtain rfl : i = 0 := by omega
      have := alone_st (l := l) (p := b) (i := 0) (fun k hk => C.ready 0 k hi hk) k hk
      rw [solo_st hk]
      omega
    rw [cmpP_swap l b] at h4
    have h5 : cmpP l b [soloR (l.tr 0)] = .eq := by
      revert h3 h4
      cases cmpP l b [soloR (l.tr 0)] <;> simp
    rw [hc, plan_ext C.fits C0.fits (cmpP_eq.1 h5)]
theorem solo_arr {l : Line} (O : Ok l) (h1 : l.trains.length = 1) : arrT l [soloR (l.tr 0)] 0 = aloneT (l.tr 0) := by
  have hn := O.bd.nl1 0 (by omega)
  have hlen : (soloR (l.tr 0)).length = (l.tr 0).legs.length := by simp [soloR]
  unfold arrT
  rw [show ([soloR (l.tr 0)].getD 0 []).length = (l.tr 0).legs.length from hlen, solo_st (by omega), show (l.tr 0).legs.length - 1 + 1 = (l.tr 0).legs.length by omega, legSum_end (Nat.le_refl _)]
  omega
/-! ### The plan of a plan's own order -/
def pickL (l : Line) (p : List (List Int)) : Nat → List Nat → List Int
  | 0, _ => []
  | f + 1, nx => bestF l p nx :: pickL l p f (bump nx (bestF l p nx).toNat)
theorem orderS_pick (l : Line) (p : List (List Int)) : ∀ (f : Nat) (nx : List Nat) (acc : List Int), orderS l p f nx acc = acc ++ pickL l p f nx := by
  intro f
  induction f with
  | zero => intro nx acc; simp [orderS, pickL]
  | succ f ih => intro nx acc; simp only [orderS, pickL]; rw [ih]; simp
theorem pickL_length (l : Line) (p : List (List Int)) : ∀ (f : Nat) (nx : List Nat), (pickL l p f nx).length = f := by
  intro f
  induction f with
  | zero => intro nx; rfl
  | succ f ih => intro nx; simp [pickL, ih]
theorem place_own {l : Line} {p : List (List Int)} (C : Can l p) : ∀ (f k : Nat) (q : List (List Int)) (last : Int) (nx : List Nat), Along l p q last → nx.length = l.trains.length → (∀ i, i < l.trains.length → nx.getD i 0 = (q.getD i []).length) → (f : Int) = remain l q →
    ∃ r last', placeS l k (pickL l p f nx) q last = (((0, (k + f : Nat)), r) : PlR) ∧ Along l p r last' ∧ remain l r = 0 := by
  intro f
  induction f with
  | zero => intro k q last nx A _ _ hf; exact ⟨q, last, rfl, A, hf.symm⟩
  | succ f ih =>
    intro k q last nx A hn hnx hf
    obtain ⟨i0, hi0, hk0⟩ := remain_pos A.good (by omega)
    obtain ⟨b, hb, hbn, hbk, hmin⟩ := bestF_spec (l := l) (p := p) (nx := nx) ⟨i0, hi0, by rw [hnx i0 hi0]; exact hk0⟩
    rw [hnx b hbn] at hbk
    have hip : b < q.length := by rw [A.good.rows]; exact hbn
    obtain ⟨t, ht, _, A2⟩ := A.step C hbn hbk (fun j hj hjk => by
      have := hmin j hj (by rw [hnx j hj]; exact hjk)
      rwa [hnx b hbn, hnx j hj] at this)
    obtain ⟨r, last', hr, hA, hz⟩ := ih (k + 1) (put q b t) t (bump nx b) A2 (by simp [bump, hn]) (fun j hj => by
      rw [bump_get (by omega), put_len hip]
      by_cases e : j = b
      · rw [if_pos e, if_pos e, hnx b hbn]
      · rw [if_neg e, if_neg e, hnx j hj]) (by rw [remain_put hip hbn, ← hf]; omega)
    refine ⟨r, last', ?_, hA, hz⟩
    simp only [pickL, placeS, hb, Int.toNat_natCast]
    rw [if_pos ⟨by omega, hbn, hbk⟩, ht]
    simp only
    rw [hr]
    congr 3
    omega
def orderA (l : Line) (p : List (List Int)) : List Int := if canB l p then orderS l p (legsAll l) (List.replicate l.trains.length 0) [] else []
/-- A plan that can be is nowhere sooner than the plan of its own order. -/
theorem sooner {l : Line} {p : List (List Int)} (C : Can l p) : ∃ q, placeA l (orderA l p) = (((0, 0), q) : PlR) ∧ Can l q ∧ (∀ i k, i < l.trains.length → k < (l.tr i).legs.length → st q i k ≤ st p i k) ∧ costF l q ≤ costF l p := by
  have hcan : canB l p = true := by unfold canB; rw [C.check]; rfl
  have ho : orderA l p = pickL l p (legsAll l) (List.replicate l.trains.length 0) := by
    unfold orderA
    rw [if_pos hcan, orderS_pick]; simp
  have hrep : ∀ i, (List.replicate l.trains.length 0).getD i 0 = 0 := fun i => by
    simp only [List.getD_eq_getElem?_getD, List.getElem?_replicate]
    split <;> rfl
  obtain ⟨q, last', hq, A, hz⟩ := place_own C (legsAll l) 0 (List.replicate l.trains.length []) 0 (List.replicate l.trains.length 0) (Along.start C) (by simp) (fun i _ => by rw [hrep, getD_replicate_nil]; rfl) (legsAll_eq l)
  have hf := remain_zero A.good hz
  have hle : ∀ i k, i < l.trains.length → k < (l.tr i).legs.length → st q i k ≤ st p i k := fun i k hi hk => A.le i k hi (by rw [hf i hi]; exact hk)
  have hlen : (orderA l p).length = legsAll l := by rw [ho, pickL_length]
  refine ⟨q, ?_, ?_, hle, costF_le C.ok hf (fun i hi => C.fits.row hi) hle⟩
  · unfold placeA
    rw [hlen, ho, hq]
    rw [if_pos ⟨right_iff.2 C.ok, by rw [legsAll_N]; exact C.ok.nlegs⟩, if_pos rfl, if_pos rfl]
  · have hG : Good l q last' := A.good
    refine Good.can' (last := 1000000) C.ok ⟨hG.rows, hG.len, by omega, fun i k hi hk => ⟨(hG.at_ i k hi hk).1, ?_⟩, hG.ready, hG.apart, hG.room⟩ hf (Int.le_refl _)
    rw [hf i hi] at hk
    have h1 := hle i k hi hk
    have h2 := C.fits.bd hi hk
    omega
end Go.Proofs.Ythhkbfjolmgloaa
