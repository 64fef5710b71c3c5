/- What a right line is, in plain words; what trains cost. Plain data alone. -/
import Derived.Test.YthhkbfjolmgloaaLineOk
namespace Go.Proofs.Ythhkbfjolmgloaa
open Go.RowKit
set_option linter.unusedVariables false
set_option linter.unusedSimpArgs false
/-- The station from which a leg begins. -/
def Train.at_ (t : Train) (k : Nat) : Int := if k = 0 then t.frm else (t.legs.getD (k - 1) default).to
structure TrOk (n : Int) (t : Train) : Prop where
  frm0 : 0 ≤ t.frm
  frm1 : t.frm ≤ n - 1
  ready0 : 0 ≤ t.ready
  ready1 : t.ready ≤ 100000
  due0 : 0 ≤ t.due
  due1 : t.due ≤ 100000
  weight0 : 1 ≤ t.weight
  weight1 : t.weight ≤ 100
  some_ : 1 ≤ t.legs.length
  leg : ∀ (k : Nat) (x : Leg), t.legs[k]? = some x → 0 ≤ x.to ∧ x.to ≤ n - 1 ∧ 1 ≤ x.run ∧ x.run ≤ 10000 ∧ 0 ≤ x.stay ∧ x.stay ≤ 10000
  adj : ∀ (k : Nat) (x : Leg), t.legs[k]? = some x → x.to = t.at_ k + 1 ∨ x.to = t.at_ k - 1
structure Ok (l : Line) : Prop where
  n2 : 2 ≤ l.tracks.length
  n12 : l.tracks.length ≤ 12
  gap0 : 0 ≤ l.gap
  gap1 : l.gap ≤ 10000
  ntr : l.trains.length ≤ 5
  nlegs : legsN l.trains ≤ 10
  track : ∀ (s : Nat) (k : Int), l.tracks[s]? = some k → 1 ≤ k ∧ k ≤ 10
  train : ∀ (i : Nat) (t : Train), l.trains[i]? = some t → TrOk l.tracks.length t
theorem legsOk_all {n : Int} : ∀ (ls : List Leg) (a : Int), legsOk n a ls = true ↔ ∀ (k : Nat) (x : Leg), ls[k]? = some x → (0 ≤ x.to ∧ x.to ≤ n - 1 ∧ 1 ≤ x.run ∧ x.run ≤ 10000 ∧ 0 ≤ x.stay ∧ x.stay ≤ 10000) ∧ (x.to = (if k = 0 then a else (ls.getD (k - 1) default).to) + 1 ∨ x.to = (if k = 0 then a else (ls.getD (k - 1) default).to) - 1) := by
  intro ls
  induction ls with
  | nil => intro a; simp [legsOk]
  | cons y ys ih =>
    intro a
    simp only [legsOk, Bool.and_eq_true, Bool.or_eq_true, beq_iff_eq, inB_true]
    rw [ih]
    constructor
    · rintro ⟨⟨⟨⟨h1, h2⟩, h3⟩, h4⟩, h5⟩ k x hx
      cases k with
      | zero =>
        simp at hx
        subst hx
        exact ⟨⟨h1.1, h1.2, h3.1, h3.2, h4.1, h4.2⟩, by simpa using h2⟩
      | succ k =>
        simp at hx
        obtain ⟨q1, q2⟩ := h5 k x hx
        refine ⟨q1, ?_⟩
        cases k with
        | zero => simpa using q2
        | succ k => simpa using q2
    · intro h
      obtain ⟨⟨a1, a2, a3, a4, a5, a6⟩, a7⟩ := h 0 y rfl
      refine ⟨⟨⟨⟨⟨a1, a2⟩, by simpa using a7⟩, ⟨a3, a4⟩⟩, ⟨a5, a6⟩⟩, fun k x hx => ?_⟩
      obtain ⟨q1, q2⟩ := h (k + 1) x (by simpa using hx)
      refine ⟨q1, ?_⟩
      cases k with
      | zero => simpa using q2
      | succ k => simpa using q2
theorem trOk_iff {n : Int} {t : Train} : trOk n t = true ↔ TrOk n t := by
  simp only [trOk, Bool.and_eq_true, inB_true, Bool.not_eq_true', beq_eq_false_iff_ne, legsOk_all]
  constructor
  · rintro ⟨⟨⟨⟨⟨h1, h2⟩, h3⟩, h4⟩, h5⟩, h6⟩
    exact ⟨h1.1, h1.2, h2.1, h2.2, h3.1, h3.2, h4.1, h4.2, by omega, fun k x hx => (h6 k x hx).1, fun k x hx => (h6 k x hx).2⟩
  · intro h
    exact ⟨⟨⟨⟨⟨⟨h.frm0, h.frm1⟩, ⟨h.ready0, h.ready1⟩⟩, ⟨h.due0, h.due1⟩⟩, ⟨h.weight0, h.weight1⟩⟩, by have := h.some_; omega⟩, fun k x hx => ⟨h.leg k x hx, h.adj k x hx⟩⟩
theorem findI_none {α β : Type} {f : Nat → α → Option β} {l : List α} {n : Nat} : findI f n l = none ↔ ∀ (i : Nat) (x : α), l[i]? = some x → f (n + i) x = none := by
  induction l generalizing n with
  | nil => simp [findI]
  | cons y ys ih =>
    simp only [findI, Option.or_eq_none_iff, ih]
    constructor
    · rintro ⟨h1, h2⟩ i x hx
      cases i with
      | zero => simp at hx; subst hx; exact h1
      | succ i => simp at hx; have := h2 i x hx; rwa [show n + 1 + i = n + (i + 1) by omega] at this
    · intro h
      refine ⟨h 0 y rfl, fun i x hx => ?_⟩
      have := h (i + 1) x (by simpa using hx)
      rwa [show n + (i + 1) = n + 1 + i by omega] at this
theorem right_iff {l : Line} : right l = true ↔ Ok l := by
  have key : right l = true ↔ cntOk l = true ∧ findI (fun i k => if inB k 1 10 then none else some i) 0 l.tracks = none ∧ findI (fun i t => if trOk l.tracks.length t then none else some i) 0 l.trains = none := by
    unfold right fault
    cases hc : cntOk l with
    | false => simp
    | true =>
      cases h1 : findI (fun i k => if inB k 1 10 then none else some i) 0 l.tracks with
      | some i => simp
      | none =>
        cases h2 : findI (fun i t => if trOk l.tracks.length t then none else some i) 0 l.trains with
        | some i => simp
        | none => simp
  rw [key, findI_none, findI_none]
  simp only [cntOk, Bool.and_eq_true, inB_true, decide_eq_true_eq]
  constructor
  · rintro ⟨⟨⟨⟨h1, h2⟩, h3⟩, h4⟩, h5, h6⟩
    refine ⟨by omega, by omega, h2.1, h2.2, h3, h4, fun s k hk => ?_, fun i t ht => ?_⟩
    · have q := h5 s k hk
      by_cases e : 1 ≤ k ∧ k ≤ 10
      · exact e
      · rw [if_neg e] at q; simp at q
    · have q := h6 i t ht
      cases e : trOk l.tracks.length t with
      | true => exact trOk_iff.1 e
      | false => rw [e] at q; simp at q
  · intro h
    refine ⟨⟨⟨⟨⟨by have := h.n2; omega, by have := h.n12; omega⟩, ⟨h.gap0, h.gap1⟩⟩, h.ntr⟩, h.nlegs⟩, fun i x hx => ?_, fun i x hx => ?_⟩
    · rw [if_pos (h.track i x hx)]
    · rw [trOk_iff.2 (h.train i x hx)]; rfl
/-- How long legs take, each with its stay. -/
def legSum : List Leg → Int
  | [] => 0
  | x :: xs => x.stay + x.run + legSum xs
theorem legSum_at {ls : List Leg} {i : Nat} {x : Leg} (h : ls[i]? = some x) : legSum (ls.drop i) = x.stay + x.run + legSum (ls.drop (i + 1)) := by
  rw [drop_some h]
  rfl
theorem legSum_end {ls : List Leg} {i : Nat} (h : ls.length ≤ i) : legSum (ls.drop i) = 0 := by
  rw [drop_end h]
  rfl
def aloneT (t : Train) : Int := t.ready + legSum t.legs
def lateT (t : Train) (e : Int) : Int := t.weight * max 0 (e - t.due)
def least (ts : List Train) : Int := sumI (fun _ t => lateT t (aloneT t)) 0 ts
theorem legSum_bd {n : Int} {ls : List Leg} (h : ∀ (k : Nat) (x : Leg), ls[k]? = some x → 1 ≤ x.run ∧ x.run ≤ 10000 ∧ 0 ≤ x.stay ∧ x.stay ≤ 10000) : 0 ≤ legSum ls ∧ legSum ls ≤ 20000 * ls.length := by
  induction ls with
  | nil => simp [legSum]
  | cons x xs ih =>
    have h0 := h 0 x rfl
    have h1 := ih (fun k y hy => h (k + 1) y (by simpa using hy))
    simp only [legSum, List.length_cons, Int.natCast_add, Int.natCast_one]
    omega
theorem TrOk.nlegs {l : Line} (h : Ok l) {i : Nat} {t : Train} (ht : l.trains[i]? = some t) : t.legs.length ≤ 10 := Nat.le_trans (legsN_le ht) h.nlegs
theorem aloneT_bd {l : Line} (h : Ok l) {i : Nat} {t : Train} (ht : l.trains[i]? = some t) : 0 ≤ aloneT t ∧ aloneT t ≤ 300000 := by
  have hT := h.train i t ht
  have hb := legSum_bd (n := 0) (ls := t.legs) (fun k x hx => by have := hT.leg k x hx; omega)
  have hn := TrOk.nlegs h ht
  have := hT.ready0; have := hT.ready1
  unfold aloneT
  omega
theorem lateT_bd {n e : Int} {t : Train} (h : TrOk n t) (h1 : e ≤ 2000000) : 0 ≤ lateT t e ∧ lateT t e ≤ 200000000 := by
  unfold lateT
  have hw0 := h.weight0; have hw1 := h.weight1; have hd := h.due0
  have hm : 0 ≤ max 0 (e - t.due) ∧ max 0 (e - t.due) ≤ 2000000 := by omega
  constructor
  · exact Int.mul_nonneg (by omega) hm.1
  · calc t.weight * max 0 (e - t.due) ≤ 100 * max 0 (e - t.due) := Int.mul_le_mul_of_nonneg_right hw1 hm.1
      _ ≤ 100 * 2000000 := Int.mul_le_mul_of_nonneg_left hm.2 (by omega)
      _ = 200000000 := by omega
end Go.Proofs.Ythhkbfjolmgloaa
