/- Placing the legs of an order one after the other, in plain data. Plain data alone. -/
import Derived.Test.YthhkbfjolmgloaaBest
namespace Go.Proofs.Ythhkbfjolmgloaa
open Go.RowKit
set_option linter.unusedVariables false
set_option linter.unusedSimpArgs false
abbrev PlR := (Int × Int) × List (List Int)
def placeS (l : Line) : Nat → List Int → List (List Int) → Int → PlR
  | k, [], p, _ => ((0, k), p)
  | k, i :: is, p, last =>
    if 0 ≤ i ∧ i.toNat < l.trains.length ∧ (p.getD i.toNat []).length < (l.tr i.toNat).legs.length then
      match stepT l p last i.toNat with
      | none => ((3, k), [])
      | some t => placeS l (k + 1) is (put p i.toNat t) t
    else ((2, k), [])
theorem placeS_end {l : Line} {order : List Int} {k : Nat} {p : List (List Int)} {last : Int} (h : order.length ≤ k) : placeS l k (order.drop k) p last = (((0, k), p) : PlR) := by
  rw [drop_end h]; rfl
theorem placeS_two {l : Line} {order : List Int} {k : Nat} {p : List (List Int)} {last i : Int} (h : order[k]? = some i) (hi : ¬ (0 ≤ i ∧ i.toNat < l.trains.length ∧ (p.getD i.toNat []).length < (l.tr i.toNat).legs.length)) : placeS l k (order.drop k) p last = (((2, k), []) : PlR) := by
  rw [drop_some h, placeS, if_neg hi]
theorem placeS_three {l : Line} {order : List Int} {k : Nat} {p : List (List Int)} {last i : Int} (h : order[k]? = some i) (hi : 0 ≤ i ∧ i.toNat < l.trains.length ∧ (p.getD i.toNat []).length < (l.tr i.toNat).legs.length) (ht : stepT l p last i.toNat = none) : placeS l k (order.drop k) p last = (((3, k), []) : PlR) := by
  rw [drop_some h, placeS, if_pos hi, ht]
theorem placeS_go {l : Line} {order : List Int} {k : Nat} {p : List (List Int)} {last i t : Int} (h : order[k]? = some i) (hi : 0 ≤ i ∧ i.toNat < l.trains.length ∧ (p.getD i.toNat []).length < (l.tr i.toNat).legs.length) (ht : stepT l p last i.toNat = some t) : placeS l k (order.drop k) p last = placeS l (k + 1) (order.drop (k + 1)) (put p i.toNat t) t := by
  rw [drop_some h, placeS, if_pos hi, ht]
/-- What placing an order gives: the plan, or why and where it has none. -/
def placeA (l : Line) (order : List Int) : PlR :=
  if right l = true ∧ order.length ≤ 10 then
    if (placeS l 0 order (List.replicate l.trains.length []) 0).1.1 = 0 then
      if order.length = legsAll l then ((0, 0), (placeS l 0 order (List.replicate l.trains.length []) 0).2)
      else ((4, order.length), [])
    else ((placeS l 0 order (List.replicate l.trains.length []) 0).1, [])
  else ((1, 0), [])
/-- So far along an order. -/
structure Placing (l : Line) (order : List Int) (k : Nat) (p : List (List Int)) (last : Int) : Prop where
  good : Good l p last
  left : remain l p = legsAll l - k
  le : k ≤ order.length
  last_le : last ≤ 100000 + 20000 * k
  rest : placeS l 0 order (List.replicate l.trains.length []) 0 = placeS l k (order.drop k) p last
theorem legsAll_eq (l : Line) : (legsAll l : Int) = remain l (List.replicate l.trains.length []) := by
  unfold legsAll
  have : 0 ≤ remain l (List.replicate l.trains.length []) := by
    rw [remain_start]
    exact (sumF_bd (b := (legsN l.trains : Int)) fun j h1 h2 => ⟨by omega, by have := legsN_le (Line.tr_at h2); omega⟩).1
  omega
theorem Placing.start (l : Line) (order : List Int) : Placing l order 0 (List.replicate l.trains.length []) 0 where
  good := Good.start l
  left := by rw [legsAll_eq]; omega
  le := Nat.zero_le _
  last_le := by omega
  rest := by simp
theorem Placing.step {l : Line} {order : List Int} {k : Nat} {p : List (List Int)} {last i t : Int} (O : Ok l) (P : Placing l order k p last) (h10 : order.length ≤ 10) (h : order[k]? = some i) (hi : 0 ≤ i ∧ i.toNat < l.trains.length ∧ (p.getD i.toNat []).length < (l.tr i.toNat).legs.length) (ht : stepT l p last i.toNat = some t) : Placing l order (k + 1) (put p i.toNat t) t := by
  have hk := lt_of_some h
  have hl := P.last_le
  have hs := stepT_ok O P.good hi.2.1 hi.2.2 (by omega) ht
  refine ⟨P.good.step O hi.2.1 hi.2.2 (by omega) ht, ?_, by omega, by omega, by rw [P.rest, placeS_go h hi ht]⟩
  rw [remain_put (by rw [P.good.rows]; exact hi.2.1) hi.2.1, P.left]; omega
theorem Placing.full {l : Line} {order : List Int} {p : List (List Int)} {last : Int} (P : Placing l order order.length p last) : order.length = legsAll l ↔ ∀ i, i < l.trains.length → (p.getD i []).length = (l.tr i).legs.length := by
  constructor
  · intro h
    exact remain_zero P.good (by rw [P.left, h]; omega)
  · intro h
    have h0 : remain l p = 0 := sumF_zero fun j _ hj => by rw [h j hj]; omega
    have := P.left
    omega
theorem Placing.done {l : Line} {order : List Int} {p : List (List Int)} {last : Int} (P : Placing l order order.length p last) (hr : right l = true) (h10 : order.length ≤ 10) : placeA l order = (if order.length = legsAll l then ((0, 0), p) else ((4, order.length), []) : PlR) := by
  have e : placeS l 0 order (List.replicate l.trains.length []) 0 = (((0, order.length), p) : PlR) := by rw [P.rest, placeS_end (Nat.le_refl _)]
  unfold placeA
  rw [if_pos ⟨hr, h10⟩, e, if_pos rfl]
theorem Placing.stop {l : Line} {order : List Int} {k : Nat} {p : List (List Int)} {last c : Int} (P : Placing l order k p last) (hr : right l = true) (h10 : order.length ≤ 10) (h : placeS l k (order.drop k) p last = (((c, k), []) : PlR)) (hc : c ≠ 0) : placeA l order = (((c, k), []) : PlR) := by
  unfold placeA
  rw [if_pos ⟨hr, h10⟩, P.rest, h, if_neg hc]
theorem placeA_one {l : Line} {order : List Int} (h : ¬ (right l = true ∧ order.length ≤ 10)) : placeA l order = (((1, 0), []) : PlR) := by
  unfold placeA
  rw [if_neg h]
end Go.Proofs.Ythhkbfjolmgloaa
