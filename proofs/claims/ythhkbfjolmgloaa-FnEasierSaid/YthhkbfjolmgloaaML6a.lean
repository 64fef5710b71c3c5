/- Placing legs, in plain data: when a leg finds room, and that plans of orders can be. Plain data alone.
   Placing legs one after the other, in plain data: plans of orders can be. Plain data alone.
   The closures of impl.Check: each answers its clash at a leg. Condition: the line is right, the plan fits. -/
import Derived.Test.YthhkbfjolmgloaaMHEach
import Derived.Deep.DeepCutAuto
namespace Go.Proofs.Ythhkbfjolmgloaa
open Go.RowKit
set_option linter.unusedVariables false
set_option linter.unusedSimpArgs false
/-! ### A way over numbers -/
def foldN {α : Type} (f : Nat → α → α) : Nat → Nat → α → α
  | _, 0, a => a
  | i, c + 1, a => foldN f (i + 1) c (f i a)
def foldF {α : Type} (f : Nat → α → α) (i n : Nat) (a : α) : α := foldN f i (n - i) a
theorem foldF_at {α : Type} (f : Nat → α → α) {i n : Nat} (h : i < n) (a : α) : foldF f i n a = foldF f (i + 1) n (f i a) := by
  unfold foldF
  rw [show n - i = (n - (i + 1)) + 1 by omega]
  rfl
theorem foldF_end {α : Type} (f : Nat → α → α) {i n : Nat} (h : n ≤ i) (a : α) : foldF f i n a = a := by
  unfold foldF
  rw [show n - i = 0 by omega]
  rfl
theorem foldF_rel {α β : Type} {R : α → β → Prop} {f : Nat → α → α} {g : Nat → β → β} {i n : Nat} {a : α} {b : β} (h : ∀ j a b, i ≤ j → j < n → R a b → R (f j a) (g j b)) (h0 : R a b) : R (foldF f i n a) (foldF g i n b) := by
  unfold foldF
  generalize hc : n - i = c
  induction c generalizing i a b with
  | zero => exact h0
  | succ c ih =>
    simp only [foldN]
    exact ih (fun j a b h1 h2 => h j a b (by omega) h2) (h i a b (Nat.le_refl _) (by omega) h0) (by omega)
theorem foldF_inv {α : Type} {P : α → Prop} {f : Nat → α → α} {i n : Nat} {a : α} (h : ∀ j a, i ≤ j → j < n → P a → P (f j a)) (h0 : P a) : P (foldF f i n a) :=
  foldF_rel (R := fun a _ => P a) (g := fun _ (b : Unit) => b) (b := ()) (fun j a _ h1 h2 h3 => h j a h1 h2 h3) h0
theorem foldF_hit {α : Type} {P Q : α → Prop} {f : Nat → α → α} {i n k : Nat} {a : α} (hi : i ≤ k) (hk : k < n) (hP : ∀ j a, i ≤ j → j < n → P a → P (f j a)) (h0 : P a) (h1 : ∀ a, P a → Q (f k a)) (hQ : ∀ j a, i ≤ j → j < n → Q a → Q (f j a)) : Q (foldF f i n a) := by
  unfold foldF
  generalize hc : n - i = c
  induction c generalizing i a with
  | zero => omega
  | succ c ih =>
    simp only [foldN]
    by_cases e : i = k
    · subst e
      have := foldF_inv (P := Q) (f := f) (i := i + 1) (n := n) (a := f i a) (fun j a h1 h2 => hQ j a (by omega) h2) (h1 a h0)
      unfold foldF at this
      rwa [show n - (i + 1) = c by omega] at this
    · exact ih (by omega) (fun j a h1 h2 => hP j a (by omega) h2) (hP i a (Nat.le_refl _) (by omega) h0) (fun j a h1 h2 => hQ j a (by omega) h2) (by omega)
theorem foldF_sum (f : Nat → Int) (i n : Nat) (a : Int) : foldF (fun j a => a + f j) i n a = a + sumF f i n := by
  unfold foldF sumF
  generalize n - i = c
  induction c generalizing i a with
  | zero => simp [foldN, sumN]
  | succ c ih => simp only [foldN, sumN]; rw [ih]; omega
theorem sumF_last (f : Nat → Int) {i n : Nat} (h : i ≤ n) : sumF f i (n + 1) = sumF f i n + f n := by
  unfold sumF
  rw [show n + 1 - i = (n - i) + 1 by omega]
  generalize hc : n - i = c
  induction c generalizing i with
  | zero => simp only [sumN]; rw [show i = n by omega]; omega
  | succ c ih =>
    have := ih (i := i + 1) (by omega) (by omega)
    rw [show sumN f i (c + 1 + 1) = f i + sumN f (i + 1) (c + 1) from rfl, this, show sumN f i (c + 1) = f i + sumN f (i + 1) c from rfl]; omega
theorem sumF_le {f g : Nat → Int} {i n : Nat} (h : ∀ j, i ≤ j → j < n → f j ≤ g j) : sumF f i n ≤ sumF g i n := by
  unfold sumF
  generalize hc : n - i = c
  induction c generalizing i with
  | zero => exact Int.le_refl _
  | succ c ih =>
    simp only [sumN]
    have h1 := h i (Nat.le_refl _) (by omega)
    have h2 := ih (i := i + 1) (fun j h1 h2 => h j (by omega) h2) (by omega)
    omega
theorem sumF_change {f g : Nat → Int} {i n k : Nat} {d : Int} (hi : i ≤ k) (hk : k < n) (h : ∀ j, i ≤ j → j < n → j ≠ k → f j = g j) (hd : f k = g k + d) : sumF f i n = sumF g i n + d := by
  have h1 : sumF f i n = sumF (fun j => g j + if j = k then d else 0) i n := sumF_congr fun j h1 h2 => by
    by_cases e : j = k
    · subst e; rw [if_pos rfl, hd]
    · rw [if_neg e, h j h1 h2 e]; omega
  rw [h1, sumF_add, sumF_one (f := fun j => if j = k then d else 0) hi hk (fun j _ _ e => if_neg e), if_pos rfl]

/-! ### Room -/
def cnt (E : List Int) (a : Int) : Nat := E.countP (fun e => decide (a ≤ e))
def loU (a : Int) (E : List Int) (u : Int) : Int := E.foldl (fun u e => if a ≤ e ∧ e < u then e else u) u
def lo (E : List Int) (a : Int) : Int := loU a E 1099511627776
theorem loU_spec (a : Int) : ∀ (E : List Int) (u : Int), loU a E u ≤ u ∧ (loU a E u = u ∨ (loU a E u ∈ E ∧ a ≤ loU a E u)) ∧ ∀ e, e ∈ E → a ≤ e → loU a E u ≤ e := by
  intro E
  induction E with
  | nil => intro u; exact ⟨Int.le_refl _, Or.inl rfl, fun e h => by cases h⟩
  | cons y ys ih =>
    intro u
    simp only [loU, List.foldl_cons]
    have h := ih (if a ≤ y ∧ y < u then y else u)
    simp only [loU] at h
    obtain ⟨h1, h2, h3⟩ := h
    generalize List.foldl (fun u e => if a ≤ e ∧ e < u then e else u) (if a ≤ y ∧ y < u then y else u) ys = r at *
    by_cases c : a ≤ y ∧ y < u
    · rw [if_pos c] at h1 h2
      refine ⟨by omega, ?_, fun e he ha => ?_⟩
      · rcases h2 with h2 | h2
        · subst h2; exact Or.inr ⟨by simp, c.1⟩
        · exact Or.inr ⟨by simp [h2.1], h2.2⟩
      · rcases List.mem_cons.1 he with rfl | he
        · exact h1
        · exact h3 e he ha
    · rw [if_neg c] at h1 h2
      refine ⟨h1, ?_, fun e he ha => ?_⟩
      · rcases h2 with h2 | h2
        · exact Or.inl h2
        · exact Or.inr ⟨by simp [h2.1], h2.2⟩
      · rcases List.mem_cons.1 he with rfl | he
        · omega
        · exact h3 e he ha
theorem cnt_mono {E : List Int} {a b : Int} (h : a ≤ b) : cnt E b ≤ cnt E a := List.countP_mono_left fun e _ he => by simp only [decide_eq_true_eq] at he ⊢; omega
theorem cnt_lt {E : List Int} {a b e : Int} (he : e ∈ E) (h1 : a ≤ e) (h2 : e < b) : cnt E b < cnt E a := by
  induction E with
  | nil => cases he
  | cons y ys ih =>
    simp only [cnt, List.countP_cons, decide_eq_true_eq]
    rcases List.mem_cons.1 he with rfl | he
    · have := cnt_mono (E := ys) (a := a) (b := b) (by omega)
      simp only [cnt] at this
      rw [if_neg (by omega), if_pos h1]; omega
    · have := ih he
      simp only [cnt] at this
      by_cases c : b ≤ y
      · rw [if_pos c, if_pos (by omega)]; omega
      · rw [if_neg c]; omega
theorem cnt_lo {E : List Int} {a : Int} (h : lo E a ≠ 1099511627776) : cnt E (lo E a + 1) < cnt E a := by
  obtain ⟨_, h2, _⟩ := loU_spec a E 1099511627776
  rcases h2 with h2 | h2
  · exact absurd h2 h
  · exact cnt_lt h2.1 h2.2 (by simp only [lo]; omega)
theorem lo_ge {E : List Int} {a : Int} (ha : a ≤ 1099511627776) : a ≤ lo E a := by
  obtain ⟨_, h2, _⟩ := loU_spec a E 1099511627776
  rcases h2 with h2 | h2
  · simp only [lo]; omega
  · exact h2.2
theorem cnt_jump {E : List Int} {a b : Int} (h1 : a ≤ b) (h2 : b ≤ lo E a) : cnt E b = cnt E a := by
  refine List.countP_congr fun e he => ?_
  simp only [decide_eq_true_eq]
  obtain ⟨_, _, h3⟩ := loU_spec a E 1099511627776
  constructor
  · omega
  · intro h
    have := h3 e he h
    simp only [lo] at h2
    omega
def room (E : List Int) (c : Int) : Nat → Int → Option Int
  | 0, _ => none
  | f + 1, a => if (cnt E a : Int) < c then some a else if lo E a = 1099511627776 then none else room E c f (lo E a + 1)
/-- The first tick, from a on, at which fewer than c of E last on. -/
def roomA (E : List Int) (c a : Int) : Option Int := room E c (cnt E a + 1) a
theorem room_fuel {E : List Int} {c : Int} : ∀ (f g : Nat) (a : Int), cnt E a < f → cnt E a < g → room E c f a = room E c g a := by
  intro f
  induction f with
  | zero => intro g a h; omega
  | succ f ih =>
    intro g a h1 h2
    obtain ⟨g, rfl⟩ : ∃ g', g = g' + 1 := ⟨g - 1, by omega⟩
    simp only [room]
    by_cases c1 : (cnt E a : Int) < c
    · rw [if_pos c1, if_pos c1]
    · rw [if_neg c1, if_neg c1]
      by_cases c2 : lo E a = 1099511627776
      · rw [if_pos c2, if_pos c2]
      · rw [if_neg c2, if_neg c2]
        have := cnt_lo c2
        exact ih g _ (by omega) (by omega)
theorem roomA_hit {E : List Int} {c a : Int} (h : (cnt E a : Int) < c) : roomA E c a = some a := by simp only [roomA, room, if_pos h]
theorem roomA_none {E : List Int} {c a : Int} (h : ¬ (cnt E a : Int) < c) (h2 : lo E a = 1099511627776) : roomA E c a = none := by simp only [roomA, room, if_neg h, if_pos h2]
theorem roomA_step {E : List Int} {c a : Int} (h : ¬ (cnt E a : Int) < c) (h2 : ¬ lo E a = 1099511627776) : roomA E c a = roomA E c (lo E a + 1) := by
  have := cnt_lo h2
  simp only [roomA]
  rw [show room E c (cnt E a + 1) a = room E c (cnt E a) (lo E a + 1) by simp only [room, if_neg h, if_neg h2]]
  exact room_fuel _ _ _ (by omega) (by omega)
theorem roomA_ok {E : List Int} {c : Int} {b : Int} (hE : ∀ e, e ∈ E → e = 1099511627776 ∨ e ≤ b) : ∀ (n : Nat) (a : Int), cnt E a = n → a ≤ 1099511627776 → ∀ t, roomA E c a = some t → a ≤ t ∧ (cnt E t : Int) < c ∧ t ≤ max a (b + 1) := by
  intro n
  induction n using Nat.strongRecOn with
  | ind n ih =>
    intro a hn ha t ht
    by_cases c1 : (cnt E a : Int) < c
    · rw [roomA_hit c1] at ht
      obtain rfl : a = t := by simpa using ht
      exact ⟨Int.le_refl _, c1, by omega⟩
    · by_cases c2 : lo E a = 1099511627776
      · rw [roomA_none c1 c2] at ht; cases ht
      · rw [roomA_step c1 c2] at ht
        obtain ⟨q1, q2, q3⟩ := loU_spec a E 1099511627776
        have g := lo_ge (E := E) ha
        have hm : lo E a ∈ E := by
          rcases q2 with q2 | q2
          · exact absurd q2 c2
          · exact q2.1
        have hb : lo E a ≤ b := by
          rcases hE _ hm with q | q
          · exact absurd q c2
          · exact q
        have hl : lo E a + 1 ≤ 1099511627776 := by simp only [lo] at c2 ⊢; omega
        obtain ⟨r1, r2, r3⟩ := ih (cnt E (lo E a + 1)) (by rw [← hn]; exact cnt_lo c2) (lo E a + 1) rfl hl t ht
        exact ⟨by omega, r2, by omega⟩
theorem roomA_le {E : List Int} {c : Int} (hE : ∀ e, e ∈ E → e ≤ 1099511627776) {x : Int} (hx : x ≤ 1099511627776) (hc : (cnt E x : Int) < c) : ∀ (n : Nat) (a : Int), cnt E a = n → a ≤ x → ∃ t, roomA E c a = some t ∧ t ≤ x := by
  intro n
  induction n using Nat.strongRecOn with
  | ind n ih =>
    intro a hn ha
    by_cases c1 : (cnt E a : Int) < c
    · exact ⟨a, roomA_hit c1, ha⟩
    · have hlx : lo E a < x := by
        by_cases e : lo E a < x
        · exact e
        · have := cnt_jump (E := E) ha (by omega)
          omega
      have c2 : ¬ lo E a = 1099511627776 := by omega
      rw [roomA_step c1 c2]
      exact ih _ (by rw [← hn]; exact cnt_lo c2) _ rfl (by omega)
end Go.Proofs.Ythhkbfjolmgloaa
namespace Go.Proofs.Ythhkbfjolmgloaa
open Go.RowKit
set_option linter.unusedVariables false
set_option linter.unusedSimpArgs false
/-- When a placed leg's train gives its track back; not known yet: 2^40. -/
def endT (l : Line) (p : List (List Int)) (j m : Nat) : Int := if m + 1 < (p.getD j []).length then st p j (m + 1) else if m + 1 = (l.tr j).legs.length then st p j m + (l.leg j m).run else 1099511627776
def endsR (l : Line) (p : List (List Int)) (s : Int) (j : Nat) (a : List Int) : List Int := foldF (fun m a => if (l.leg j m).to = s then a ++ [endT l p j m] else a) 0 (p.getD j []).length a
def ends (l : Line) (p : List (List Int)) (s : Int) : List Int := foldF (endsR l p s) 0 l.trains.length []
def freeR (l : Line) (p : List (List Int)) (i k j : Nat) (a : Int) : Int := foldF (fun m a => if j ≠ i ∧ (l.tr j).trk m = (l.tr i).trk k then max a (st p j m + (l.leg j m).run + l.gap) else a) 0 (p.getD j []).length a
def freeT (l : Line) (p : List (List Int)) (i k : Nat) (a : Int) : Int := foldF (freeR l p i k) 0 l.trains.length a
/-- When a train's next leg can begin. -/
def stepT (l : Line) (p : List (List Int)) (last : Int) (i : Nat) : Option Int :=
  roomA (ends l p (l.leg i (p.getD i []).length).to) (l.tk (l.leg i (p.getD i []).length).to.toNat) (freeT l p i (p.getD i []).length (max (readyT l p i (p.getD i []).length) last))
def put (p : List (List Int)) (i : Nat) (t : Int) : List (List Int) := p.set i (p.getD i [] ++ [t])
theorem put_length {p : List (List Int)} {i : Nat} {t : Int} : (put p i t).length = p.length := by simp [put]
theorem put_row {p : List (List Int)} {i : Nat} {t : Int} (hi : i < p.length) (j : Nat) : (put p i t).getD j [] = if j = i then p.getD i [] ++ [t] else p.getD j [] := by
  unfold put
  by_cases e : j = i
  · subst e; simp [List.getD_eq_getElem?_getD, hi]
  · simp [List.getD_eq_getElem?_getD, List.getElem?_set, Ne.symm e, e]
theorem put_len {p : List (List Int)} {i : Nat} {t : Int} (hi : i < p.length) (j : Nat) : ((put p i t).getD j []).length = if j = i then (p.getD i []).length + 1 else (p.getD j []).length := by
  rw [put_row hi]
  by_cases e : j = i
  · simp [e]
  · simp [e]
theorem put_st {p : List (List Int)} {i : Nat} {t : Int} (hi : i < p.length) (j m : Nat) : st (put p i t) j m = if j = i ∧ m = (p.getD i []).length then t else st p j m := by
  unfold st
  rw [put_row hi]
  by_cases e : j = i
  · subst e
    simp only [if_true, true_and]
    by_cases e2 : m = (p.getD j []).length
    · subst e2; simp [List.getD_eq_getElem?_getD]
    · rw [if_neg e2]
      simp only [List.getD_eq_getElem?_getD]
      by_cases e3 : m < (p.getD j []).length
      · simp only [List.getD_eq_getElem?_getD] at e3
        rw [List.getElem?_append_left e3]
      · have h1 : (p.getD j []).length ≤ m := by omega
        have h2 : (p.getD j [] ++ [t]).length ≤ m := by simp only [List.length_append, List.length_singleton]; omega
        simp only [List.getD_eq_getElem?_getD] at h1 h2
        rw [List.getElem?_eq_none h1, List.getElem?_eq_none h2]
  · rw [if_neg e, if_neg (fun h => e h.1)]
theorem put_st_ne {p : List (List Int)} {i : Nat} {t : Int} (hi : i < p.length) {j : Nat} (h : j ≠ i) (m : Nat) : st (put p i t) j m = st p j m := by rw [put_st hi, if_neg (fun e => h e.1)]
theorem put_st_old {p : List (List Int)} {i : Nat} {t : Int} (hi : i < p.length) {m : Nat} (h : m ≠ (p.getD i []).length) : st (put p i t) i m = st p i m := by rw [put_st hi, if_neg (fun e => h e.2)]
theorem put_st_new {p : List (List Int)} {i : Nat} {t : Int} (hi : i < p.length) : st (put p i t) i (p.getD i []).length = t := by rw [put_st hi, if_pos ⟨rfl, rfl⟩]
theorem put_len_ne {p : List (List Int)} {i : Nat} {t : Int} (hi : i < p.length) {j : Nat} (h : j ≠ i) : ((put p i t).getD j []).length = (p.getD j []).length := by rw [put_len hi, if_neg h]
theorem put_len_i {p : List (List Int)} {i : Nat} {t : Int} (hi : i < p.length) : ((put p i t).getD i []).length = (p.getD i []).length + 1 := by rw [put_len hi, if_pos rfl]
theorem mem_ends {l : Line} {p : List (List Int)} {s e : Int} (h : e ∈ ends l p s) : ∃ j m, j < l.trains.length ∧ m < (p.getD j []).length ∧ (l.leg j m).to = s ∧ e = endT l p j m := by
  have key : ∀ e, e ∈ ends l p s → ∃ j m, j < l.trains.length ∧ m < (p.getD j []).length ∧ (l.leg j m).to = s ∧ e = endT l p j m := by
    unfold ends
    refine foldF_inv (P := fun a => ∀ e, e ∈ a → ∃ j m, j < l.trains.length ∧ m < (p.getD j []).length ∧ (l.leg j m).to = s ∧ e = endT l p j m) (fun j a _ hj ha => ?_) (fun e h => by cases h)
    unfold endsR
    refine foldF_inv (P := fun a => ∀ e, e ∈ a → ∃ j m, j < l.trains.length ∧ m < (p.getD j []).length ∧ (l.leg j m).to = s ∧ e = endT l p j m) (fun m a _ hm ha => ?_) ha
    intro e he
    by_cases c : (l.leg j m).to = s
    · rw [if_pos c] at he
      rcases List.mem_append.1 he with he | he
      · exact ha e he
      · obtain rfl : e = _ := by simpa using he
        exact ⟨j, m, hj, hm, c, rfl⟩
    · rw [if_neg c] at he
      exact ha e he
  exact key e h
theorem cnt_append (E : List Int) (e x : Int) : (cnt (E ++ [e]) x : Int) = cnt E x + if x ≤ e then 1 else 0 := by
  unfold cnt
  rw [List.countP_append]
  by_cases c : x ≤ e
  · simp [c]
  · simp [c]
theorem cnt_ends (l : Line) (p : List (List Int)) (s x : Int) : (cnt (ends l p s) x : Int) = sumF (fun j => sumF (fun m => if (l.leg j m).to = s ∧ x ≤ endT l p j m then 1 else 0) 0 (p.getD j []).length) 0 l.trains.length := by
  have h := foldF_rel (R := fun (a : List Int) (b : Int) => (cnt a x : Int) = b) (f := endsR l p s) (g := fun j b => b + sumF (fun m => if (l.leg j m).to = s ∧ x ≤ endT l p j m then 1 else 0) 0 (p.getD j []).length) (i := 0) (n := l.trains.length) (a := []) (b := 0) (fun j a b _ hj hab => ?_) (by simp [cnt])
  · unfold ends
    rw [h, foldF_sum]; omega
  · have h2 := foldF_rel (R := fun (a : List Int) (b : Int) => (cnt a x : Int) = b) (f := fun m a => if (l.leg j m).to = s then a ++ [endT l p j m] else a) (g := fun m b => b + if (l.leg j m).to = s ∧ x ≤ endT l p j m then 1 else 0) (i := 0) (n := (p.getD j []).length) (a := a) (b := b) (fun m a b _ hm hab => ?_) hab
    · unfold endsR
      rw [h2, foldF_sum]
    · by_cases c : (l.leg j m).to = s
      · rw [if_pos c, cnt_append, hab]; simp [c]
      · rw [if_neg c, hab]; simp [c]
theorem freeT_ge {l : Line} {p : List (List Int)} {i k : Nat} {a : Int} : a ≤ freeT l p i k a := by
  unfold freeT
  refine foldF_inv (P := fun b => a ≤ b) (fun j b _ _ hb => ?_) (Int.le_refl _)
  unfold freeR
  refine foldF_inv (P := fun b => a ≤ b) (fun m b _ _ hb => ?_) hb
  by_cases c : j ≠ i ∧ (l.tr j).trk m = (l.tr i).trk k
  · rw [if_pos c]; omega
  · rw [if_neg c]; exact hb
theorem freeT_le {l : Line} {p : List (List Int)} {i k : Nat} {a x : Int} (h0 : a ≤ x) (h : ∀ j m, j < l.trains.length → m < (p.getD j []).length → j ≠ i → (l.tr j).trk m = (l.tr i).trk k → st p j m + (l.leg j m).run + l.gap ≤ x) : freeT l p i k a ≤ x := by
  unfold freeT
  refine foldF_inv (P := fun b => b ≤ x) (fun j b _ hj hb => ?_) h0
  unfold freeR
  refine foldF_inv (P := fun b => b ≤ x) (fun m b _ hm hb => ?_) hb
  by_cases c : j ≠ i ∧ (l.tr j).trk m = (l.tr i).trk k
  · rw [if_pos c]; have := h j m hj hm c.1 c.2; omega
  · rw [if_neg c]; exact hb
theorem freeT_hit {l : Line} {p : List (List Int)} {i k j m : Nat} {a : Int} (hj : j < l.trains.length) (hm : m < (p.getD j []).length) (hji : j ≠ i) (ht : (l.tr j).trk m = (l.tr i).trk k) : st p j m + (l.leg j m).run + l.gap ≤ freeT l p i k a := by
  have up : ∀ (j : Nat) (b x : Int), x ≤ b → x ≤ freeR l p i k j b := by
    intro j b x hb
    unfold freeR
    refine foldF_inv (P := fun b => x ≤ b) (fun m b _ _ hb => ?_) hb
    by_cases c : j ≠ i ∧ (l.tr j).trk m = (l.tr i).trk k
    · rw [if_pos c]; omega
    · rw [if_neg c]; exact hb
  unfold freeT
  refine foldF_hit (P := fun _ => True) (Q := fun b => st p j m + (l.leg j m).run + l.gap ≤ b) (Nat.zero_le j) hj (fun _ _ _ _ _ => trivial) trivial (fun b _ => ?_) (fun j' b _ _ hb => up j' b _ hb)
  unfold freeR
  refine foldF_hit (P := fun _ => True) (Q := fun b => st p j m + (l.leg j m).run + l.gap ≤ b) (Nat.zero_le m) hm (fun _ _ _ _ _ => trivial) trivial (fun b _ => ?_) (fun m' b _ _ hb => ?_)
  · rw [if_pos ⟨hji, ht⟩]; omega
  · by_cases c : j ≠ i ∧ (l.tr j).trk m' = (l.tr i).trk k
    · rw [if_pos c]; omega
    · rw [if_neg c]; exact hb

/-! ### What stays right while legs are placed -/
def thereF (l : Line) (p : List (List Int)) (s x : Int) (j m : Nat) : Int := if (l.leg j m).to = s ∧ st p j m ≤ x ∧ x ≤ endT l p j m then 1 else 0
def there (l : Line) (p : List (List Int)) (s x : Int) : Int := sumF (fun j => sumF (thereF l p s x j) 0 (p.getD j []).length) 0 l.trains.length
structure Good (l : Line) (p : List (List Int)) (last : Int) : Prop where
  rows : p.length = l.trains.length
  len : ∀ i, i < l.trains.length → (p.getD i []).length ≤ (l.tr i).legs.length
  last0 : 0 ≤ last
  at_ : ∀ i k, i < l.trains.length → k < (p.getD i []).length → 0 ≤ st p i k ∧ st p i k ≤ last
  ready : ∀ i k, i < l.trains.length → k < (p.getD i []).length → readyT l p i k ≤ st p i k
  apart : ∀ i k j m, i < l.trains.length → k < (p.getD i []).length → j < l.trains.length → m < (p.getD j []).length → i ≠ j → (l.tr i).trk k = (l.tr j).trk m → st p i k + (l.leg i k).run + l.gap ≤ st p j m ∨ st p j m + (l.leg j m).run + l.gap ≤ st p i k
  room : ∀ i k, i < l.trains.length → k < (p.getD i []).length → there l p (l.leg i k).to (st p i k) ≤ l.tk (l.leg i k).to.toNat
theorem getD_replicate_nil (n j : Nat) : (List.replicate n ([] : List Int)).getD j [] = [] := by
  simp only [List.getD_eq_getElem?_getD, List.getElem?_replicate]
  by_cases h : j < n
  · rw [if_pos h]; rfl
  · rw [if_neg h]; rfl
theorem Good.start (l : Line) : Good l (List.replicate l.trains.length []) 0 where
  rows := by simp
  len := fun i _ => by rw [getD_replicate_nil]; simp
  last0 := Int.le_refl _
  at_ := fun i k _ hk => by rw [getD_replicate_nil] at hk; simp at hk
  ready := fun i k _ hk => by rw [getD_replicate_nil] at hk; simp at hk
  apart := fun i k j m _ hk => by rw [getD_replicate_nil] at hk; simp at hk
  room := fun i k _ hk => by rw [getD_replicate_nil] at hk; simp at hk
theorem endT_put_other {l : Line} {p : List (List Int)} {i : Nat} {t : Int} (hi : i < p.length) {j m : Nat} (h : j ≠ i) : endT l (put p i t) j m = endT l p j m := by
  unfold endT
  rw [put_len_ne hi h, put_st_ne hi h, put_st_ne hi h]
/-- What is known when a leg is to be placed. -/
theorem stepT_ok {l : Line} {p : List (List Int)} {last t : Int} {i : Nat} (O : Ok l) (G : Good l p last) (hi : i < l.trains.length) (hk : (p.getD i []).length < (l.tr i).legs.length) (hl : last ≤ 10000000) (ht : stepT l p last i = some t) :
    last ≤ t ∧ readyT l p i (p.getD i []).length ≤ t ∧ t ≤ max 110000 (last + 20000) ∧ (cnt (ends l p (l.leg i (p.getD i []).length).to) t : Int) < l.tk (l.leg i (p.getD i []).length).to.toNat ∧
    ∀ j m, j < l.trains.length → m < (p.getD j []).length → j ≠ i → (l.tr j).trk m = (l.tr i).trk (p.getD i []).length → st p j m + (l.leg j m).run + l.gap ≤ t := by
  have B := O.bd
  have hr : readyT l p i (p.getD i []).length ≤ max 110000 (last + 20000) := by
    unfold readyT
    have b1 := B.tr i hi
    obtain ⟨_, _, _, _, x5, x6⟩ := B.leg i _ hi hk
    by_cases e : (p.getD i []).length = 0
    · rw [if_pos e]; rw [e] at x5 x6; omega
    · rw [if_neg e]
      have b2 := G.at_ i ((p.getD i []).length - 1) hi (by omega)
      obtain ⟨_, _, y1, y2, _, _⟩ := B.leg i ((p.getD i []).length - 1) hi (by omega)
      omega
  have g := B.gap
  have hf : freeT l p i (p.getD i []).length (max (readyT l p i (p.getD i []).length) last) ≤ max 110000 (last + 20000) := by
    refine freeT_le (by omega) fun j m hj hm _ _ => ?_
    have b2 := G.at_ j m hj hm
    have := G.len j hj
    obtain ⟨_, _, y1, y2, _, _⟩ := B.leg j m hj (by omega)
    omega
  have hE : ∀ e, e ∈ ends l p (l.leg i (p.getD i []).length).to → e = 1099511627776 ∨ e ≤ last + 10000 := by
    intro e he
    obtain ⟨j, m, hj, hm, _, rfl⟩ := mem_ends he
    have b2 := G.at_ j m hj hm
    have := G.len j hj
    obtain ⟨_, _, y1, y2, _, _⟩ := B.leg j m hj (by omega)
    unfold endT
    by_cases c1 : m + 1 < (p.getD j []).length
    · rw [if_pos c1]; have := G.at_ j (m + 1) hj c1; omega
    · rw [if_neg c1]
      by_cases c2 : m + 1 = (l.tr j).legs.length
      · rw [if_pos c2]; omega
      · rw [if_neg c2]; omega
  obtain ⟨r1, r2, r3⟩ := roomA_ok hE _ _ rfl (by omega) t ht
  have f0 := freeT_ge (l := l) (p := p) (i := i) (k := (p.getD i []).length) (a := max (readyT l p i (p.getD i []).length) last)
  refine ⟨by omega, by omega, by omega, r2, fun j m hj hm hji htr => ?_⟩
  have := freeT_hit (a := max (readyT l p i (p.getD i []).length) last) hj hm hji htr
  omega
theorem readyT_put {l : Line} {p : List (List Int)} {i : Nat} {t : Int} (hi : i < p.length) {j k : Nat} (h : j < l.trains.length → k < ((put p i t).getD j []).length) (hj : j < l.trains.length) : readyT l (put p i t) j k = readyT l p j k := by
  unfold readyT
  have := h hj
  rw [put_len hi] at this
  by_cases e : k = 0
  · rw [if_pos e, if_pos e]
  · rw [if_neg e, if_neg e, put_st hi, if_neg]
    rintro ⟨rfl, h2⟩
    rw [if_pos rfl] at this
    omega
theorem there_put {l : Line} {p : List (List Int)} {last t : Int} {i : Nat} (O : Ok l) (G : Good l p last) (hi : i < l.trains.length) (hk : (p.getD i []).length < (l.tr i).legs.length) (ht : last ≤ t) (ht9 : t ≤ 1099511627776) {s x : Int} (hx : x ≤ t) :
    there l (put p i t) s x = there l p s x + if (l.leg i (p.getD i []).length).to = s ∧ t ≤ x then 1 else 0 := by
  have hip : i < p.length := by rw [G.rows]; exact hi
  have B := O.bd
  unfold there
  refine sumF_change (k := i) (Nat.zero_le _) hi (fun j _ hj hji => ?_) ?_
  · rw [put_len_ne hip hji]
    refine sumF_congr fun m _ _ => ?_
    unfold thereF
    rw [endT_put_other hip hji, put_st_ne hip hji]
  · rw [put_len_i hip, sumF_last _ (Nat.zero_le _)]
    have h1 : sumF (thereF l (put p i t) s x i) 0 (p.getD i []).length = sumF (thereF l p s x i) 0 (p.getD i []).length := by
      refine sumF_congr fun m _ hm => ?_
      unfold thereF
      rw [put_st_old hip (by omega)]
      by_cases e : m + 1 = (p.getD i []).length
      · have e1 : endT l (put p i t) i m = t := by
          unfold endT
          rw [put_len_i hip, if_pos (by omega), e, put_st_new hip]
        have e2 : endT l p i m = 1099511627776 := by
          unfold endT
          rw [if_neg (by omega), if_neg (by omega)]
        rw [e1, e2]
        have c : x ≤ 1099511627776 := by omega
        simp only [hx, c]
      · have e1 : endT l (put p i t) i m = endT l p i m := by
          unfold endT
          rw [put_len_i hip, if_pos (by omega), if_pos (by omega), put_st_old hip (by omega)]
        rw [e1]
    have h2 : thereF l (put p i t) s x i (p.getD i []).length = if (l.leg i (p.getD i []).length).to = s ∧ t ≤ x then 1 else 0 := by
      unfold thereF
      rw [put_st_new hip]
      have e1 : x ≤ endT l (put p i t) i (p.getD i []).length := by
        unfold endT
        rw [put_len_i hip, if_neg (by omega), put_st_new hip]
        obtain ⟨_, _, y1, y2, _, _⟩ := B.leg i _ hi hk
        by_cases c : (p.getD i []).length + 1 = (l.tr i).legs.length
        · rw [if_pos c]; omega
        · rw [if_neg c]; omega
      simp only [e1, and_true]
    rw [h1, h2]
theorem there_all {l : Line} {p : List (List Int)} {last : Int} (G : Good l p last) {s x : Int} (hx : last ≤ x) : there l p s x = cnt (ends l p s) x := by
  rw [cnt_ends]
  unfold there
  refine sumF_congr fun j _ hj => sumF_congr fun m _ hm => ?_
  unfold thereF
  have := G.at_ j m hj hm
  have c : st p j m ≤ x := by omega
  simp only [c, true_and]
theorem Good.step {l : Line} {p : List (List Int)} {last t : Int} {i : Nat} (O : Ok l) (G : Good l p last) (hi : i < l.trains.length) (hk : (p.getD i []).length < (l.tr i).legs.length) (hl : last ≤ 10000000) (ht : stepT l p last i = some t) : Good l (put p i t) t := by
  have hip : i < p.length := by rw [G.rows]; exact hi
  have B := O.bd
  obtain ⟨s1, s2, s3, s4, s5⟩ := stepT_ok O G hi hk hl ht
  have split : ∀ j m, j < l.trains.length → m < ((put p i t).getD j []).length → (j = i ∧ m = (p.getD i []).length ∧ st (put p i t) j m = t) ∨ (m < (p.getD j []).length ∧ ¬ (j = i ∧ m = (p.getD i []).length) ∧ st (put p i t) j m = st p j m) := by
    intro j m hj hm
    rw [put_len hip] at hm
    rw [put_st hip]
    by_cases e : j = i ∧ m = (p.getD i []).length
    · rw [if_pos e]; exact Or.inl ⟨e.1, e.2, rfl⟩
    · rw [if_neg e]
      refine Or.inr ⟨?_, e, rfl⟩
      by_cases e2 : j = i
      · subst e2; rw [if_pos rfl] at hm; omega
      · rw [if_neg e2] at hm; exact hm
  refine ⟨by rw [put_length]; exact G.rows, fun j hj => ?_, by have := G.last0; omega, fun j m hj hm => ?_, fun j m hj hm => ?_, fun j m j2 m2 hj hm hj2 hm2 hne htr => ?_, fun j m hj hm => ?_⟩
  · rw [put_len hip]
    by_cases e : j = i
    · subst e; rw [if_pos rfl]; omega
    · rw [if_neg e]; exact G.len j hj
  · have := G.last0
    rcases split j m hj hm with ⟨_, _, h⟩ | ⟨h1, _, h⟩
    · rw [h]; omega
    · rw [h]; have := G.at_ j m hj h1; omega
  · rw [readyT_put hip (fun _ => hm) hj]
    rcases split j m hj hm with ⟨rfl, rfl, h⟩ | ⟨h1, _, h⟩
    · rw [h]; exact s2
    · rw [h]; exact G.ready j m hj h1
  · rcases split j m hj hm with ⟨rfl, rfl, h⟩ | ⟨h1, _, h⟩
    · rcases split j2 m2 hj2 hm2 with ⟨rfl, rfl, h'⟩ | ⟨h1', _, h'⟩
      · exact absurd rfl hne
      · rw [h, h']
        exact Or.inr (s5 j2 m2 hj2 h1' (Ne.symm hne) htr.symm)
    · rcases split j2 m2 hj2 hm2 with ⟨rfl, rfl, h'⟩ | ⟨h1', _, h'⟩
      · rw [h, h']
        exact Or.inl (s5 j m hj h1 hne htr)
      · rw [h, h']
        exact G.apart j m j2 m2 hj h1 hj2 h1' hne htr
  · have hb : t ≤ 1099511627776 := by omega
    rcases split j m hj hm with ⟨rfl, rfl, h⟩ | ⟨h1, _, h⟩
    · rw [h, there_put O G hi hk s1 hb (Int.le_refl _), there_all G s1, if_pos ⟨rfl, Int.le_refl _⟩]
      omega
    · have h2 := G.at_ j m hj h1
      rw [h, there_put O G hi hk s1 hb (by omega)]
      by_cases c : (l.leg i (p.getD i []).length).to = (l.leg j m).to ∧ t ≤ st p j m
      · rw [if_pos c]
        have e : st p j m = t := by omega
        have := there_all G (s := (l.leg j m).to) (x := t) s1
        rw [e, this, ← c.1]
        omega
      · rw [if_neg c]
        have := G.room j m hj h1
        omega
/-- A whole plan that was placed so can be. -/
theorem Good.can {l : Line} {p : List (List Int)} {last : Int} (O : Ok l) (G : Good l p last) (hf : ∀ i, i < l.trains.length → (p.getD i []).length = (l.tr i).legs.length) (hl : last ≤ 1000000) : Fits l p ∧ checkB l p = (0, 0, 0, 0) := by
  have B := O.bd
  have F : Fits l p := by
    refine ⟨G.rows, fun i t ht r hr => ?_, fun i r hr k x hx => ?_⟩
    · have hi := lt_of_some ht
      have e1 := Line.tr_at hi
      rw [ht] at e1
      obtain rfl : t = l.tr i := by simpa using e1
      have := hf i hi
      rwa [getD_some hr] at this
    · have hi : i < l.trains.length := by rw [← G.rows]; exact lt_of_some hr
      have := G.at_ i k hi (by rw [getD_some hr]; exact lt_of_some hx)
      simp only [st, getD_some hr, getD_some hx] at this
      omega
  refine ⟨F, ?_⟩
  have e2 : eachA l (cl2 l p) = (0, 0, 0, 0) := by
    unfold eachA
    rw [findF_none.2]; rfl
    intro i _ hi
    refine findF_none.2 fun k _ hk => ?_
    have := G.ready i k hi (by rw [hf i hi]; exact hk)
    have h' : ¬ st p i k < readyT l p i k := by omega
    simp [cl2, early, h']
  have e3 : eachA l (cl3 l p) = (0, 0, 0, 0) := by
    unfold eachA
    rw [findF_none.2]; rfl
    intro i _ hi
    refine findF_none.2 fun k _ hk => ?_
    have : hit l p i k = none := by
      refine findF_none.2 fun j _ hj => findF_none.2 fun m _ hm => ?_
      rw [if_neg]
      simp only [tight, decide_eq_true_eq]
      rintro ⟨h1, h2, h3, h4⟩
      obtain ⟨_, _, y1, _, _, _⟩ := B.leg i k hi hk
      have g := B.gap
      rcases G.apart i k j m hi (by rw [hf i hi]; exact hk) hj (by rw [hf j hj]; exact hm) h1 h2 with h5 | h5
      · omega
      · omega
    simp [cl3, this]
  have e4 : eachA l (cl4 l p) = (0, 0, 0, 0) := by
    unfold eachA
    rw [findF_none.2]; rfl
    intro i _ hi
    refine findF_none.2 fun k _ hk => ?_
    have h1 := G.room i k hi (by rw [hf i hi]; exact hk)
    have h2 : taken l p i k ≤ there l p (l.leg i k).to (st p i k) := by
      refine sumF_le fun j _ hj => ?_
      rw [hf j hj]
      refine sumF_le fun m _ hm => ?_
      have hle : leaves l p j m = endT l p j m := by
        unfold leaves endT
        rw [hf j hj]
        by_cases c : m + 1 < (l.tr j).legs.length
        · rw [if_pos c, if_pos c]
        · rw [if_neg c, if_neg c, if_pos (by omega)]
      have hse : st p j m ≤ endT l p j m := by
        obtain ⟨_, _, y1, _, _, _⟩ := B.leg j m hj hm
        rw [← hle]
        unfold leaves
        by_cases c : m + 1 < (l.tr j).legs.length
        · rw [if_pos c]
          have h3 := G.ready j (m + 1) hj (by rw [hf j hj]; exact c)
          obtain ⟨_, _, _, _, y5, _⟩ := B.leg j (m + 1) hj c
          unfold readyT at h3
          rw [if_neg (by omega)] at h3
          simp only [Nat.add_sub_cancel] at h3
          omega
        · rw [if_neg c]; omega
      unfold takes thereF
      rw [hle]
      by_cases c1 : (l.leg j m).to = (l.leg i k).to
      · rw [if_neg (by simp [c1])]
        by_cases c2 : st p j m > st p i k ∨ (st p j m = st p i k ∧ j > i) ∨ (endT l p j m < st p i k ∧ (j ≠ i ∨ m ≠ k))
        · rw [if_pos c2]
          by_cases c3 : (l.leg j m).to = (l.leg i k).to ∧ st p j m ≤ st p i k ∧ st p i k ≤ endT l p j m
          · rw [if_pos c3]; decide
          · rw [if_neg c3]; decide
        · rw [if_neg c2]
          have c3 : (l.leg j m).to = (l.leg i k).to ∧ st p j m ≤ st p i k ∧ st p i k ≤ endT l p j m := by
            refine ⟨c1, by omega, ?_⟩
            by_cases e : j = i ∧ m = k
            · obtain ⟨rfl, rfl⟩ := e; exact hse
            · omega
          rw [if_pos c3]; decide
      · rw [if_pos c1]
        by_cases c3 : (l.leg j m).to = (l.leg i k).to ∧ st p j m ≤ st p i k ∧ st p i k ≤ endT l p j m
        · exact absurd c3.1 c1
        · rw [if_neg c3]; decide
    have h3 : full l p i k = false := by
      unfold full
      simp only [decide_eq_false_iff_not]
      omega
    simp [cl4, h3]
  unfold checkB
  rw [e2, e3, e4]
  rfl
end Go.Proofs.Ythhkbfjolmgloaa
namespace Go.Proofs.Ythhkbfjolmgloaa
open Go.RowKit
set_option linter.unusedVariables false
set_option linter.unusedSimpArgs false
set_option maxRecDepth 100000 in
set_option maxHeartbeats 1000000 in
theorem c94_any {w : World} {l : Line} {p : List (List Int)} {A0 A2 A3 : Option Addr} {c0 c2 c3 gl gp : Nat} (hl : IsLine w l (.agg #[.slice A0 l.tracks.length c0, .int .i64 l.gap, .slice A2 l.trains.length c2])) (hp : IsPlan w p (.agg #[.slice A3 p.length c3])) (O : Ok l) (F : Fits l p) (bx1 : w.heap[gl]? = some (.cells #[.slice A0 l.tracks.length c0, .int .i64 l.gap, .slice A2 l.trains.length c2] 33 (0, 0))) (bx2 : w.heap[gp]? = some (.cells #[.slice A3 p.length c3] 42 (0, 0))) {i k : Nat} (hi : i < l.trains.length) (hk : k < (l.tr i).legs.length) :
    Calls Try.prog 94 #[.int .i64 i, .int .i64 k, .pointer (some ⟨gl, 0, none⟩), .pointer (some ⟨gp, 0, none⟩)] w fun e w' => e = .returned (clV (cl2 l p i k)) ∧ Ext w w' := by
  obtain ⟨A0', c0', A2', c2', hq, h0, h2⟩ := hl
  simp only [Value.agg.injEq, Array.mk.injEq, List.cons.injEq, Value.slice.injEq, and_true, true_and] at hq
  obtain ⟨⟨rfl, rfl⟩, rfl, rfl⟩ := hq
  obtain ⟨A3', c3', hq, h3⟩ := hp
  simp only [Value.agg.injEq, Array.mk.injEq, List.cons.injEq, Value.slice.injEq, and_true, true_and] at hq
  obtain ⟨rfl, rfl⟩ := hq
  obtain ⟨b0, o0, b2, o2, bl, ol, cl, SL⟩ := seeL O h0 h2
  obtain ⟨b3, o3, br, or', cr, SP⟩ := seeP O F h3
  clear h0 h2 h3
  have B := O.bd
  obtain ⟨rfl, hb2⟩ := SL.base2 (by omega)
  obtain ⟨rfl, hb3⟩ := SP.base (by omega)
  obtain ⟨e0, e1, e2, e3, e4, hbl⟩ := SL.train i hi
  obtain ⟨r0, hbr⟩ := SP.row i hi
  obtain ⟨f0, f1, f2⟩ := SL.leg i k hi hk
  have s0 := SP.st i k hi hk
  obtain ⟨_, _, x1, x2, x3, x4⟩ := B.leg i k hi hk
  obtain ⟨z1, z2⟩ := F.bd hi hk
  have n10 := B.nl1 i hi
  have n5 := B.n5
  have t0 := B.tr i hi
  have p5 : p.length = l.trains.length := F.rows
  rw [p5] at bx2
  have g2 : w.cell? ⟨gl, 2, none⟩ = _ := box_cell bx1 2
  have g3 : w.cell? ⟨gp, 0, none⟩ = _ := box_cell bx2 0
  have hgl := box_lt bx1
  have hgp := box_lt bx2
  have d1 : bl i < w.heap.size + 1 := by omega
  have d3 : br i < w.heap.size + 1 := by omega
  have d5 : b3 < w.heap.size + 1 := by omega
  have d7 : gp < w.heap.size + 1 := by omega
  have d8 : gl < w.heap.size + 1 := by omega
  have d9 : b2 < w.heap.size + 1 := by omega
  clear bx1 bx2
  cases k with
  | zero =>
    have hA : Hid (readyT l p i 0 = (l.tr i).ready + (l.leg i 0).stay) := rfl
    simp only [Nat.zero_mul, Nat.add_zero] at f0 f1 f2 s0
    clear SL SP F O B
    by_cases he : st p i 0 < (l.tr i).ready + (l.leg i 0).stay
    · have hV : Hid (cl2 l p i 0 = ((2, (i : Int), 0, 0) : Cl)) := by simp [Hid, cl2, early, hA.out, he]
      go_enter Try.func94, Try.ntmps94
      go_wp2_with fail
      go_quiet (fail)
      go_wp2_with fail
      exact bodyPost_ret (v := clV (2, i, 0, 0)) (by simp [results, Try.results94, go_sem, clV]) rfl ⟨by rw [hV.out], (by repeat (first | (with_reducible exact hS.ext) | (with_reducible assumption) | (with_reducible exact Ext.refl _) | with_reducible apply Ext.alloc | with_reducible apply Ext.drewN | with_reducible apply Ext.drew | with_reducible refine Ext.setCell ?_ (by simp only []; omega) _))⟩
    · have hV : Hid (cl2 l p i 0 = (0, 0, 0, 0)) := by simp [Hid, cl2, early, hA.out, he]
      go_enter Try.func94, Try.ntmps94
      go_wp2_with fail
      go_quiet (fail)
      go_wp2_with fail
      exact bodyPost_ret (v := clV (0, 0, 0, 0)) (by simp [results, Try.results94, go_sem, clV]) rfl ⟨by rw [hV.out], (by repeat (first | (with_reducible exact hS.ext) | (with_reducible assumption) | (with_reducible exact Ext.refl _) | with_reducible apply Ext.alloc | with_reducible apply Ext.drewN | with_reducible apply Ext.drew | with_reducible refine Ext.setCell ?_ (by simp only []; omega) _))⟩
  | succ k =>
    have hA : Hid (readyT l p i (k + 1) = st p i k + (l.leg i k).run + (l.leg i (k + 1)).stay) := by simp [Hid, readyT]
    have hk1 : k < (l.tr i).legs.length := by omega
    obtain ⟨q0, q1, q2⟩ := SL.leg i k hi hk1
    have s1 := SP.st i k hi hk1
    obtain ⟨_, _, y1, y2, y3, y4⟩ := B.leg i k hi hk1
    obtain ⟨z3, z4⟩ := F.bd hi hk1
    clear SL SP F O B
    by_cases he : st p i (k + 1) < st p i k + (l.leg i k).run + (l.leg i (k + 1)).stay
    · have hV : Hid (cl2 l p i (k + 1) = ((2, (i : Int), ((k + 1 : Nat) : Int), 0) : Cl)) := by simp [Hid, cl2, early, hA.out, he]
      go_enter Try.func94, Try.ntmps94
      go_wp2_with fail
      go_quiet (fail)
      go_wp2_with fail
      go_quiet (fail)
      go_wp2_with fail
      exact bodyPost_ret (v := clV (2, i, (k + 1 : Nat), 0)) (by simp [results, Try.results94, go_sem, clV]) rfl ⟨by rw [hV.out], (by repeat (first | (with_reducible exact hS.ext) | (with_reducible assumption) | (with_reducible exact Ext.refl _) | with_reducible apply Ext.alloc | with_reducible apply Ext.drewN | with_reducible apply Ext.drew | with_reducible refine Ext.setCell ?_ (by simp only []; omega) _))⟩
    · have hV : Hid (cl2 l p i (k + 1) = (0, 0, 0, 0)) := by simp [Hid, cl2, early, hA.out, he]
      go_enter Try.func94, Try.ntmps94
      go_wp2_with fail
      go_quiet (fail)
      go_wp2_with fail
      go_quiet (fail)
      go_wp2_with fail
      exact bodyPost_ret (v := clV (0, 0, 0, 0)) (by simp [results, Try.results94, go_sem, clV]) rfl ⟨by rw [hV.out], (by repeat (first | (with_reducible exact hS.ext) | (with_reducible assumption) | (with_reducible exact Ext.refl _) | with_reducible apply Ext.alloc | with_reducible apply Ext.drewN | with_reducible apply Ext.drew | with_reducible refine Ext.setCell ?_ (by simp only []; omega) _))⟩
end Go.Proofs.Ythhkbfjolmgloaa
