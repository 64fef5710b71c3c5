/- Placing legs, in plain data: when a leg finds room, and that plans of orders can be. Plain data alone. -/
import Derived.Test.YthhkbfjolmgloaaEach
namespace Go.Proofs.Ythhkbfjolmgloaa
open Go.RowKit
set_option linter.unusedVariables false
set_option linter.unusedSimpArgs false
/-! ### A way over numbers -/
def foldN {α : Type} (f : Nat → α → α) : Nat → Nat → α → α
  | _, 0, a => a
  | i, c + 1, a => foldN f (i + 1) c (f i a)
def foldF {α : Type} (f : Nat → α → α) (i n : Nat) (a : α) : α := foldN f i (n - i) a
theorem foldF_at {α : Type} (f : Nat → α → α) {i n : Nat} (h : i < n) (a : α) : foldF f i n a = foldF f (i + 1) n (f i a) := by
  unfold foldF
  rw [show n - i = (n - (i + 1)) + 1 by omega]
  rfl
theorem foldF_end {α : Type} (f : Nat → α → α) {i n : Nat} (h : n ≤ i) (a : α) : foldF f i n a = a := by
  unfold foldF
  rw [show n - i = 0 by omega]
  rfl
theorem foldF_rel {α β : Type} {R : α → β → Prop} {f : Nat → α → α} {g : Nat → β → β} {i n : Nat} {a : α} {b : β} (h : ∀ j a b, i ≤ j → j < n → R a b → R (f j a) (g j b)) (h0 : R a b) : R (foldF f i n a) (foldF g i n b) := by
  unfold foldF
  generalize hc : n - i = c
  induction c generalizing i a b with
  | zero => exact h0
  | succ c ih =>
    simp only [foldN]
    exact ih (fun j a b h1 h2 => h j a b (by omega) h2) (h i a b (Nat.le_refl _) (by omega) h0) (by omega)
theorem foldF_inv {α : Type} {P : α → Prop} {f : Nat → α → α} {i n : Nat} {a : α} (h : ∀ j a, i ≤ j → j < n → P a → P (f j a)) (h0 : P a) : P (foldF f i n a) :=
  foldF_rel (R := fun a _ => P a) (g := fun _ (b : Unit) => b) (b := ()) (fun j a _ h1 h2 h3 => h j a h1 h2 h3) h0
theorem foldF_hit {α : Type} {P Q : α → Prop} {f : Nat → α → α} {i n k : Nat} {a : α} (hi : i ≤ k) (hk : k < n) (hP : ∀ j a, i ≤ j → j < n → P a → P (f j a)) (h0 : P a) (h1 : ∀ a, P a → Q (f k a)) (hQ : ∀ j a, i ≤ j → j < n → Q a → Q (f j a)) : Q (foldF f i n a) := by
  unfold foldF
  generalize hc : n - i = c
  induction c generalizing i a with
  | zero => omega
  | succ c ih =>
    simp only [foldN]
    by_cases e : i = k
    · subst e
      have := foldF_inv (P := Q) (f := f) (i := i + 1) (n := n) (a := f i a) (fun j a h1 h2 => hQ j a (by omega) h2) (h1 a h0)
      unfold foldF at this
      rwa [show n - (i + 1) = c by omega] at this
    · exact ih (by omega) (fun j a h1 h2 => hP j a (by omega) h2) (hP i a (Nat.le_refl _) (by omega) h0) (fun j a h1 h2 => hQ j a (by omega) h2) (by omega)
theorem foldF_sum (f : Nat → Int) (i n : Nat) (a : Int) : foldF (fun j a => a + f j) i n a = a + sumF f i n := by
  unfold foldF sumF
  generalize n - i = c
  induction c generalizing i a with
  | zero => simp [foldN, sumN]
  | succ c ih => simp only [foldN, sumN]; rw [ih]; omega
theorem sumF_last (f : Nat → Int) {i n : Nat} (h : i ≤ n) : sumF f i (n + 1) = sumF f i n + f n := by
  unfold sumF
  rw [show n + 1 - i = (n - i) + 1 by omega]
  generalize hc : n - i = c
  induction c generalizing i with
  | zero => simp only [sumN]; rw [show i = n by omega]; omega
  | succ c ih =>
    have := ih (i := i + 1) (by omega) (by omega)
    rw [show sumN f i (c + 1 + 1) = f i + sumN f (i + 1) (c + 1) from rfl, this, show sumN f i (c + 1) = f i + sumN f (i + 1) c from rfl]; omega
theorem sumF_le {f g : Nat → Int} {i n : Nat} (h : ∀ j, i ≤ j → j < n → f j ≤ g j) : sumF f i n ≤ sumF g i n := by
  unfold sumF
  generalize hc : n - i = c
  induction c generalizing i with
  | zero => exact Int.le_refl _
  | succ c ih =>
    simp only [sumN]
    have h1 := h i (Nat.le_refl _) (by omega)
    have h2 := ih (i := i + 1) (fun j h1 h2 => h j (by omega) h2) (by omega)
    omega
theorem sumF_change {f g : Nat → Int} {i n k : Nat} {d : Int} (hi : i ≤ k) (hk : k < n) (h : ∀ j, i ≤ j → j < n → j ≠ k → f j = g j) (hd : f k = g k + d) : sumF f i n = sumF g i n + d := by
  have h1 : sumF f i n = sumF (fun j => g j + if j = k then d else 0) i n := sumF_congr fun j h1 h2 => by
    by_cases e : j = k
    · subst e; rw [if_pos rfl, hd]
    · rw [if_neg e, h j h1 h2 e]; omega
  rw [h1, sumF_add, sumF_one (f := fun j => if j = k then d else 0) hi hk (fun j _ _ e => if_neg e), if_pos rfl]

/-! ### Room -/
def cnt (E : List Int) (a : Int) : Nat := E.countP (fun e => decide (a ≤ e))
def loU (a : Int) (E : List Int) (u : Int) : Int := E.foldl (fun u e => if a ≤ e ∧ e < u then e else u) u
def lo (E : List Int) (a : Int) : Int := loU a E 1099511627776
theorem loU_spec (a : Int) : ∀ (E : List Int) (u : Int), loU a E u ≤ u ∧ (loU a E u = u ∨ (loU a E u ∈ E ∧ a ≤ loU a E u)) ∧ ∀ e, e ∈ E → a ≤ e → loU a E u ≤ e := by
  intro E
  induction E with
  | nil => intro u; exact ⟨Int.le_refl _, Or.inl rfl, fun e h => by cases h⟩
  | cons y ys ih =>
    intro u
    simp only [loU, List.foldl_cons]
    have h := ih (if a ≤ y ∧ y < u then y else u)
    simp only [loU] at h
    obtain ⟨h1, h2, h3⟩ := h
    generalize List.foldl (fun u e => if a ≤ e ∧ e < u then e else u) (if a ≤ y ∧ y < u then y else u) ys = r at *
    by_cases c : a ≤ y ∧ y < u
    · rw [if_pos c] at h1 h2
      refine ⟨by omega, ?_, fun e he ha => ?_⟩
      · rcases h2 with h2 | h2
        · subst h2; exact Or.inr ⟨by simp, c.1⟩
        · exact Or.inr ⟨by simp [h2.1], h2.2⟩
      · rcases List.mem_cons.1 he with rfl | he
        · exact h1
        · exact h3 e he ha
    · rw [if_neg c] at h1 h2
      refine ⟨h1, ?_, fun e he ha => ?_⟩
      · rcases h2 with h2 | h2
        · exact Or.inl h2
        · exact Or.inr ⟨by simp [h2.1], h2.2⟩
      · rcases List.mem_cons.1 he with rfl | he
        · omega
        · exact h3 e he ha
theorem cnt_mono {E : List Int} {a b : Int} (h : a ≤ b) : cnt E b ≤ cnt E a := List.countP_mono_left fun e _ he => by simp only [decide_eq_true_eq] at he ⊢; omega
theorem cnt_lt {E : List Int} {a b e : Int} (he : e ∈ E) (h1 : a ≤ e) (h2 : e < b) : cnt E b < cnt E a := by
  induction E with
  | nil => cases he
  | cons y ys ih =>
    simp only [cnt, List.countP_cons, decide_eq_true_eq]
    rcases List.mem_cons.1 he with rfl | he
    · have := cnt_mono (E := ys) (a := a) (b := b) (by omega)
      simp only [cnt] at this
      rw [if_neg (by omega), if_pos h1]; omega
    · have := ih he
      simp only [cnt] at this
      by_cases c : b ≤ y
      · rw [if_pos c, if_pos (by omega)]; omega
      · rw [if_neg c]; omega
theorem cnt_lo {E : List Int} {a : Int} (h : lo E a ≠ 1099511627776) : cnt E (lo E a + 1) < cnt E a := by
  obtain ⟨_, h2, _⟩ := loU_spec a E 1099511627776
  rcases h2 with h2 | h2
  · exact absurd h2 h
  · exact cnt_lt h2.1 h2.2 (by simp only [lo]; omega)
theorem lo_ge {E : List Int} {a : Int} (ha : a ≤ 1099511627776) : a ≤ lo E a := by
  obtain ⟨_, h2, _⟩ := loU_spec a E 1099511627776
  rcases h2 with h2 | h2
  · simp only [lo]; omega
  · exact h2.2
theorem cnt_jump {E : List Int} {a b : Int} (h1 : a ≤ b) (h2 : b ≤ lo E a) : cnt E b = cnt E a := by
  refine List.countP_congr fun e he => ?_
  simp only [decide_eq_true_eq]
  obtain ⟨_, _, h3⟩ := loU_spec a E 1099511627776
  constructor
  · omega
  · intro h
    have := h3 e he h
    simp only [lo] at h2
    omega
def room (E : List Int) (c : Int) : Nat → Int → Option Int
  | 0, _ => none
  | f + 1, a => if (cnt E a : Int) < c then some a else if lo E a = 1099511627776 then none else room E c f (lo E a + 1)
/-- The first tick, from a on, at which fewer than c of E last on. -/
def roomA (E : List Int) (c a : Int) : Option Int := room E c (cnt E a + 1) a
theorem room_fuel {E : List Int} {c : Int} : ∀ (f g : Nat) (a : Int), cnt E a < f → cnt E a < g → room E c f a = room E c g a := by
  intro f
  induction f with
  | zero => intro g a h; omega
  | succ f ih =>
    intro g a h1 h2
    obtain ⟨g, rfl⟩ : ∃ g', g = g' + 1 := ⟨g - 1, by omega⟩
    simp only [room]
    by_cases c1 : (cnt E a : Int) < c
    · rw [if_pos c1, if_pos c1]
    · rw [if_neg c1, if_neg c1]
      by_cases c2 : lo E a = 1099511627776
      · rw [if_pos c2, if_pos c2]
      · rw [if_neg c2, if_neg c2]
        have := cnt_lo c2
        exact ih g _ (by omega) (by omega)
theorem roomA_hit {E : List Int} {c a : Int} (h : (cnt E a : Int) < c) : roomA E c a = some a := by simp only [roomA, room, if_pos h]
theorem roomA_none {E : List Int} {c a : Int} (h : ¬ (cnt E a : Int) < c) (h2 : lo E a = 1099511627776) : roomA E c a = none := by simp only [roomA, room, if_neg h, if_pos h2]
theorem roomA_step {E : List Int} {c a : Int} (h : ¬ (cnt E a : Int) < c) (h2 : ¬ lo E a = 1099511627776) : roomA E c a = roomA E c (lo E a + 1) := by
  have := cnt_lo h2
  simp only [roomA]
  rw [show room E c (cnt E a + 1) a = room E c (cnt E a) (lo E a + 1) by simp only [room, if_neg h, if_neg h2]]
  exact room_fuel _ _ _ (by omega) (by omega)
theorem roomA_ok {E : List Int} {c : Int} {b : Int} (hE : ∀ e, e ∈ E → e = 1099511627776 ∨ e ≤ b) : ∀ (n : Nat) (a : Int), cnt E a = n → a ≤ 1099511627776 → ∀ t, roomA E c a = some t → a ≤ t ∧ (cnt E t : Int) < c ∧ t ≤ max a (b + 1) := by
  intro n
  induction n using Nat.strongRecOn with
  | ind n ih =>
    intro a hn ha t ht
    by_cases c1 : (cnt E a : Int) < c
    · rw [roomA_hit c1] at ht
      obtain rfl : a = t := by simpa using ht
      exact ⟨Int.le_refl _, c1, by omega⟩
    · by_cases c2 : lo E a = 1099511627776
      · rw [roomA_none c1 c2] at ht; cases ht
      · rw [roomA_step c1 c2] at ht
        obtain ⟨q1, q2, q3⟩ := loU_spec a E 1099511627776
        have g := lo_ge (E := E) ha
        have hm : lo E a ∈ E := by
          rcases q2 with q2 | q2
          · exact absurd q2 c2
          · exact q2.1
        have hb : lo E a ≤ b := by
          rcases hE _ hm with q | q
          · exact absurd q c2
          · exact q
        have hl : lo E a + 1 ≤ 1099511627776 := by simp only [lo] at c2 ⊢; omega
        obtain ⟨r1, r2, r3⟩ := ih (cnt E (lo E a + 1)) (by rw [← hn]; exact cnt_lo c2) (lo E a + 1) rfl hl t ht
        exact ⟨by omega, r2, by omega⟩
theorem roomA_le {E : List Int} {c : Int} (hE : ∀ e, e ∈ E → e ≤ 1099511627776) {x : Int} (hx : x ≤ 1099511627776) (hc : (cnt E x : Int) < c) : ∀ (n : Nat) (a : Int), cnt E a = n → a ≤ x → ∃ t, roomA E c a = some t ∧ t ≤ x := by
  intro n
  induction n using Nat.strongRecOn with
  | ind n ih =>
    intro a hn ha
    by_cases c1 : (cnt E a : Int) < c
    · exact ⟨a, roomA_hit c1, ha⟩
    · have hlx : lo E a < x := by
        by_cases e : lo E a < x
        · exact e
        · have := cnt_jump (E := E) ha (by omega)
          omega
      have c2 : ¬ lo E a = 1099511627776 := by omega
      rw [roomA_step c1 c2]
      exact ih _ (by rw [← hn]; exact cnt_lo c2) _ rfl (by omega)
end Go.Proofs.Ythhkbfjolmgloaa
