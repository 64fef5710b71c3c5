/- The order of a plan, in plain data: picking the next leg again and again answers what sorting answers. Plain data alone. -/
import Derived.Test.YthhkbfjolmgloaaBest
namespace Go.Proofs.Ythhkbfjolmgloaa
open Go.RowKit
set_option linter.unusedVariables false
set_option linter.unusedSimpArgs false
/-! ### The legs that are left -/
def rowL (p : List (List Int)) (i k c : Nat) : List (Int × Int) := (List.range' k c).map fun k => (st p i k, (i : Int))
def restN (f : Nat → List (Int × Int)) : Nat → Nat → List (Int × Int)
  | _, 0 => []
  | i, c + 1 => f i ++ restN f (i + 1) c
def restL (l : Line) (p : List (List Int)) (nx : List Nat) : List (Int × Int) := restN (fun i => rowL p i (nx.getD i 0) ((l.tr i).legs.length - nx.getD i 0)) 0 l.trains.length
theorem restN_congr {f g : Nat → List (Int × Int)} {i c : Nat} (h : ∀ j, i ≤ j → j < i + c → f j = g j) : restN f i c = restN g i c := by
  induction c generalizing i with
  | zero => rfl
  | succ c ih => simp only [restN]; rw [h i (Nat.le_refl _) (by omega), ih fun j h1 h2 => h j (by omega) (by omega)]
theorem restN_pick {f g : Nat → List (Int × Int)} {i c b : Nat} {x : Int × Int} (hi : i ≤ b) (hb : b < i + c) (hx : f b = x :: g b) (h : ∀ j, i ≤ j → j < i + c → j ≠ b → f j = g j) : (restN f i c).Perm (x :: restN g i c) := by
  induction c generalizing i with
  | zero => omega
  | succ c ih =>
    simp only [restN]
    by_cases e : i = b
    · subst e
      rw [hx, restN_congr (f := f) (g := g) fun j h1 h2 => h j (by omega) (by omega) (by omega)]
      exact List.Perm.refl _
    · rw [h i (Nat.le_refl _) (by omega) e]
      exact (List.Perm.append_left _ (ih (by omega) (by omega) fun j h1 h2 h3 => h j (by omega) (by omega) h3)).trans List.perm_middle
theorem mem_restN {f : Nat → List (Int × Int)} {i c : Nat} {x : Int × Int} : x ∈ restN f i c ↔ ∃ j, i ≤ j ∧ j < i + c ∧ x ∈ f j := by
  induction c generalizing i with
  | zero => simp only [restN, List.not_mem_nil, false_iff]; rintro ⟨j, h1, h2, _⟩; omega
  | succ c ih =>
    simp only [restN, List.mem_append, ih]
    constructor
    · rintro (h | ⟨j, h1, h2, h3⟩)
      · exact ⟨i, Nat.le_refl _, by omega, h⟩
      · exact ⟨j, by omega, by omega, h3⟩
    · rintro ⟨j, h1, h2, h3⟩
      by_cases e : i = j
      · subst e; exact Or.inl h3
      · exact Or.inr ⟨j, by omega, by omega, h3⟩
theorem mem_restL {l : Line} {p : List (List Int)} {nx : List Nat} {x : Int × Int} (h : x ∈ restL l p nx) : ∃ i k, i < l.trains.length ∧ nx.getD i 0 ≤ k ∧ k < (l.tr i).legs.length ∧ x = (st p i k, (i : Int)) := by
  obtain ⟨i, _, hi, hx⟩ := mem_restN.1 h
  simp only [rowL, List.mem_map, List.mem_range'_1] at hx
  obtain ⟨k, ⟨h1, h2⟩, rfl⟩ := hx
  exact ⟨i, k, by omega, h1, by omega, rfl⟩
/-! ### Picking -/
def bestF (l : Line) (p : List (List Int)) (nx : List Nat) : Int := foldF (fun i b => if nx.getD i 0 < (l.tr i).legs.length ∧ (b < 0 ∨ st p i (nx.getD i 0) < st p b.toNat (nx.getD b.toNat 0)) then (i : Int) else b) 0 l.trains.length (-1)
theorem bestF_spec {l : Line} {p : List (List Int)} {nx : List Nat} (h : ∃ i, i < l.trains.length ∧ nx.getD i 0 < (l.tr i).legs.length) : ∃ b : Nat, bestF l p nx = b ∧ b < l.trains.length ∧ nx.getD b 0 < (l.tr b).legs.length ∧ ∀ j, j < l.trains.length → nx.getD j 0 < (l.tr j).legs.length → st p b (nx.getD b 0) < st p j (nx.getD j 0) ∨ (st p b (nx.getD b 0) = st p j (nx.getD j 0) ∧ b ≤ j) := by
  have key := foldF_inv' (α := Int) (P := fun (i : Nat) (b : Int) => (b = -1 ∧ ∀ j, j < i → ¬ nx.getD j 0 < (l.tr j).legs.length) ∨ ∃ c : Nat, b = c ∧ c < i ∧ nx.getD c 0 < (l.tr c).legs.length ∧ ∀ j, j < i → nx.getD j 0 < (l.tr j).legs.length → st p c (nx.getD c 0) < st p j (nx.getD j 0) ∨ (st p c (nx.getD c 0) = st p j (nx.getD j 0) ∧ c ≤ j))
    (f := fun (i : Nat) (b : Int) => if nx.getD i 0 < (l.tr i).legs.length ∧ (b < 0 ∨ st p i (nx.getD i 0) < st p b.toNat (nx.getD b.toNat 0)) then (i : Int) else b) (i := 0) (n := l.trains.length) (a := -1) (Nat.zero_le _) (fun i b _ hi hb => ?_) (Or.inl ⟨rfl, fun j hj => by omega⟩)
  · unfold bestF
    rcases key with ⟨h1, h2⟩ | ⟨c, h1, h2, h3, h4⟩
    · obtain ⟨i, hi, hk⟩ := h
      exact absurd hk (h2 i hi)
    · exact ⟨c, h1, h2, h3, h4⟩
  · by_cases c0 : nx.getD i 0 < (l.tr i).legs.length ∧ (b < 0 ∨ st p i (nx.getD i 0) < st p b.toNat (nx.getD b.toNat 0))
    · rw [if_pos c0]
      refine Or.inr ⟨i, rfl, by omega, c0.1, fun j hj hjk => ?_⟩
      by_cases e : j = i
      · subst e; exact Or.inr ⟨rfl, Nat.le_refl _⟩
      · rcases hb with ⟨h1, h2⟩ | ⟨c, h1, h2, h3, h4⟩
        · exact absurd hjk (h2 j (by omega))
        · subst h1
          rcases c0.2 with q | q
          · omega
          · simp only [Int.toNat_natCast] at q
            have := h4 j (by omega) hjk
            omega
    · rw [if_neg c0]
      rcases hb with ⟨h1, h2⟩ | ⟨c, h1, h2, h3, h4⟩
      · refine Or.inl ⟨h1, fun j hj hjk => ?_⟩
        by_cases e : j = i
        · subst e; exact c0 ⟨hjk, Or.inl (by omega)⟩
        · exact h2 j (by omega) hjk
      · refine Or.inr ⟨c, h1, by omega, h3, fun j hj hjk => ?_⟩
        by_cases e : j = i
        · subst e
          subst h1
          by_cases q : st p j (nx.getD j 0) < st p c (nx.getD c 0)
          · exact absurd ⟨hjk, Or.inr (by simpa using q)⟩ c0
          · by_cases q2 : st p c (nx.getD c 0) = st p j (nx.getD j 0)
            · exact Or.inr ⟨q2, by omega⟩
            · exact Or.inl (by omega)
        · exact h4 j (by omega) hjk
def bump (nx : List Nat) (b : Nat) : List Nat := nx.set b (nx.getD b 0 + 1)
def orderS (l : Line) (p : List (List Int)) : Nat → List Nat → List Int → List Int
  | 0, _, acc => acc
  | f + 1, nx, acc => orderS l p f (bump nx (bestF l p nx).toNat) (acc ++ [bestF l p nx])
def leP (x y : Int × Int) : Prop := x.1 < y.1 ∨ (x.1 = y.1 ∧ x.2 ≤ y.2)
theorem bump_get {nx : List Nat} {b : Nat} (hb : b < nx.length) (j : Nat) : (bump nx b).getD j 0 = if j = b then nx.getD b 0 + 1 else nx.getD j 0 := by
  unfold bump
  by_cases e : j = b
  · subst e; simp [List.getD_eq_getElem?_getD, hb]
  · simp [List.getD_eq_getElem?_getD, List.getElem?_set, Ne.symm e, e]
/-- Picking gives the trains of the legs that are left, in their order. -/
theorem orderS_sorted {l : Line} {p : List (List Int)} (C : Can l p) : ∀ (f : Nat) (nx : List Nat) (acc : List Int) (S : List (Int × Int)), nx.length = l.trains.length → (∀ i, i < l.trains.length → nx.getD i 0 ≤ (l.tr i).legs.length) → S.Perm (restL l p nx) → S.Pairwise leP → S.length = f → orderS l p f nx acc = acc ++ S.map (·.2) := by
  intro f
  induction f with
  | zero =>
    intro nx acc S _ _ _ _ hf
    obtain rfl := List.eq_nil_of_length_eq_zero hf
    simp [orderS]
  | succ f ih =>
    intro nx acc S hn hle hp hs hf
    cases S with
    | nil => simp at hf
    | cons x S =>
      have hx := hp.subset List.mem_cons_self
      obtain ⟨i, k, hi, hk1, hk2, rfl⟩ := mem_restL hx
      obtain ⟨b, hb, hbn, hbk, hmin⟩ := bestF_spec (p := p) (nx := nx) ⟨i, hi, by omega⟩
      have hpk : (restL l p nx).Perm ((st p b (nx.getD b 0), (b : Int)) :: restL l p (bump nx b)) := by
        refine restN_pick (b := b) (Nat.zero_le _) (by omega) ?_ (fun j _ hj hjb => ?_)
        · rw [bump_get (by omega), if_pos rfl]
          obtain ⟨c, hc⟩ : ∃ c, (l.tr b).legs.length - nx.getD b 0 = c + 1 := ⟨(l.tr b).legs.length - nx.getD b 0 - 1, by omega⟩
          rw [hc, show (l.tr b).legs.length - (nx.getD b 0 + 1) = c by omega]
          simp only [rowL, List.range'_succ, List.map_cons]
        · rw [bump_get (by omega), if_neg hjb]
      -- the head is the least
      have hmem : (st p b (nx.getD b 0), (b : Int)) ∈ ((st p i k, (i : Int)) :: S) := hp.symm.subset (hpk.symm.subset List.mem_cons_self)
      have hrow : st p i (nx.getD i 0) ≤ st p i k ∧ (st p i (nx.getD i 0) = st p i k → nx.getD i 0 = k) := by
        have mono : ∀ d, nx.getD i 0 + d < (l.tr i).legs.length → st p i (nx.getD i 0) + d ≤ st p i (nx.getD i 0 + d) := by
          intro d
          induction d with
          | zero => intro _; simp
          | succ d ihd =>
            intro hd
            have h1 := ihd (by omega)
            have h2 := C.row_lt (i := i) (k := nx.getD i 0 + d) hi (by omega)
            rw [show nx.getD i 0 + (d + 1) = nx.getD i 0 + d + 1 by omega]
            omega
        have := mono (k - nx.getD i 0) (by omega)
        rw [show nx.getD i 0 + (k - nx.getD i 0) = k by omega] at this
        omega
      have heq : (st p i k, (i : Int)) = (st p b (nx.getD b 0), (b : Int)) := by
        rcases List.mem_cons.1 hmem with h | h
        · exact h.symm
        · have h1 := (List.pairwise_cons.1 hs).1 _ h
          have h2 := hmin i hi (by omega)
          unfold leP at h1
          simp only at h1
          have e1 : st p i k = st p b (nx.getD b 0) := by omega
          have e2 : i = b := by omega
          rw [e1, e2]
      rw [heq] at hp hs ⊢
      have hS : S.Perm (restL l p (bump nx b)) := (List.perm_cons _).1 (hp.trans hpk)
      simp only [orderS, hb, Int.toNat_natCast, List.map_cons]
      rw [ih (bump nx b) (acc ++ [(b : Int)]) S (by simp [bump, hn]) (fun j hj => by rw [bump_get (by omega)]; by_cases e : j = b; (subst e; rw [if_pos rfl]; omega); (rw [if_neg e]; exact hle j hj)) hS (List.pairwise_cons.1 hs).2 (by simpa using hf)]
      simp
end Go.Proofs.Ythhkbfjolmgloaa
