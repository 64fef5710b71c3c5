/- Looking through all orders, in plain data: what is found is the best plan of all that can be. Plain data alone. -/
import Derived.Test.YthhkbfjolmgloaaOwn
namespace Go.Proofs.Ythhkbfjolmgloaa
open Go.RowKit
set_option linter.unusedVariables false
set_option linter.unusedSimpArgs false
/-! ### One plan beside another, where they first part -/
def lexO (c : Nat → Ordering) (i n : Nat) : Ordering := (findF (fun i => if c i = .eq then none else some (c i)) i n).getD .eq
theorem lexO_at (c : Nat → Ordering) {i n : Nat} (h : i < n) : lexO c i n = if c i = .eq then lexO c (i + 1) n else c i := by
  unfold lexO
  rw [findF_at _ h]
  by_cases e : c i = .eq
  · rw [if_pos e, if_pos e]; rfl
  · rw [if_neg e, if_neg e]; rfl
theorem lexO_end (c : Nat → Ordering) {i n : Nat} (h : n ≤ i) : lexO c i n = .eq := by
  unfold lexO
  rw [findF_end _ h]; rfl
theorem lexO_eq {c : Nat → Ordering} {i n : Nat} : lexO c i n = .eq ↔ ∀ j, i ≤ j → j < n → c j = .eq := by
  generalize hd : n - i = d
  induction d generalizing i with
  | zero => rw [lexO_end _ (by omega)]; simp only [true_iff]; intro j h1 h2; omega
  | succ d ih =>
    rw [lexO_at _ (by omega)]
    by_cases e : c i = .eq
    · rw [if_pos e, ih (by omega)]
      constructor
      · intro h j h1 h2
        by_cases e2 : i = j
        · subst e2; exact e
        · exact h j (by omega) h2
      · intro h j h1 h2; exact h j (by omega) h2
    · rw [if_neg e]
      constructor
      · intro h; exact absurd h e
      · intro h; exact h i (Nat.le_refl _) (by omega)
def TransO (a b c : Ordering) : Prop := a ≠ .gt → b ≠ .gt → c ≠ .gt ∧ (c = .eq ↔ a = .eq ∧ b = .eq)
theorem lexO_trans {a b c : Nat → Ordering} {i n : Nat} (h : ∀ j, i ≤ j → j < n → TransO (a j) (b j) (c j)) : TransO (lexO a i n) (lexO b i n) (lexO c i n) := by
  generalize hd : n - i = d
  induction d generalizing i with
  | zero => rw [lexO_end _ (by omega), lexO_end _ (by omega), lexO_end _ (by omega)]; intro _ _; simp
  | succ d ih =>
    have h0 := h i (Nat.le_refl _) (by omega)
    have h1 := ih (i := i + 1) (fun j h1 h2 => h j (by omega) h2) (by omega)
    rw [lexO_at a (by omega), lexO_at b (by omega), lexO_at c (by omega)]
    revert h0 h1
    generalize lexO a (i + 1) n = a2
    generalize lexO b (i + 1) n = b2
    generalize lexO c (i + 1) n = c2
    generalize a i = a1
    generalize b i = b1
    generalize c i = c1
    unfold TransO
    cases a1 <;> cases b1 <;> cases c1 <;> simp
theorem lexO_swap {a b : Nat → Ordering} {i n : Nat} (h : ∀ j, i ≤ j → j < n → b j = (a j).swap) : lexO b i n = (lexO a i n).swap := by
  generalize hd : n - i = d
  induction d generalizing i with
  | zero => rw [lexO_end _ (by omega), lexO_end _ (by omega)]; rfl
  | succ d ih =>
    have h0 := h i (Nat.le_refl _) (by omega)
    have h1 := ih (i := i + 1) (fun j h1 h2 => h j (by omega) h2) (by omega)
    rw [lexO_at a (by omega), lexO_at b (by omega), h0, h1]
    cases a i <;> rfl
def cmpI (a b : Int) : Ordering := if a < b then .lt else if a = b then .eq else .gt
theorem cmpI_eq {a b : Int} : cmpI a b = .eq ↔ a = b := by
  unfold cmpI
  by_cases h : a < b
  · rw [if_pos h]; simp; omega
  · rw [if_neg h]
    by_cases e : a = b
    · simp [e]
    · simp [e]
theorem cmpI_trans (a b c : Int) : TransO (cmpI a b) (cmpI b c) (cmpI a c) := by
  unfold TransO cmpI
  by_cases h1 : a < b
  · by_cases h2 : b < c
    · rw [if_pos h1, if_pos h2, if_pos (by omega)]; simp
    · by_cases h3 : b = c
      · subst h3; rw [if_pos h1, if_neg (by omega)]; simp
      · rw [if_neg h2, if_neg h3]; simp
  · by_cases h4 : a = b
    · subst h4
      rw [if_neg (by omega), if_pos rfl]
      by_cases h2 : a < c
      · rw [if_pos h2]; simp
      · by_cases h3 : a = c
        · simp [h3]
        · rw [if_neg h2, if_neg h3]; simp
    · rw [if_neg h1, if_neg h4]; simp
theorem cmpI_swap (a b : Int) : cmpI b a = (cmpI a b).swap := by
  unfold cmpI
  by_cases h1 : a < b
  · rw [if_pos h1, if_neg (by omega), if_neg (by omega)]; rfl
  · by_cases h2 : a = b
    · subst h2; simp
    · rw [if_neg h1, if_neg h2, if_pos (by omega)]; rfl
def cmpR (l : Line) (p q : List (List Int)) (i : Nat) : Ordering := lexO (fun k => cmpI (st p i k) (st q i k)) 0 (l.tr i).legs.length
def cmpP (l : Line) (p q : List (List Int)) : Ordering := lexO (cmpR l p q) 0 l.trains.length
theorem cmpP_trans (l : Line) (p q r : List (List Int)) : TransO (cmpP l p q) (cmpP l q r) (cmpP l p r) := lexO_trans fun _ _ _ => lexO_trans fun _ _ _ => cmpI_trans _ _ _
theorem cmpP_swap (l : Line) (p q : List (List Int)) : cmpP l q p = (cmpP l p q).swap := lexO_swap fun _ _ _ => lexO_swap fun _ _ _ => cmpI_swap _ _
theorem cmpP_eq {l : Line} {p q : List (List Int)} : cmpP l p q = .eq ↔ ∀ i k, i < l.trains.length → k < (l.tr i).legs.length → st p i k = st q i k := by
  unfold cmpP
  rw [lexO_eq]
  constructor
  · intro h i k hi hk
    exact cmpI_eq.1 (lexO_eq.1 (h i (Nat.zero_le _) hi) k (Nat.zero_le _) hk)
  · intro h i _ hi
    exact lexO_eq.2 fun k _ hk => cmpI_eq.2 (h i k hi hk)
/-- Nowhere later is not behind. -/
theorem lexO_le {c : Nat → Ordering} {i n : Nat} (h : ∀ j, i ≤ j → j < n → c j ≠ .gt) : lexO c i n ≠ .gt := by
  generalize hd : n - i = d
  induction d generalizing i with
  | zero => rw [lexO_end _ (by omega)]; simp
  | succ d ih =>
    rw [lexO_at _ (by omega)]
    by_cases e : c i = .eq
    · rw [if_pos e]; exact ih (fun j h1 h2 => h j (by omega) h2) (by omega)
    · rw [if_neg e]; exact h i (Nat.le_refl _) (by omega)
theorem cmpP_le {l : Line} {p q : List (List Int)} (h : ∀ i k, i < l.trains.length → k < (l.tr i).legs.length → st p i k ≤ st q i k) : cmpP l p q ≠ .gt := by
  refine lexO_le fun i _ hi => lexO_le fun k _ hk => ?_
  have := h i k hi hk
  unfold cmpI
  by_cases e : st p i k < st q i k
  · rw [if_pos e]; simp
  · rw [if_neg e, if_pos (by omega)]; simp
theorem plan_ext {l : Line} {p q : List (List Int)} (Fp : Fits l p) (Fq : Fits l q) (h : ∀ i k, i < l.trains.length → k < (l.tr i).legs.length → st p i k = st q i k) : p = q := by
  refine List.ext_getElem? fun i => ?_
  by_cases hi : i < l.trains.length
  · rw [row_at (p := p) (by rw [Fp.rows]; exact hi), row_at (p := q) (by rw [Fq.rows]; exact hi)]
    congr 1
    refine List.ext_getElem? fun k => ?_
    by_cases hk : k < (l.tr i).legs.length
    · rw [st_at Fp hi hk, st_at Fq hi hk, h i k hi hk]
    · rw [List.getElem?_eq_none (by rw [Fp.row hi]; omega), List.getElem?_eq_none (by rw [Fq.row hi]; omega)]
  · rw [List.getElem?_eq_none (by rw [Fp.rows]; omega), List.getElem?_eq_none (by rw [Fq.rows]; omega)]

/-! ### Looking through all orders -/
abbrev Acc := Option (Int × List (List Int))
def floorT (l : Line) (p : List (List Int)) (b : Int) (i : Nat) : Int :=
  foldF (fun m a => max (a + (l.leg i m).stay) b + (l.leg i m).run) (p.getD i []).length (l.tr i).legs.length (if (p.getD i []).length = 0 then (l.tr i).ready else st p i ((p.getD i []).length - 1) + (l.leg i ((p.getD i []).length - 1)).run)
def floorS (l : Line) (p : List (List Int)) (b : Int) : Int := sumF (fun i => lateT (l.tr i) (floorT l p b i)) 0 l.trains.length
def costF (l : Line) (p : List (List Int)) : Int := sumF (fun i => lateT (l.tr i) (arrT l p i)) 0 l.trains.length
def kid (l : Line) (p : List (List Int)) (last : Int) (i : Nat) : Option (List (List Int) × Int) := if (p.getD i []).length < (l.tr i).legs.length then (stepT l p last i).map (fun t => (put p i t, t)) else none
def updS (l : Line) (p : List (List Int)) (c : Int) : Acc → Acc
  | none => some (c, p)
  | some (c', b) => if c < c' ∨ cmpP l p b = .lt then some (c, p) else some (c', b)
def over (f : Int) : Acc → Bool
  | none => false
  | some (c, _) => decide (c < f)
def lookS (l : Line) (fl : Int → Int) : Nat → List (List Int) → Int → Acc → Acc
  | 0, p, last, acc => if over (floorS l p (fl last)) acc then acc else updS l p (floorS l p (fl last)) acc
  | n + 1, p, last, acc => if over (floorS l p (fl last)) acc then acc else foldF (fun i acc => match kid l p last i with | none => acc | some s => lookS l fl n s.1 s.2 acc) 0 l.trains.length acc
/-- A whole plan that comes from a part of one. -/
def Reach (l : Line) : Nat → List (List Int) → Int → List (List Int) → Prop
  | 0, p, _, q => q = p
  | n + 1, p, last, q => ∃ i s, i < l.trains.length ∧ kid l p last i = some s ∧ Reach l n s.1 s.2 q
/-! ### What is known of what is reached -/
def remain (l : Line) (p : List (List Int)) : Int := sumF (fun i => ((l.tr i).legs.length : Int) - ((p.getD i []).length : Int)) 0 l.trains.length
theorem sumF_ge_one {f : Nat → Int} {i n k : Nat} (hi : i ≤ k) (hk : k < n) (h : ∀ j, i ≤ j → j < n → 0 ≤ f j) : f k ≤ sumF f i n := by
  have h1 := sumF_one (f := fun j => if j = k then f k else 0) hi hk (fun j _ _ e => if_neg e)
  have h2 := sumF_le (f := fun j => if j = k then f k else 0) (g := f) (i := i) (n := n) (fun j h1 h2 => by
    by_cases e : j = k
    · subst e; simp
    · simp only [if_neg e]; exact h j h1 h2)
  rw [h1] at h2
  simpa using h2
theorem remain_zero {l : Line} {p : List (List Int)} {last : Int} (G : Good l p last) (h : remain l p = 0) : ∀ i, i < l.trains.length → (p.getD i []).length = (l.tr i).legs.length := by
  intro i hi
  have := sumF_ge_one (f := fun i => ((l.tr i).legs.length : Int) - ((p.getD i []).length : Int)) (Nat.zero_le i) hi (fun j _ hj => by have := G.len j hj; omega)
  unfold remain at h
  have := G.len i hi
  omega
theorem remain_pos {l : Line} {p : List (List Int)} {last : Int} (G : Good l p last) (h : 0 < remain l p) : ∃ i, i < l.trains.length ∧ (p.getD i []).length < (l.tr i).legs.length := by
  by_cases e : ∃ i, i < l.trains.length ∧ (p.getD i []).length < (l.tr i).legs.length
  · exact e
  · exfalso
    have : remain l p = 0 := sumF_zero fun i _ hi => by
      have := G.len i hi
      by_cases c : (p.getD i []).length < (l.tr i).legs.length
      · exact absurd ⟨i, hi, c⟩ e
      · omega
    omega
theorem remain_put {l : Line} {p : List (List Int)} {i : Nat} {t : Int} (hip : i < p.length) (hi : i < l.trains.length) : remain l (put p i t) = remain l p - 1 := by
  unfold remain
  rw [sumF_change (f := fun j => ((l.tr j).legs.length : Int) - (((put p i t).getD j []).length : Int)) (g := fun i => ((l.tr i).legs.length : Int) - ((p.getD i []).length : Int)) (k := i) (d := -1) (Nat.zero_le _) hi (fun j _ _ e => by rw [put_len hip, if_neg e]) (by rw [put_len hip, if_pos rfl]; omega)]
  omega
theorem kid_some {l : Line} {p : List (List Int)} {last : Int} {i : Nat} {s : List (List Int) × Int} (h : kid l p last i = some s) : (p.getD i []).length < (l.tr i).legs.length ∧ ∃ t, stepT l p last i = some t ∧ s = (put p i t, t) := by
  unfold kid at h
  by_cases c : (p.getD i []).length < (l.tr i).legs.length
  · rw [if_pos c] at h
    cases ht : stepT l p last i with
    | none => rw [ht] at h; cases h
    | some t => rw [ht] at h; exact ⟨c, t, rfl, by simpa using h.symm⟩
  · rw [if_neg c] at h; cases h
theorem reach_ok {l : Line} (O : Ok l) : ∀ (n : Nat) (p : List (List Int)) (last : Int), Good l p last → (n : Int) = remain l p → n ≤ 10 → last + 20000 * n ≤ 400000 → ∀ q, Reach l n p last q →
    (∃ last', Good l q last' ∧ last' ≤ 400000) ∧ (∀ i, i < l.trains.length → (q.getD i []).length = (l.tr i).legs.length) ∧ (∀ i k, i < l.trains.length → k < (p.getD i []).length → st q i k = st p i k) ∧ (∀ i k, i < l.trains.length → (p.getD i []).length ≤ k → k < (l.tr i).legs.length → last ≤ st q i k) := by
  intro n
  induction n with
  | zero =>
    intro p last G hn _ hl q hq
    obtain rfl : q = p := hq
    have hf := remain_zero G hn.symm
    exact ⟨⟨last, G, by omega⟩, hf, fun _ _ _ _ => rfl, fun i k hi h1 h2 => by rw [hf i hi] at h1; omega⟩
  | succ n ih =>
    intro p last G hn h10 hl q hq
    obtain ⟨i, s, hi, hs, hr⟩ := hq
    obtain ⟨hk, t, ht, rfl⟩ := kid_some hs
    have hip : i < p.length := by rw [G.rows]; exact hi
    have hb := stepT_ok O G hi hk (by omega) ht
    obtain ⟨q1, q2, q3, q4⟩ := ih (put p i t) t (G.step O hi hk (by omega) ht) (by rw [remain_put hip hi, ← hn]; omega) (by omega) (by omega) q hr
    refine ⟨q1, q2, fun j k hj hk2 => ?_, fun j k hj h1 h2 => ?_⟩
    · rw [q3 j k hj (by rw [put_len hip]; by_cases e : j = i; (subst e; rw [if_pos rfl]; omega); (rw [if_neg e]; exact hk2)), put_st hip, if_neg]
      rintro ⟨rfl, rfl⟩
      omega
    · by_cases e : j = i ∧ k = (p.getD i []).length
      · rw [q3 j k hj (by rw [put_len hip, if_pos e.1]; omega), put_st hip, if_pos e]
        exact hb.1
      · have := q4 j k hj (by
          rw [put_len hip]
          by_cases e2 : j = i
          · subst e2; rw [if_pos rfl]; omega
          · rw [if_neg e2]; exact h1) h2
        omega
theorem foldF_inv' {α : Type} {P : Nat → α → Prop} {f : Nat → α → α} {i n : Nat} {a : α} (hin : i ≤ n) (h : ∀ j a, i ≤ j → j < n → P j a → P (j + 1) (f j a)) (h0 : P i a) : P n (foldF f i n a) := by
  generalize hd : n - i = d
  induction d generalizing i a with
  | zero => rw [foldF_end _ (by omega)]; rwa [show n = i by omega]
  | succ d ih =>
    rw [foldF_at _ (by omega)]
    exact ih (by omega) (fun j a h1 h2 => h j a (by omega) h2) (h i a (Nat.le_refl _) (by omega) h0) (by omega)
theorem lateT_mono {n : Int} {t : Train} (h : TrOk n t) {a b : Int} (hab : a ≤ b) : lateT t a ≤ lateT t b := by
  unfold lateT
  have := h.weight0
  exact Int.mul_le_mul_of_nonneg_left (by omega) (by omega)
theorem floor_le {l : Line} {p q : List (List Int)} {last b : Int} (O : Ok l) (hb : b ≤ last) (hG : ∃ last', Good l q last' ∧ last' ≤ 400000) (hp : ∀ i, i < l.trains.length → (p.getD i []).length ≤ (l.tr i).legs.length) (h2 : ∀ i, i < l.trains.length → (q.getD i []).length = (l.tr i).legs.length) (h3 : ∀ i k, i < l.trains.length → k < (p.getD i []).length → st q i k = st p i k) (h4 : ∀ i k, i < l.trains.length → (p.getD i []).length ≤ k → k < (l.tr i).legs.length → last ≤ st q i k) : floorS l p b ≤ costF l q := by
  obtain ⟨last', G, _⟩ := hG
  refine sumF_le fun i _ hi => lateT_mono (O.train i _ (Line.tr_at hi)) ?_
  have hn := O.bd.nl1 i hi
  have key := foldF_inv' (P := fun m a => a ≤ if m = 0 then (l.tr i).ready else st q i (m - 1) + (l.leg i (m - 1)).run) (f := fun m a => max (a + (l.leg i m).stay) b + (l.leg i m).run) (i := (p.getD i []).length) (n := (l.tr i).legs.length) (a := if (p.getD i []).length = 0 then (l.tr i).ready else st p i ((p.getD i []).length - 1) + (l.leg i ((p.getD i []).length - 1)).run) (hp i hi) (fun m a hm1 hm2 ha => ?_) ?_
  · unfold floorT
    rw [if_neg (by omega : ¬ (l.tr i).legs.length = 0)] at key
    unfold arrT
    rw [h2 i hi]
    exact key
  · have r := G.ready i m hi (by rw [h2 i hi]; exact hm2)
    have q4 := h4 i m hi hm1 hm2
    rw [if_neg (by omega), Nat.add_sub_cancel]
    unfold readyT at r
    by_cases e : m = 0
    · subst e
      simp only [if_true] at r ha
      omega
    · rw [if_neg e] at r ha
      omega
  · by_cases e : (p.getD i []).length = 0
    · rw [if_pos e, if_pos e]; exact Int.le_refl _
    · rw [if_neg e, if_neg e, h3 i _ hi (by omega)]; exact Int.le_refl _
theorem floor_full {l : Line} {p : List (List Int)} {b : Int} (O : Ok l) (hf : ∀ i, i < l.trains.length → (p.getD i []).length = (l.tr i).legs.length) : floorS l p b = costF l p := by
  refine sumF_congr fun i _ hi => ?_
  have hn := O.bd.nl1 i hi
  unfold floorT arrT
  rw [foldF_end _ (by rw [hf i hi]; exact Nat.le_refl _), if_neg (by rw [hf i hi]; omega)]
/-- What was found is not worse than a plan. -/
def leA (l : Line) (acc : Acc) (q : List (List Int)) : Prop :=
  match acc with
  | none => False
  | some (c, b) => c < costF l q ∨ (c = costF l q ∧ cmpP l b q ≠ .gt)
theorem look_ok {l : Line} (O : Ok l) {fl : Int → Int} (hfl : ∀ x, 0 ≤ x → fl x ≤ x) : ∀ (n : Nat) (p : List (List Int)) (last : Int), Good l p last → (n : Int) = remain l p → n ≤ 10 → last + 20000 * n ≤ 400000 → ∀ acc : Acc,
    (lookS l fl n p last acc = acc ∨ ∃ q, Reach l n p last q ∧ lookS l fl n p last acc = some (costF l q, q)) ∧ (∀ q, Reach l n p last q → leA l (lookS l fl n p last acc) q) ∧ (∀ q, leA l acc q → leA l (lookS l fl n p last acc) q) := by
  intro n
  induction n with
  | zero =>
    intro p last G hn h10 hl acc
    have hf := remain_zero G hn.symm
    simp only [lookS, floor_full O hf]
    cases acc with
    | none =>
      simp only [over, updS, if_false, Bool.false_eq_true]
      refine ⟨Or.inr ⟨p, rfl, rfl⟩, fun q hq => ?_, fun q hq => hq.elim⟩
      obtain rfl : q = p := hq
      exact Or.inr ⟨rfl, by rw [cmpP_eq.2 fun _ _ _ _ => rfl]; simp⟩
    | some cb =>
      obtain ⟨c, b⟩ := cb
      simp only [over, decide_eq_true_eq]
      by_cases c1 : c < costF l p
      · rw [if_pos c1]
        refine ⟨Or.inl rfl, fun q hq => ?_, fun q hq => hq⟩
        obtain rfl : q = p := hq
        exact Or.inl c1
      · rw [if_neg c1]
        simp only [updS]
        by_cases c2 : costF l p < c ∨ cmpP l p b = .lt
        · rw [if_pos c2]
          refine ⟨Or.inr ⟨p, rfl, rfl⟩, fun q hq => ?_, fun q hq => ?_⟩
          · obtain rfl : q = p := hq
            exact Or.inr ⟨rfl, by rw [cmpP_eq.2 fun _ _ _ _ => rfl]; simp⟩
          · simp only [leA] at hq ⊢
            by_cases c3 : costF l p < c
            · exact Or.inl (by omega)
            · have c4 : cmpP l p b = .lt := by
                rcases c2 with c2 | c2
                · exact absurd c2 c3
                · exact c2
              rcases hq with hq | ⟨hq, hq2⟩
              · exact Or.inl (by omega)
              · exact Or.inr ⟨by omega, (cmpP_trans l p b q (by rw [c4]; simp) hq2).1⟩
        · rw [if_neg c2]
          refine ⟨Or.inl rfl, fun q hq => ?_, fun q hq => hq⟩
          obtain rfl : q = p := hq
          refine Or.inr ⟨by omega, ?_⟩
          rw [cmpP_swap l q b]
          have : cmpP l q b ≠ .lt := fun h => c2 (Or.inr h)
          revert this
          cases cmpP l q b <;> simp
  | succ n ih =>
    intro p last G hn h10 hl acc
    simp only [lookS]
    by_cases c1 : over (floorS l p (fl last)) acc = true
    · rw [if_pos c1]
      refine ⟨Or.inl rfl, fun q hq => ?_, fun q hq => hq⟩
      obtain ⟨q1, q2, q3, q4⟩ := reach_ok O (n + 1) p last G hn h10 hl q hq
      have hfl2 := floor_le O (hfl last G.last0) q1 G.len q2 q3 q4
      cases acc with
      | none => cases c1
      | some cb =>
        obtain ⟨c, b⟩ := cb
        simp only [over, decide_eq_true_eq] at c1
        exact Or.inl (by omega)
    · rw [if_neg c1]
      -- the kids, one after the other
      have hk : ∀ i, i < l.trains.length → ∀ s, kid l p last i = some s → Good l s.1 s.2 ∧ (n : Int) = remain l s.1 ∧ s.2 + 20000 * n ≤ 400000 := by
        intro i hi s hs
        obtain ⟨hk, t, ht, rfl⟩ := kid_some hs
        have hip : i < p.length := by rw [G.rows]; exact hi
        have hb := stepT_ok O G hi hk (by omega) ht
        exact ⟨G.step O hi hk (by omega) ht, by rw [remain_put hip hi, ← hn]; omega, by simp only []; omega⟩
      have main : ∀ (d i : Nat) (acc0 : Acc), l.trains.length - i = d →
          (foldF (fun i acc => match kid l p last i with | none => acc | some s => lookS l fl n s.1 s.2 acc) i l.trains.length acc0 = acc0 ∨ ∃ q, Reach l (n + 1) p last q ∧ foldF (fun i acc => match kid l p last i with | none => acc | some s => lookS l fl n s.1 s.2 acc) i l.trains.length acc0 = some (costF l q, q)) ∧
          (∀ j s q, i ≤ j → j < l.trains.length → kid l p last j = some s → Reach l n s.1 s.2 q → leA l (foldF (fun i acc => match kid l p last i with | none => acc | some s => lookS l fl n s.1 s.2 acc) i l.trains.length acc0) q) ∧
          (∀ q, leA l acc0 q → leA l (foldF (fun i acc => match kid l p last i with | none => acc | some s => lookS l fl n s.1 s.2 acc) i l.trains.length acc0) q) := by
        intro d
        induction d with
        | zero =>
          intro i acc0 hd
          rw [foldF_end _ (by omega)]
          exact ⟨Or.inl rfl, fun j s q h1 h2 => by omega, fun q hq => hq⟩
        | succ d ihd =>
          intro i acc0 hd
          have hi : i < l.trains.length := by omega
          rw [foldF_at _ hi]
          cases hs : kid l p last i with
          | none =>
            simp only []
            obtain ⟨r1, r2, r3⟩ := ihd (i + 1) acc0 (by omega)
            refine ⟨r1, fun j s q h1 h2 h3 h4 => ?_, r3⟩
            by_cases e : i = j
            · subst e; rw [hs] at h3; cases h3
            · exact r2 j s q (by omega) h2 h3 h4
          | some s0 =>
            simp only []
            obtain ⟨g1, g2, g3⟩ := hk i hi s0 hs
            obtain ⟨a1, a2, a3⟩ := ih s0.1 s0.2 g1 g2 (by omega) g3 acc0
            obtain ⟨r1, r2, r3⟩ := ihd (i + 1) (lookS l fl n s0.1 s0.2 acc0) (by omega)
            refine ⟨?_, fun j s q h1 h2 h3 h4 => ?_, fun q hq => r3 q (a3 q hq)⟩
            · rcases r1 with r1 | r1
              · rw [r1]
                rcases a1 with a1 | ⟨q, b1, b2⟩
                · exact Or.inl a1
                · exact Or.inr ⟨q, ⟨i, s0, hi, hs, b1⟩, b2⟩
              · exact Or.inr r1
            · by_cases e : i = j
              · subst e
                rw [hs] at h3
                obtain rfl : s0 = s := by simpa using h3
                exact r3 q (a2 q h4)
              · exact r2 j s q (by omega) h2 h3 h4
      obtain ⟨r1, r2, r3⟩ := main _ 0 acc rfl
      refine ⟨r1, fun q hq => ?_, r3⟩
      obtain ⟨i, s, hi, hs, hr⟩ := hq
      exact r2 i s q (Nat.zero_le _) hi hs hr
theorem argmin {P : Nat → Prop} {f : Nat → Int} : ∀ (N : Nat), (∃ i, i < N ∧ P i) → ∃ i, i < N ∧ P i ∧ ∀ j, j < N → P j → f i < f j ∨ (f i = f j ∧ i ≤ j) := by
  intro N
  induction N with
  | zero => rintro ⟨i, hi, _⟩; omega
  | succ N ih =>
    rintro ⟨i, hi, hP⟩
    by_cases e : ∃ i, i < N ∧ P i
    · obtain ⟨i0, h1, h2, h3⟩ := ih e
      by_cases c : P N ∧ f N < f i0
      · refine ⟨N, by omega, c.1, fun j hj hPj => ?_⟩
        by_cases e2 : j = N
        · subst e2; exact Or.inr ⟨rfl, Nat.le_refl _⟩
        · have := h3 j (by omega) hPj; omega
      · refine ⟨i0, by omega, h2, fun j hj hPj => ?_⟩
        by_cases e2 : j = N
        · subst e2
          have : ¬ f j < f i0 := fun h => c ⟨hPj, h⟩
          omega
        · exact h3 j (by omega) hPj
    · have hiN : i = N := by
        by_cases c : i = N
        · exact c
        · exact absurd ⟨i, by omega, hP⟩ e
      subst hiN
      refine ⟨i, by omega, hP, fun j hj hPj => ?_⟩
      by_cases c : j = i
      · subst c; exact Or.inr ⟨rfl, Nat.le_refl _⟩
      · exact absurd ⟨j, by omega, hPj⟩ e
theorem own_reach {l : Line} {p : List (List Int)} (C : Can l p) : ∀ (n : Nat) (q : List (List Int)) (last : Int), Along l p q last → (n : Int) = remain l q → ∃ r, Reach l n q last r ∧ ∀ i k, i < l.trains.length → k < (l.tr i).legs.length → st r i k ≤ st p i k := by
  intro n
  induction n with
  | zero =>
    intro q last A hn
    have hf := remain_zero A.good hn.symm
    exact ⟨q, rfl, fun i k hi hk => A.le i k hi (by rw [hf i hi]; exact hk)⟩
  | succ n ih =>
    intro q last A hn
    obtain ⟨i, hi, hk, hmin⟩ := argmin (P := fun i => (q.getD i []).length < (l.tr i).legs.length) (f := fun i => st p i (q.getD i []).length) l.trains.length (remain_pos A.good (by omega))
    have hip : i < q.length := by rw [A.good.rows]; exact hi
    obtain ⟨t, ht, _, A2⟩ := A.step C hi hk hmin
    obtain ⟨r, hr, hle⟩ := ih (put q i t) t A2 (by rw [remain_put hip hi, ← hn]; omega)
    exact ⟨r, ⟨i, _, hi, by unfold kid; rw [if_pos hk, ht]; rfl, hr⟩, hle⟩
theorem costF_le {l : Line} {r p : List (List Int)} (O : Ok l) (hr : ∀ i, i < l.trains.length → (r.getD i []).length = (l.tr i).legs.length) (hp : ∀ i, i < l.trains.length → (p.getD i []).length = (l.tr i).legs.length) (h : ∀ i k, i < l.trains.length → k < (l.tr i).legs.length → st r i k ≤ st p i k) : costF l r ≤ costF l p := by
  refine sumF_le fun i _ hi => lateT_mono (O.train i _ (Line.tr_at hi)) ?_
  have hn := O.bd.nl1 i hi
  unfold arrT
  rw [hr i hi, hp i hi]
  have := h i ((l.tr i).legs.length - 1) hi (by omega)
  omega
def legsAll (l : Line) : Nat := (remain l (List.replicate l.trains.length [])).toNat
def solveA (l : Line) (fl : Int → Int) : Acc := lookS l fl (legsAll l) (List.replicate l.trains.length []) 0 none
theorem remain_start (l : Line) : remain l (List.replicate l.trains.length []) = sumF (fun i => ((l.tr i).legs.length : Int)) 0 l.trains.length := by
  unfold remain
  exact sumF_congr fun i _ _ => by rw [getD_replicate_nil]; simp
theorem solve_some {l : Line} (O : Ok l) (h10 : sumF (fun i => ((l.tr i).legs.length : Int)) 0 l.trains.length ≤ 10) {fl : Int → Int} (hfl : ∀ x, 0 ≤ x → fl x ≤ x) {c : Int} {b : List (List Int)} (h : solveA l fl = some (c, b)) : Can l b ∧ c = costF l b ∧ ∀ p, Can l p → leA l (some (c, b)) p := by
  have h0 : 0 ≤ remain l (List.replicate l.trains.length []) := by
    rw [remain_start]
    exact (sumF_bd (b := 10000) fun i _ hi => by have := O.bd.nl1 i hi; omega).1
  have hn : (legsAll l : Int) = remain l (List.replicate l.trains.length []) := by unfold legsAll; omega
  have hle : legsAll l ≤ 10 := by rw [remain_start] at hn; omega
  obtain ⟨a1, a2, a3⟩ := look_ok O hfl (legsAll l) _ 0 (Good.start l) hn hle (by omega) none
  have ha : lookS l fl (legsAll l) (List.replicate l.trains.length []) 0 none = some (c, b) := h
  rw [ha] at a1 a2 a3
  rcases a1 with a1 | ⟨q, hq, e⟩
  · cases a1
  · simp only [Option.some.injEq, Prod.mk.injEq] at e
    obtain ⟨rfl, rfl⟩ := e
    obtain ⟨⟨last', G, hl⟩, q2, _, _⟩ := reach_ok O (legsAll l) _ 0 (Good.start l) hn hle (by omega) b hq
    refine ⟨G.can' O q2 (by omega), rfl, fun p C => ?_⟩
    obtain ⟨r, hr, hle'⟩ := own_reach C (legsAll l) _ 0 (Along.start C) hn
    obtain ⟨_, r2, _, _⟩ := reach_ok O (legsAll l) _ 0 (Good.start l) hn hle (by omega) r hr
    have h1 := a2 r hr
    have h2 := costF_le O r2 (fun i hi => C.fits.row hi) hle'
    have h3 := cmpP_le hle'
    simp only [leA] at h1 ⊢
    rcases h1 with h1 | ⟨h1, h4⟩
    · exact Or.inl (by omega)
    · by_cases e : costF l b < costF l p
      · exact Or.inl e
      · exact Or.inr ⟨by omega, (cmpP_trans l b r p h4 h3).1⟩
theorem solve_none {l : Line} (O : Ok l) (h10 : sumF (fun i => ((l.tr i).legs.length : Int)) 0 l.trains.length ≤ 10) {fl : Int → Int} (hfl : ∀ x, 0 ≤ x → fl x ≤ x) (h : solveA l fl = none) (p : List (List Int)) : ¬ Can l p := by
  intro C
  have h0 : 0 ≤ remain l (List.replicate l.trains.length []) := by
    rw [remain_start]
    exact (sumF_bd (b := 10000) fun i _ hi => by have := O.bd.nl1 i hi; omega).1
  have hn : (legsAll l : Int) = remain l (List.replicate l.trains.length []) := by unfold legsAll; omega
  have hle : legsAll l ≤ 10 := by rw [remain_start] at hn; omega
  obtain ⟨a1, a2, a3⟩ := look_ok O hfl (legsAll l) _ 0 (Good.start l) hn hle (by omega) none
  obtain ⟨r, hr, _⟩ := own_reach C (legsAll l) _ 0 (Along.start C) hn
  have := a2 r hr
  have ha : lookS l fl (legsAll l) (List.replicate l.trains.length []) 0 none = none := h
  rw [ha] at this
  exact this
/-- Both ways of leaving out what costs too much find the same. -/
theorem solve_same {l : Line} (O : Ok l) (h10 : sumF (fun i => ((l.tr i).legs.length : Int)) 0 l.trains.length ≤ 10) {fl fl' : Int → Int} (hfl : ∀ x, 0 ≤ x → fl x ≤ x) (hfl' : ∀ x, 0 ≤ x → fl' x ≤ x) : solveA l fl = solveA l fl' := by
  cases h : solveA l fl with
  | none =>
    cases h' : solveA l fl' with
    | none => rfl
    | some cb => exact absurd (solve_some O h10 hfl' h').1 (solve_none O h10 hfl h _)
  | some cb =>
    obtain ⟨c, b⟩ := cb
    cases h' : solveA l fl' with
    | none => exact absurd (solve_some O h10 hfl h).1 (solve_none O h10 hfl' h' _)
    | some cb' =>
      obtain ⟨c', b'⟩ := cb'
      obtain ⟨C, e, m⟩ := solve_some O h10 hfl h
      obtain ⟨C', e', m'⟩ := solve_some O h10 hfl' h'
      have h1 := m b' C'
      have h2 := m' b C
      simp only [leA, ← e, ← e'] at h1 h2
      have hc : c = c' := by omega
      subst hc
      have h3 : cmpP l b b' ≠ .gt := by
        rcases h1 with h1 | h1
        · omega
        · exact h1.2
      have h4 : cmpP l b' b ≠ .gt := by
        rcases h2 with h2 | h2
        · omega
        · exact h2.2
      rw [cmpP_swap l b b'] at h4
      have h5 : cmpP l b b' = .eq := by
        revert h3 h4
        cases cmpP l b b' <;> simp
      rw [plan_ext C.fits C'.fits (cmpP_eq.1 h5)]
end Go.Proofs.Ythhkbfjolmgloaa
