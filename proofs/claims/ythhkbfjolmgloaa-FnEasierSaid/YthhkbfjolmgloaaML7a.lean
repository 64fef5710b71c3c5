/- A plan that can be is nowhere sooner than the plan of its own order. Plain data alone.
   Looking through all orders, in plain data: what is found is the best plan of all that can be. Plain data alone.
   Placing the legs of an order one after the other, in plain data. Plain data alone.
   The order of a plan, in plain data: picking the next leg again and again answers what sorting answers. Plain data alone.
   slices.insertionSortCmpFunc, stableCmpFunc, SortStableFunc with impl.Order's comparison: a row of pairs becomes sorted. Condition: at most 10 pairs, their numbers between 0 and 2^40.
   slices.SortStableFunc with impl.Order's comparison sorts a row of pairs. Condition: at most 10 pairs, their numbers between 0 and 2^40.
   spec.l3less answers whether one plan comes ahead of another. Condition: the line is right, both plans fit it.
   impl.less and slices.Compare answer whether one plan comes ahead of another. Condition: the line is right, both plans fit it. -/
import Derived.Test.YthhkbfjolmgloaaML6a
import Derived.Test.YthhkbfjolmgloaaMHClos3
import Derived.Test.YthhkbfjolmgloaaML2a
import Derived.Deep.RegionWith
import Derived.Deep.RegionHeld3
import Derived.Test.YthhkbfjolmgloaaML0a
import Derived.BigQuiet
import Derived.Deep.QuietTactic
import Derived.StillTailTactics
import Derived.Deep.DeepCutAuto
namespace Go.Proofs.Ythhkbfjolmgloaa
open Go.RowKit
set_option linter.unusedVariables false
set_option linter.unusedSimpArgs false
structure Can (l : Line) (p : List (List Int)) : Prop where
  ok : Ok l
  fits : Fits l p
  ready : ∀ i k, i < l.trains.length → k < (l.tr i).legs.length → readyT l p i k ≤ st p i k
  apart : ∀ i k j m, i < l.trains.length → k < (l.tr i).legs.length → j < l.trains.length → m < (l.tr j).legs.length → tight l p i k j m = false
  room : ∀ i k, i < l.trains.length → k < (l.tr i).legs.length → taken l p i k ≤ l.tk (l.leg i k).to.toNat
theorem eachA_zero {l : Line} {cl : Nat → Nat → Cl} : (eachA l cl).1 = 0 ↔ ∀ i k, i < l.trains.length → k < (l.tr i).legs.length → (cl i k).1 = 0 := by
  have key : ∀ i k, i < l.trains.length → k < (l.tr i).legs.length → ((if (cl i k).1 ≠ 0 then some (cl i k) else none) = none ↔ (cl i k).1 = 0) := by
    intro i k _ _
    by_cases e : (cl i k).1 = 0
    · simp [e]
    · simp [e]
  constructor
  · intro h i k hi hk
    unfold eachA at h
    cases hf : findF (eachF l cl) 0 l.trains.length with
    | none => exact (key i k hi hk).1 (findF_none.1 (findF_none.1 hf i (Nat.zero_le _) hi) k (Nat.zero_le _) hk)
    | some c =>
      rw [hf] at h
      simp only [Option.getD_some] at h
      exfalso
      have : ∀ {β : Type} (f : Nat → Option β) (c n i : Nat) (b : β), n - i = c → findF f i n = some b → ∃ j, i ≤ j ∧ j < n ∧ f j = some b := by
        intro β f c
        induction c with
        | zero => intro n i b hc hb; rw [findF_end f (by omega)] at hb; cases hb
        | succ c ih =>
          intro n i b hc hb
          rw [findF_at f (by omega)] at hb
          cases hfi : f i with
          | some b' => rw [hfi] at hb; simp at hb; subst hb; exact ⟨i, Nat.le_refl _, by omega, hfi⟩
          | none =>
            rw [hfi] at hb
            obtain ⟨j, h1, h2, h3⟩ := ih n (i + 1) b (by omega) (by simpa using hb)
            exact ⟨j, by omega, h2, h3⟩
      obtain ⟨i', _, hi', h1⟩ := this _ _ _ _ _ rfl hf
      obtain ⟨k', _, hk', h2⟩ := this _ _ _ _ _ rfl h1
      by_cases e : (cl i' k').1 = 0
      · simp [e] at h2
      · simp only [ne_eq, e, not_false_eq_true, if_true, Option.some.injEq] at h2
        rw [← h2] at h
        exact e h
  · intro h
    have e : findF (eachF l cl) 0 l.trains.length = none := findF_none.2 fun i _ hi => findF_none.2 fun k _ hk => (key i k hi hk).2 (h i k hi hk)
    unfold eachA
    rw [e]
    rfl
theorem checkA_zero {l : Line} {p : List (List Int)} (h : (checkA l p).1 = 0) : Can l p := by
  unfold checkA at h
  by_cases c : (right l && shapeOk l p) = true
  · rw [if_pos c] at h
    rw [Bool.and_eq_true] at c
    unfold checkB at h
    by_cases c2 : (eachA l (cl2 l p)).1 = 0
    · rw [if_neg (by simp [c2])] at h
      by_cases c3 : (eachA l (cl3 l p)).1 = 0
      · rw [if_neg (by simp [c3])] at h
        refine ⟨right_iff.1 c.1, shapeOk_iff.1 c.2, fun i k hi hk => ?_, fun i k j m hi hk hj hm => ?_, fun i k hi hk => ?_⟩
        · have := eachA_zero.1 c2 i k hi hk
          unfold cl2 early at this
          by_cases e : st p i k < readyT l p i k
          · simp [e] at this
          · omega
        · have := eachA_zero.1 c3 i k hi hk
          unfold cl3 at this
          cases hh : hit l p i k with
          | some j => rw [hh] at this; simp at this
          | none =>
            have h1 := findF_none.1 (findF_none.1 hh j (Nat.zero_le _) hj) m (Nat.zero_le _) hm
            cases ht : tight l p i k j m with
            | false => rfl
            | true => rw [ht] at h1; simp at h1
        · have := eachA_zero.1 h i k hi hk
          unfold cl4 full at this
          by_cases e : l.tk (l.leg i k).to.toNat < taken l p i k
          · simp [e] at this
          · omega
      · rw [if_pos c3] at h; exact absurd h c3
    · rw [if_pos c2] at h; exact absurd h c2
  · rw [if_neg c] at h; simp at h
theorem Can.check {l : Line} {p : List (List Int)} (C : Can l p) : checkA l p = (0, 0, 0, 0) := by
  have h0 : ∀ cl : Nat → Nat → Cl, (∀ i k, i < l.trains.length → k < (l.tr i).legs.length → cl i k = (0, 0, 0, 0)) → eachA l cl = (0, 0, 0, 0) := by
    intro cl h
    have e : findF (eachF l cl) 0 l.trains.length = none := findF_none.2 fun i _ hi => findF_none.2 fun k _ hk => by rw [h i k hi hk]; rfl
    unfold eachA
    rw [e]
    rfl
  have q2 : eachA l (cl2 l p) = (0, 0, 0, 0) := h0 _ fun i k hi hk => by
    have h' : ¬ st p i k < readyT l p i k := by have := C.ready i k hi hk; omega
    simp [cl2, early, h']
  have q3 : eachA l (cl3 l p) = (0, 0, 0, 0) := h0 _ fun i k hi hk => by
    have : hit l p i k = none := findF_none.2 fun j _ hj => findF_none.2 fun m _ hm => by rw [C.apart i k j m hi hk hj hm]; rfl
    simp [cl3, this]
  have q4 : eachA l (cl4 l p) = (0, 0, 0, 0) := h0 _ fun i k hi hk => by
    have h' : ¬ l.tk (l.leg i k).to.toNat < taken l p i k := by have := C.room i k hi hk; omega
    simp [cl4, full, h']
  unfold checkA
  rw [if_pos (by rw [right_iff.2 C.ok, shapeOk_iff.2 C.fits]; rfl)]
  unfold checkB
  rw [q2, q3, q4]
  rfl
theorem Good.can' {l : Line} {p : List (List Int)} {last : Int} (O : Ok l) (G : Good l p last) (hf : ∀ i, i < l.trains.length → (p.getD i []).length = (l.tr i).legs.length) (hl : last ≤ 1000000) : Can l p := by
  obtain ⟨F, h⟩ := G.can O hf hl
  refine checkA_zero ?_
  unfold checkA
  rw [if_pos (by rw [right_iff.2 O, shapeOk_iff.2 F]; rfl), h]
theorem Can.row_lt {l : Line} {p : List (List Int)} (C : Can l p) {i k : Nat} (hi : i < l.trains.length) (hk : k + 1 < (l.tr i).legs.length) : st p i k < st p i (k + 1) := by
  have h := C.ready i (k + 1) hi hk
  obtain ⟨_, _, y1, _, _, _⟩ := C.ok.bd.leg i k hi (by omega)
  obtain ⟨_, _, _, _, y5, _⟩ := C.ok.bd.leg i (k + 1) hi hk
  unfold readyT at h
  rw [if_neg (by omega)] at h
  simp only [Nat.add_sub_cancel] at h
  omega
/-- q follows p's own order so far, nowhere later. -/
structure Along (l : Line) (p q : List (List Int)) (last : Int) : Prop where
  good : Good l q last
  le : ∀ i k, i < l.trains.length → k < (q.getD i []).length → st q i k ≤ st p i k
  srt : ∀ j m i, j < l.trains.length → m < (q.getD j []).length → i < l.trains.length → (q.getD i []).length < (l.tr i).legs.length → st p j m < st p i (q.getD i []).length ∨ (st p j m = st p i (q.getD i []).length ∧ j ≤ i)
  last_ : ∀ i, i < l.trains.length → (q.getD i []).length < (l.tr i).legs.length → last ≤ st p i (q.getD i []).length
theorem Along.start {l : Line} {p : List (List Int)} (C : Can l p) : Along l p (List.replicate l.trains.length []) 0 where
  good := Good.start l
  le := fun i k _ hk => by rw [getD_replicate_nil] at hk; simp at hk
  srt := fun j m i _ hm => by rw [getD_replicate_nil] at hm; simp at hm
  last_ := fun i hi hk => by rw [getD_replicate_nil] at hk ⊢; exact (C.fits.bd hi hk).1
theorem sumF_le' {f g : Nat → Int} {n n' : Nat} (hn : n ≤ n') (h : ∀ j, j < n → f j ≤ g j) (h0 : ∀ j, j < n' → 0 ≤ g j) : sumF f 0 n ≤ sumF g 0 n' := by
  induction n' with
  | zero => rw [show n = 0 by omega, sumF_end _ (Nat.le_refl _), sumF_end _ (Nat.le_refl _)]; exact Int.le_refl _
  | succ n' ih =>
    rw [sumF_last g (Nat.zero_le _)]
    by_cases e : n = n' + 1
    · subst e
      rw [sumF_last f (Nat.zero_le _)]
      have h1 := sumF_le (f := f) (g := g) (i := 0) (n := n') (fun j _ hj => h j (by omega))
      have h2 := h n' (by omega)
      omega
    · have h1 := ih (by omega) (fun j hj => h0 j (by omega))
      have h2 := h0 n' (by omega)
      omega
theorem Along.step {l : Line} {p q : List (List Int)} {last : Int} {i : Nat} (C : Can l p) (A : Along l p q last) (hi : i < l.trains.length) (hk : (q.getD i []).length < (l.tr i).legs.length)
    (hmin : ∀ j, j < l.trains.length → (q.getD j []).length < (l.tr j).legs.length → st p i (q.getD i []).length < st p j (q.getD j []).length ∨ (st p i (q.getD i []).length = st p j (q.getD j []).length ∧ i ≤ j)) :
    ∃ t, stepT l q last i = some t ∧ t ≤ st p i (q.getD i []).length ∧ Along l p (put q i t) t := by
  have O := C.ok
  have B := O.bd
  have G := A.good
  have hip : i < q.length := by rw [G.rows]; exact hi
  have hx := C.fits.bd hi hk
  have hlast := A.last_ i hi hk
  have hE : ∀ e, e ∈ ends l q (l.leg i (q.getD i []).length).to → e ≤ 1099511627776 := by
    intro e he
    obtain ⟨j, m, hj, hm, _, rfl⟩ := mem_ends he
    have b2 := G.at_ j m hj hm
    have := G.len j hj
    obtain ⟨_, _, y1, y2, _, _⟩ := B.leg j m hj (by omega)
    unfold endT
    by_cases c1 : m + 1 < (q.getD j []).length
    · rw [if_pos c1]; have := G.at_ j (m + 1) hj c1; omega
    · rw [if_neg c1]
      by_cases c2 : m + 1 = (l.tr j).legs.length
      · rw [if_pos c2]; omega
      · rw [if_neg c2]; omega
  have hr : readyT l q i (q.getD i []).length ≤ readyT l p i (q.getD i []).length := by
    unfold readyT
    by_cases e : (q.getD i []).length = 0
    · rw [if_pos e, if_pos e]; exact Int.le_refl _
    · rw [if_neg e, if_neg e]
      have := A.le i ((q.getD i []).length - 1) hi (by omega)
      omega
  have hr2 := C.ready i _ hi hk
  have hfree : freeT l q i (q.getD i []).length (max (readyT l q i (q.getD i []).length) last) ≤ st p i (q.getD i []).length := by
    refine freeT_le (by omega) fun j m hj hm hji htr => ?_
    have h1 := A.le j m hj hm
    have h2 := A.srt j m i hj hm hi hk
    have h3 := C.apart i _ j m hi hk hj (by have := G.len j hj; omega)
    unfold tight at h3
    simp only [decide_eq_false_iff_not] at h3
    by_cases e : st p i (q.getD i []).length < st p j m + (l.leg j m).run + l.gap
    · exact absurd ⟨Ne.symm hji, htr.symm, by omega, e⟩ h3
    · omega
  have hcnt : (cnt (ends l q (l.leg i (q.getD i []).length).to) (st p i (q.getD i []).length) : Int) < l.tk (l.leg i (q.getD i []).length).to.toNat := by
    have h1 := C.room i _ hi hk
    rw [taken_split hi hk] at h1
    have h2 : sumF (fun j => sumF (fun m => if (l.leg j m).to = (l.leg i (q.getD i []).length).to ∧ st p i (q.getD i []).length ≤ endT l q j m then 1 else 0) 0 (q.getD j []).length) 0 l.trains.length ≤ sumF (fun j => sumF (takesI l p i (q.getD i []).length j) 0 (l.tr j).legs.length) 0 l.trains.length := by
      refine sumF_le fun j _ hj => sumF_le' (G.len j hj) (fun m hm => ?_) (fun m _ => ?_)
      · by_cases c : (l.leg j m).to = (l.leg i (q.getD i []).length).to ∧ st p i (q.getD i []).length ≤ endT l q j m
        · have hlv : st p i (q.getD i []).length ≤ leaves l p j m := by
            have hg := G.len j hj
            have h3 := c.2
            unfold endT at h3
            unfold leaves
            by_cases c1 : m + 1 < (q.getD j []).length
            · rw [if_pos c1] at h3
              rw [if_pos (by omega)]
              have := A.le j (m + 1) hj c1
              omega
            · rw [if_neg c1] at h3
              by_cases c2 : m + 1 = (l.tr j).legs.length
              · rw [if_pos c2] at h3
                rw [if_neg (by omega)]
                have := A.le j m hj hm
                omega
              · have e : m + 1 = (q.getD j []).length := by omega
                rw [if_pos (by omega), e]
                have := hmin j hj (by omega)
                omega
          rw [if_pos c]
          have hne : j ≠ i ∨ m ≠ (q.getD i []).length := by
            by_cases e : j = i
            · subst e; exact Or.inr (by omega)
            · exact Or.inl e
          have hv : takesI l p i (q.getD i []).length j m = 1 := by
            unfold takesI
            rw [if_pos ⟨c.1, hne, A.srt j m i hj hm hi hk, hlv⟩]
          rw [hv]
          exact Int.le_refl _
        · rw [if_neg c]
          unfold takesI
          by_cases c' : (l.leg j m).to = (l.leg i (q.getD i []).length).to ∧ (j ≠ i ∨ m ≠ (q.getD i []).length) ∧ (st p j m < st p i (q.getD i []).length ∨ (st p j m = st p i (q.getD i []).length ∧ j ≤ i)) ∧ st p i (q.getD i []).length ≤ leaves l p j m
          · rw [if_pos c']; decide
          · rw [if_neg c']; decide
      · unfold takesI
        by_cases c' : (l.leg j m).to = (l.leg i (q.getD i []).length).to ∧ (j ≠ i ∨ m ≠ (q.getD i []).length) ∧ (st p j m < st p i (q.getD i []).length ∨ (st p j m = st p i (q.getD i []).length ∧ j ≤ i)) ∧ st p i (q.getD i []).length ≤ leaves l p j m
        · rw [if_pos c']; decide
        · rw [if_neg c']; decide
    rw [cnt_ends]
    omega
  obtain ⟨t, ht, hle⟩ := roomA_le hE (by omega) hcnt _ _ rfl hfree
  have ht' : stepT l q last i = some t := ht
  have hl : last ≤ 10000000 := by omega
  have G2 := G.step O hi hk hl ht'
  refine ⟨t, ht', hle, ⟨G2, fun j m hj hm => ?_, fun j m j2 hj hm hj2 hm2 => ?_, fun j hj hm => ?_⟩⟩
  · rw [put_len hip] at hm
    rw [put_st hip]
    by_cases e : j = i ∧ m = (q.getD i []).length
    · rw [if_pos e]; obtain ⟨rfl, rfl⟩ := e; exact hle
    · rw [if_neg e]
      refine A.le j m hj ?_
      by_cases e2 : j = i
      · subst e2; rw [if_pos rfl] at hm; omega
      · rw [if_neg e2] at hm; exact hm
  · rw [put_len hip] at hm hm2 ⊢
    have hnew : st p i (q.getD i []).length < st p j2 (if j2 = i then (q.getD i []).length + 1 else (q.getD j2 []).length) ∨ (st p i (q.getD i []).length = st p j2 (if j2 = i then (q.getD i []).length + 1 else (q.getD j2 []).length) ∧ i ≤ j2) := by
      by_cases e : j2 = i
      · subst e
        rw [if_pos rfl] at hm2 ⊢
        exact Or.inl (C.row_lt hj2 hm2)
      · rw [if_neg e] at hm2 ⊢
        exact hmin j2 hj2 hm2
    by_cases e : j = i ∧ m = (q.getD i []).length
    · obtain ⟨rfl, rfl⟩ := e
      exact hnew
    · have hm' : m < (q.getD j []).length := by
        by_cases e2 : j = i
        · subst e2; rw [if_pos rfl] at hm; omega
        · rw [if_neg e2] at hm; exact hm
      have := A.srt j m i hj hm' hi hk
      omega
  · rw [put_len hip] at hm ⊢
    by_cases e : j = i
    · subst e
      rw [if_pos rfl] at hm ⊢
      have := C.row_lt hj hm
      omega
    · rw [if_neg e] at hm ⊢
      have := hmin j hj hm
      omega
end Go.Proofs.Ythhkbfjolmgloaa
namespace Go.Proofs.Ythhkbfjolmgloaa
open Go.RowKit
set_option linter.unusedVariables false
set_option linter.unusedSimpArgs false
/-! ### One plan beside another, where they first part -/
def lexO (c : Nat → Ordering) (i n : Nat) : Ordering := (findF (fun i => if c i = .eq then none else some (c i)) i n).getD .eq
theorem lexO_at (c : Nat → Ordering) {i n : Nat} (h : i < n) : lexO c i n = if c i = .eq then lexO c (i + 1) n else c i := by
  unfold lexO
  rw [findF_at _ h]
  by_cases e : c i = .eq
  · rw [if_pos e, if_pos e]; rfl
  · rw [if_neg e, if_neg e]; rfl
theorem lexO_end (c : Nat → Ordering) {i n : Nat} (h : n ≤ i) : lexO c i n = .eq := by
  unfold lexO
  rw [findF_end _ h]; rfl
theorem lexO_eq {c : Nat → Ordering} {i n : Nat} : lexO c i n = .eq ↔ ∀ j, i ≤ j → j < n → c j = .eq := by
  generalize hd : n - i = d
  induction d generalizing i with
  | zero => rw [lexO_end _ (by omega)]; simp only [true_iff]; intro j h1 h2; omega
  | succ d ih =>
    rw [lexO_at _ (by omega)]
    by_cases e : c i = .eq
    · rw [if_pos e, ih (by omega)]
      constructor
      · intro h j h1 h2
        by_cases e2 : i = j
        · subst e2; exact e
        · exact h j (by omega) h2
      · intro h j h1 h2; exact h j (by omega) h2
    · rw [if_neg e]
      constructor
      · intro h; exact absurd h e
      · intro h; exact h i (Nat.le_refl _) (by omega)
def TransO (a b c : Ordering) : Prop := a ≠ .gt → b ≠ .gt → c ≠ .gt ∧ (c = .eq ↔ a = .eq ∧ b = .eq)
theorem lexO_trans {a b c : Nat → Ordering} {i n : Nat} (h : ∀ j, i ≤ j → j < n → TransO (a j) (b j) (c j)) : TransO (lexO a i n) (lexO b i n) (lexO c i n) := by
  generalize hd : n - i = d
  induction d generalizing i with
  | zero => rw [lexO_end _ (by omega), lexO_end _ (by omega), lexO_end _ (by omega)]; intro _ _; simp
  | succ d ih =>
    have h0 := h i (Nat.le_refl _) (by omega)
    have h1 := ih (i := i + 1) (fun j h1 h2 => h j (by omega) h2) (by omega)
    rw [lexO_at a (by omega), lexO_at b (by omega), lexO_at c (by omega)]
    revert h0 h1
    generalize lexO a (i + 1) n = a2
    generalize lexO b (i + 1) n = b2
    generalize lexO c (i + 1) n = c2
    generalize a i = a1
    generalize b i = b1
    generalize c i = c1
    unfold TransO
    cases a1 <;> cases b1 <;> cases c1 <;> simp
theorem lexO_swap {a b : Nat → Ordering} {i n : Nat} (h : ∀ j, i ≤ j → j < n → b j = (a j).swap) : lexO b i n = (lexO a i n).swap := by
  generalize hd : n - i = d
  induction d generalizing i with
  | zero => rw [lexO_end _ (by omega), lexO_end _ (by omega)]; rfl
  | succ d ih =>
    have h0 := h i (Nat.le_refl _) (by omega)
    have h1 := ih (i := i + 1) (fun j h1 h2 => h j (by omega) h2) (by omega)
    rw [lexO_at a (by omega), lexO_at b (by omega), h0, h1]
    cases a i <;> rfl
def cmpI (a b : Int) : Ordering := if a < b then .lt else if a = b then .eq else .gt
theorem cmpI_eq {a b : Int} : cmpI a b = .eq ↔ a = b := by
  unfold cmpI
  by_cases h : a < b
  · rw [if_pos h]; simp; omega
  · rw [if_neg h]
    by_cases e : a = b
    · simp [e]
    · simp [e]
theorem cmpI_trans (a b c : Int) : TransO (cmpI a b) (cmpI b c) (cmpI a c) := by
  unfold TransO cmpI
  by_cases h1 : a < b
  · by_cases h2 : b < c
    · rw [if_pos h1, if_pos h2, if_pos (by omega)]; simp
    · by_cases h3 : b = c
      · subst h3; rw [if_pos h1, if_neg (by omega)]; simp
      · rw [if_neg h2, if_neg h3]; simp
  · by_cases h4 : a = b
    · subst h4
      rw [if_neg (by omega), if_pos rfl]
      by_cases h2 : a < c
      · rw [if_pos h2]; simp
      · by_cases h3 : a = c
        · simp [h3]
        · rw [if_neg h2, if_neg h3]; simp
    · rw [if_neg h1, if_neg h4]; simp
theorem cmpI_swap (a b : Int) : cmpI b a = (cmpI a b).swap := by
  unfold cmpI
  by_cases h1 : a < b
  · rw [if_pos h1, if_neg (by omega), if_neg (by omega)]; rfl
  · by_cases h2 : a = b
    · subst h2; simp
    · rw [if_neg h1, if_neg h2, if_pos (by omega)]; rfl
def cmpR (l : Line) (p q : List (List Int)) (i : Nat) : Ordering := lexO (fun k => cmpI (st p i k) (st q i k)) 0 (l.tr i).legs.length
def cmpP (l : Line) (p q : List (List Int)) : Ordering := lexO (cmpR l p q) 0 l.trains.length
theorem cmpP_trans (l : Line) (p q r : List (List Int)) : TransO (cmpP l p q) (cmpP l q r) (cmpP l p r) := lexO_trans fun _ _ _ => lexO_trans fun _ _ _ => cmpI_trans _ _ _
theorem cmpP_swap (l : Line) (p q : List (List Int)) : cmpP l q p = (cmpP l p q).swap := lexO_swap fun _ _ _ => lexO_swap fun _ _ _ => cmpI_swap _ _
theorem cmpP_eq {l : Line} {p q : List (List Int)} : cmpP l p q = .eq ↔ ∀ i k, i < l.trains.length → k < (l.tr i).legs.length → st p i k = st q i k := by
  unfold cmpP
  rw [lexO_eq]
  constructor
  · intro h i k hi hk
    exact cmpI_eq.1 (lexO_eq.1 (h i (Nat.zero_le _) hi) k (Nat.zero_le _) hk)
  · intro h i _ hi
    exact lexO_eq.2 fun k _ hk => cmpI_eq.2 (h i k hi hk)
/-- Nowhere later is not behind. -/
theorem lexO_le {c : Nat → Ordering} {i n : Nat} (h : ∀ j, i ≤ j → j < n → c j ≠ .gt) : lexO c i n ≠ .gt := by
  generalize hd : n - i = d
  induction d generalizing i with
  | zero => rw [lexO_end _ (by omega)]; simp
  | succ d ih =>
    rw [lexO_at _ (by omega)]
    by_cases e : c i = .eq
    · rw [if_pos e]; exact ih (fun j h1 h2 => h j (by omega) h2) (by omega)
    · rw [if_neg e]; exact h i (Nat.le_refl _) (by omega)
theorem cmpP_le {l : Line} {p q : List (List Int)} (h : ∀ i k, i < l.trains.length → k < (l.tr i).legs.length → st p i k ≤ st q i k) : cmpP l p q ≠ .gt := by
  refine lexO_le fun i _ hi => lexO_le fun k _ hk => ?_
  have := h i k hi hk
  unfold cmpI
  by_cases e : st p i k < st q i k
  · rw [if_pos e]; simp
  · rw [if_neg e, if_pos (by omega)]; simp
theorem plan_ext {l : Line} {p q : List (List Int)} (Fp : Fits l p) (Fq : Fits l q) (h : ∀ i k, i < l.trains.length → k < (l.tr i).legs.length → st p i k = st q i k) : p = q := by
  refine List.ext_getElem? fun i => ?_
  by_cases hi : i < l.trains.length
  · rw [row_at (p := p) (by rw [Fp.rows]; exact hi), row_at (p := q) (by rw [Fq.rows]; exact hi)]
    congr 1
    refine List.ext_getElem? fun k => ?_
    by_cases hk : k < (l.tr i).legs.length
    · rw [st_at Fp hi hk, st_at Fq hi hk, h i k hi hk]
    · rw [List.getElem?_eq_none (by rw [Fp.row hi]; omega), List.getElem?_eq_none (by rw [Fq.row hi]; omega)]
  · rw [List.getElem?_eq_none (by rw [Fp.rows]; omega), List.getElem?_eq_none (by rw [Fq.rows]; omega)]

/-! ### Looking through all orders -/
abbrev Acc := Option (Int × List (List Int))
def floorT (l : Line) (p : List (List Int)) (b : Int) (i : Nat) : Int :=
  foldF (fun m a => max (a + (l.leg i m).stay) b + (l.leg i m).run) (p.getD i []).length (l.tr i).legs.length (if (p.getD i []).length = 0 then (l.tr i).ready else st p i ((p.getD i []).length - 1) + (l.leg i ((p.getD i []).length - 1)).run)
def floorS (l : Line) (p : List (List Int)) (b : Int) : Int := sumF (fun i => lateT (l.tr i) (floorT l p b i)) 0 l.trains.length
def costF (l : Line) (p : List (List Int)) : Int := sumF (fun i => lateT (l.tr i) (arrT l p i)) 0 l.trains.length
def kid (l : Line) (p : List (List Int)) (last : Int) (i : Nat) : Option (List (List Int) × Int) := if (p.getD i []).length < (l.tr i).legs.length then (stepT l p last i).map (fun t => (put p i t, t)) else none
def updS (l : Line) (p : List (List Int)) (c : Int) : Acc → Acc
  | none => some (c, p)
  | some (c', b) => if c < c' ∨ cmpP l p b = .lt then some (c, p) else some (c', b)
def over (f : Int) : Acc → Bool
  | none => false
  | some (c, _) => decide (c < f)
def lookS (l : Line) (fl : Int → Int) : Nat → List (List Int) → Int → Acc → Acc
  | 0, p, last, acc => if over (floorS l p (fl last)) acc then acc else updS l p (floorS l p (fl last)) acc
  | n + 1, p, last, acc => if over (floorS l p (fl last)) acc then acc else foldF (fun i acc => match kid l p last i with | none => acc | some s => lookS l fl n s.1 s.2 acc) 0 l.trains.length acc
/-- A whole plan that comes from a part of one. -/
def Reach (l : Line) : Nat → List (List Int) → Int → List (List Int) → Prop
  | 0, p, _, q => q = p
  | n + 1, p, last, q => ∃ i s, i < l.trains.length ∧ kid l p last i = some s ∧ Reach l n s.1 s.2 q
/-! ### What is known of what is reached -/
def remain (l : Line) (p : List (List Int)) : Int := sumF (fun i => ((l.tr i).legs.length : Int) - ((p.getD i []).length : Int)) 0 l.trains.length
theorem sumF_ge_one {f : Nat → Int} {i n k : Nat} (hi : i ≤ k) (hk : k < n) (h : ∀ j, i ≤ j → j < n → 0 ≤ f j) : f k ≤ sumF f i n := by
  have h1 := sumF_one (f := fun j => if j = k then f k else 0) hi hk (fun j _ _ e => if_neg e)
  have h2 := sumF_le (f := fun j => if j = k then f k else 0) (g := f) (i := i) (n := n) (fun j h1 h2 => by
    by_cases e : j = k
    · subst e; simp
    · simp only [if_neg e]; exact h j h1 h2)
  rw [h1] at h2
  simpa using h2
theorem remain_zero {l : Line} {p : List (List Int)} {last : Int} (G : Good l p last) (h : remain l p = 0) : ∀ i, i < l.trains.length → (p.getD i []).length = (l.tr i).legs.length := by
  intro i hi
  have := sumF_ge_one (f := fun i => ((l.tr i).legs.length : Int) - ((p.getD i []).length : Int)) (Nat.zero_le i) hi (fun j _ hj => by have := G.len j hj; omega)
  unfold remain at h
  have := G.len i hi
  omega
theorem remain_pos {l : Line} {p : List (List Int)} {last : Int} (G : Good l p last) (h : 0 < remain l p) : ∃ i, i < l.trains.length ∧ (p.getD i []).length < (l.tr i).legs.length := by
  by_cases e : ∃ i, i < l.trains.length ∧ (p.getD i []).length < (l.tr i).legs.length
  · exact e
  · exfalso
    have : remain l p = 0 := sumF_zero fun i _ hi => by
      have := G.len i hi
      by_cases c : (p.getD i []).length < (l.tr i).legs.length
      · exact absurd ⟨i, hi, c⟩ e
      · omega
    omega
theorem remain_put {l : Line} {p : List (List Int)} {i : Nat} {t : Int} (hip : i < p.length) (hi : i < l.trains.length) : remain l (put p i t) = remain l p - 1 := by
  unfold remain
  rw [sumF_change (f := fun j => ((l.tr j).legs.length : Int) - (((put p i t).getD j []).length : Int)) (g := fun i => ((l.tr i).legs.length : Int) - ((p.getD i []).length : Int)) (k := i) (d := -1) (Nat.zero_le _) hi (fun j _ _ e => by rw [put_len hip, if_neg e]) (by rw [put_len hip, if_pos rfl]; omega)]
  omega
theorem kid_some {l : Line} {p : List (List Int)} {last : Int} {i : Nat} {s : List (List Int) × Int} (h : kid l p last i = some s) : (p.getD i []).length < (l.tr i).legs.length ∧ ∃ t, stepT l p last i = some t ∧ s = (put p i t, t) := by
  unfold kid at h
  by_cases c : (p.getD i []).length < (l.tr i).legs.length
  · rw [if_pos c] at h
    cases ht : stepT l p last i with
    | none => rw [ht] at h; cases h
    | some t => rw [ht] at h; exact ⟨c, t, rfl, by simpa using h.symm⟩
  · rw [if_neg c] at h; cases h
theorem reach_ok {l : Line} (O : Ok l) : ∀ (n : Nat) (p : List (List Int)) (last : Int), Good l p last → (n : Int) = remain l p → n ≤ 10 → last + 20000 * n ≤ 400000 → ∀ q, Reach l n p last q →
    (∃ last', Good l q last' ∧ last' ≤ 400000) ∧ (∀ i, i < l.trains.length → (q.getD i []).length = (l.tr i).legs.length) ∧ (∀ i k, i < l.trains.length → k < (p.getD i []).length → st q i k = st p i k) ∧ (∀ i k, i < l.trains.length → (p.getD i []).length ≤ k → k < (l.tr i).legs.length → last ≤ st q i k) := by
  intro n
  induction n with
  | zero =>
    intro p last G hn _ hl q hq
    obtain rfl : q = p := hq
    have hf := remain_zero G hn.symm
    exact ⟨⟨last, G, by omega⟩, hf, fun _ _ _ _ => rfl, fun i k hi h1 h2 => by rw [hf i hi] at h1; omega⟩
  | succ n ih =>
    intro p last G hn h10 hl q hq
    obtain ⟨i, s, hi, hs, hr⟩ := hq
    obtain ⟨hk, t, ht, rfl⟩ := kid_some hs
    have hip : i < p.length := by rw [G.rows]; exact hi
    have hb := stepT_ok O G hi hk (by omega) ht
    obtain ⟨q1, q2, q3, q4⟩ := ih (put p i t) t (G.step O hi hk (by omega) ht) (by rw [remain_put hip hi, ← hn]; omega) (by omega) (by omega) q hr
    refine ⟨q1, q2, fun j k hj hk2 => ?_, fun j k hj h1 h2 => ?_⟩
    · rw [q3 j k hj (by rw [put_len hip]; by_cases e : j = i; (subst e; rw [if_pos rfl]; omega); (rw [if_neg e]; exact hk2)), put_st hip, if_neg]
      rintro ⟨rfl, rfl⟩
      omega
    · by_cases e : j = i ∧ k = (p.getD i []).length
      · rw [q3 j k hj (by rw [put_len hip, if_pos e.1]; omega), put_st hip, if_pos e]
        exact hb.1
      · have := q4 j k hj (by
          rw [put_len hip]
          by_cases e2 : j = i
          · subst e2; rw [if_pos rfl]; omega
          · rw [if_neg e2]; exact h1) h2
        omega
theorem foldF_inv' {α : Type} {P : Nat → α → Prop} {f : Nat → α → α} {i n : Nat} {a : α} (hin : i ≤ n) (h : ∀ j a, i ≤ j → j < n → P j a → P (j + 1) (f j a)) (h0 : P i a) : P n (foldF f i n a) := by
  generalize hd : n - i = d
  induction d generalizing i a with
  | zero => rw [foldF_end _ (by omega)]; rwa [show n = i by omega]
  | succ d ih =>
    rw [foldF_at _ (by omega)]
    exact ih (by omega) (fun j a h1 h2 => h j a (by omega) h2) (h i a (Nat.le_refl _) (by omega) h0) (by omega)
theorem lateT_mono {n : Int} {t : Train} (h : TrOk n t) {a b : Int} (hab : a ≤ b) : lateT t a ≤ lateT t b := by
  unfold lateT
  have := h.weight0
  exact Int.mul_le_mul_of_nonneg_left (by omega) (by omega)
theorem floor_le {l : Line} {p q : List (List Int)} {last b : Int} (O : Ok l) (hb : b ≤ last) (hG : ∃ last', Good l q last' ∧ last' ≤ 400000) (hp : ∀ i, i < l.trains.length → (p.getD i []).length ≤ (l.tr i).legs.length) (h2 : ∀ i, i < l.trains.length → (q.getD i []).length = (l.tr i).legs.length) (h3 : ∀ i k, i < l.trains.length → k < (p.getD i []).length → st q i k = st p i k) (h4 : ∀ i k, i < l.trains.length → (p.getD i []).length ≤ k → k < (l.tr i).legs.length → last ≤ st q i k) : floorS l p b ≤ costF l q := by
  obtain ⟨last', G, _⟩ := hG
  refine sumF_le fun i _ hi => lateT_mono (O.train i _ (Line.tr_at hi)) ?_
  have hn := O.bd.nl1 i hi
  have key := foldF_inv' (P := fun m a => a ≤ if m = 0 then (l.tr i).ready else st q i (m - 1) + (l.leg i (m - 1)).run) (f := fun m a => max (a + (l.leg i m).stay) b + (l.leg i m).run) (i := (p.getD i []).length) (n := (l.tr i).legs.length) (a := if (p.getD i []).length = 0 then (l.tr i).ready else st p i ((p.getD i []).length - 1) + (l.leg i ((p.getD i []).length - 1)).run) (hp i hi) (fun m a hm1 hm2 ha => ?_) ?_
  · unfold floorT
    rw [if_neg (by omega : ¬ (l.tr i).legs.length = 0)] at key
    unfold arrT
    rw [h2 i hi]
    exact key
  · have r := G.ready i m hi (by rw [h2 i hi]; exact hm2)
    have q4 := h4 i m hi hm1 hm2
    rw [if_neg (by omega), Nat.add_sub_cancel]
    unfold readyT at r
    by_cases e : m = 0
    · subst e
      simp only [if_true] at r ha
      omega
    · rw [if_neg e] at r ha
      omega
  · by_cases e : (p.getD i []).length = 0
    · rw [if_pos e, if_pos e]; exact Int.le_refl _
    · rw [if_neg e, if_neg e, h3 i _ hi (by omega)]; exact Int.le_refl _
theorem floor_full {l : Line} {p : List (List Int)} {b : Int} (O : Ok l) (hf : ∀ i, i < l.trains.length → (p.getD i []).length = (l.tr i).legs.length) : floorS l p b = costF l p := by
  refine sumF_congr fun i _ hi => ?_
  have hn := O.bd.nl1 i hi
  unfold floorT arrT
  rw [foldF_end _ (by rw [hf i hi]; exact Nat.le_refl _), if_neg (by rw [hf i hi]; omega)]
/-- What was found is not worse than a plan. -/
def leA (l : Line) (acc : Acc) (q : List (List Int)) : Prop :=
  match acc with
  | none => False
  | some (c, b) => c < costF l q ∨ (c = costF l q ∧ cmpP l b q ≠ .gt)
theorem look_ok {l : Line} (O : Ok l) {fl : Int → Int} (hfl : ∀ x, 0 ≤ x → fl x ≤ x) : ∀ (n : Nat) (p : List (List Int)) (last : Int), Good l p last → (n : Int) = remain l p → n ≤ 10 → last + 20000 * n ≤ 400000 → ∀ acc : Acc,
    (lookS l fl n p last acc = acc ∨ ∃ q, Reach l n p last q ∧ lookS l fl n p last acc = some (costF l q, q)) ∧ (∀ q, Reach l n p last q → leA l (lookS l fl n p last acc) q) ∧ (∀ q, leA l acc q → leA l (lookS l fl n p last acc) q) := by
  intro n
  induction n with
  | zero =>
    intro p last G hn h10 hl acc
    have hf := remain_zero G hn.symm
    simp only [lookS, floor_full O hf]
    cases acc with
    | none =>
      simp only [over, updS, if_false, Bool.false_eq_true]
      refine ⟨Or.inr ⟨p, rfl, rfl⟩, fun q hq => ?_, fun q hq => hq.elim⟩
      obtain rfl : q = p := hq
      exact Or.inr ⟨rfl, by rw [cmpP_eq.2 fun _ _ _ _ => rfl]; simp⟩
    | some cb =>
      obtain ⟨c, b⟩ := cb
      simp only [over, decide_eq_true_eq]
      by_cases c1 : c < costF l p
      · rw [if_pos c1]
        refine ⟨Or.inl rfl, fun q hq => ?_, fun q hq => hq⟩
        obtain rfl : q = p := hq
        exact Or.inl c1
      · rw [if_neg c1]
        simp only [updS]
        by_cases c2 : costF l p < c ∨ cmpP l p b = .lt
        · rw [if_pos c2]
          refine ⟨Or.inr ⟨p, rfl, rfl⟩, fun q hq => ?_, fun q hq => ?_⟩
          · obtain rfl : q = p := hq
            exact Or.inr ⟨rfl, by rw [cmpP_eq.2 fun _ _ _ _ => rfl]; simp⟩
          · simp only [leA] at hq ⊢
            by_cases c3 : costF l p < c
            · exact Or.inl (by omega)
            · have c4 : cmpP l p b = .lt := by
                rcases c2 with c2 | c2
                · exact absurd c2 c3
                · exact c2
              rcases hq with hq | ⟨hq, hq2⟩
              · exact Or.inl (by omega)
              · exact Or.inr ⟨by omega, (cmpP_trans l p b q (by rw [c4]; simp) hq2).1⟩
        · rw [if_neg c2]
          refine ⟨Or.inl rfl, fun q hq => ?_, fun q hq => hq⟩
          obtain rfl : q = p := hq
          refine Or.inr ⟨by omega, ?_⟩
          rw [cmpP_swap l q b]
          have : cmpP l q b ≠ .lt := fun h => c2 (Or.inr h)
          revert this
          cases cmpP l q b <;> simp
  | succ n ih =>
    intro p last G hn h10 hl acc
    simp only [lookS]
    by_cases c1 : over (floorS l p (fl last)) acc = true
    · rw [if_pos c1]
      refine ⟨Or.inl rfl, fun q hq => ?_, fun q hq => hq⟩
      obtain ⟨q1, q2, q3, q4⟩ := reach_ok O (n + 1) p last G hn h10 hl q hq
      have hfl2 := floor_le O (hfl last G.last0) q1 G.len q2 q3 q4
      cases acc with
      | none => cases c1
      | some cb =>
        obtain ⟨c, b⟩ := cb
        simp only [over, decide_eq_true_eq] at c1
        exact Or.inl (by omega)
    · rw [if_neg c1]
      -- the kids, one after the other
      have hk : ∀ i, i < l.trains.length → ∀ s, kid l p last i = some s → Good l s.1 s.2 ∧ (n : Int) = remain l s.1 ∧ s.2 + 20000 * n ≤ 400000 := by
        intro i hi s hs
        obtain ⟨hk, t, ht, rfl⟩ := kid_some hs
        have hip : i < p.length := by rw [G.rows]; exact hi
        have hb := stepT_ok O G hi hk (by omega) ht
        exact ⟨G.step O hi hk (by omega) ht, by rw [remain_put hip hi, ← hn]; omega, by simp only []; omega⟩
      have main : ∀ (d i : Nat) (acc0 : Acc), l.trains.length - i = d →
          (foldF (fun i acc => match kid l p last i with | none => acc | some s => lookS l fl n s.1 s.2 acc) i l.trains.length acc0 = acc0 ∨ ∃ q, Reach l (n + 1) p last q ∧ foldF (fun i acc => match kid l p last i with | none => acc | some s => lookS l fl n s.1 s.2 acc) i l.trains.length acc0 = some (costF l q, q)) ∧
          (∀ j s q, i ≤ j → j < l.trains.length → kid l p last j = some s → Reach l n s.1 s.2 q → leA l (foldF (fun i acc => match kid l p last i with | none => acc | some s => lookS l fl n s.1 s.2 acc) i l.trains.length acc0) q) ∧
          (∀ q, leA l acc0 q → leA l (foldF (fun i acc => match kid l p last i with | none => acc | some s => lookS l fl n s.1 s.2 acc) i l.trains.length acc0) q) := by
        intro d
        induction d with
        | zero =>
          intro i acc0 hd
          rw [foldF_end _ (by omega)]
          exact ⟨Or.inl rfl, fun j s q h1 h2 => by omega, fun q hq => hq⟩
        | succ d ihd =>
          intro i acc0 hd
          have hi : i < l.trains.length := by omega
          rw [foldF_at _ hi]
          cases hs : kid l p last i with
          | none =>
            simp only []
            obtain ⟨r1, r2, r3⟩ := ihd (i + 1) acc0 (by omega)
            refine ⟨r1, fun j s q h1 h2 h3 h4 => ?_, r3⟩
            by_cases e : i = j
            · subst e; rw [hs] at h3; cases h3
            · exact r2 j s q (by omega) h2 h3 h4
          | some s0 =>
            simp only []
            obtain ⟨g1, g2, g3⟩ := hk i hi s0 hs
            obtain ⟨a1, a2, a3⟩ := ih s0.1 s0.2 g1 g2 (by omega) g3 acc0
            obtain ⟨r1, r2, r3⟩ := ihd (i + 1) (lookS l fl n s0.1 s0.2 acc0) (by omega)
            refine ⟨?_, fun j s q h1 h2 h3 h4 => ?_, fun q hq => r3 q (a3 q hq)⟩
            · rcases r1 with r1 | r1
              · rw [r1]
                rcases a1 with a1 | ⟨q, b1, b2⟩
                · exact Or.inl a1
                · exact Or.inr ⟨q, ⟨i, s0, hi, hs, b1⟩, b2⟩
              · exact Or.inr r1
            · by_cases e : i = j
              · subst e
                rw [hs] at h3
                obtain rfl : s0 = s := by simpa using h3
                exact r3 q (a2 q h4)
              · exact r2 j s q (by omega) h2 h3 h4
      obtain ⟨r1, r2, r3⟩ := main _ 0 acc rfl
      refine ⟨r1, fun q hq => ?_, r3⟩
      obtain ⟨i, s, hi, hs, hr⟩ := hq
      exact r2 i s q (Nat.zero_le _) hi hs hr
theorem argmin {P : Nat → Prop} {f : Nat → Int} : ∀ (N : Nat), (∃ i, i < N ∧ P i) → ∃ i, i < N ∧ P i ∧ ∀ j, j < N → P j → f i < f j ∨ (f i = f j ∧ i ≤ j) := by
  intro N
  induction N with
  | zero => rintro ⟨i, hi, _⟩; omega
  | succ N ih =>
    rintro ⟨i, hi, hP⟩
    by_cases e : ∃ i, i < N ∧ P i
    · obtain ⟨i0, h1, h2, h3⟩ := ih e
      by_cases c : P N ∧ f N < f i0
      · refine ⟨N, by omega, c.1, fun j hj hPj => ?_⟩
        by_cases e2 : j = N
        · subst e2; exact Or.inr ⟨rfl, Nat.le_refl _⟩
        · have := h3 j (by omega) hPj; omega
      · refine ⟨i0, by omega, h2, fun j hj hPj => ?_⟩
        by_cases e2 : j = N
        · subst e2
          have : ¬ f j < f i0 := fun h => c ⟨hPj, h⟩
          omega
        · exact h3 j (by omega) hPj
    · have hiN : i = N := by
        by_cases c : i = N
        · exact c
        · exact absurd ⟨i, by omega, hP⟩ e
      subst hiN
      refine ⟨i, by omega, hP, fun j hj hPj => ?_⟩
      by_cases c : j = i
      · subst c; exact Or.inr ⟨rfl, Nat.le_refl _⟩
      · exact absurd ⟨j, by omega, hPj⟩ e
theorem own_reach {l : Line} {p : List (List Int)} (C : Can l p) : ∀ (n : Nat) (q : List (List Int)) (last : Int), Along l p q last → (n : Int) = remain l q → ∃ r, Reach l n q last r ∧ ∀ i k, i < l.trains.length → k < (l.tr i).legs.length → st r i k ≤ st p i k := by
  intro n
  induction n with
  | zero =>
    intro q last A hn
    have hf := remain_zero A.good hn.symm
    exact ⟨q, rfl, fun i k hi hk => A.le i k hi (by rw [hf i hi]; exact hk)⟩
  | succ n ih =>
    intro q last A hn
    obtain ⟨i, hi, hk, hmin⟩ := argmin (P := fun i => (q.getD i []).length < (l.tr i).legs.length) (f := fun i => st p i (q.getD i []).length) l.trains.length (remain_pos A.good (by omega))
    have hip : i < q.length := by rw [A.good.rows]; exact hi
    obtain ⟨t, ht, _, A2⟩ := A.step C hi hk hmin
    obtain ⟨r, hr, hle⟩ := ih (put q i t) t A2 (by rw [remain_put hip hi, ← hn]; omega)
    exact ⟨r, ⟨i, _, hi, by unfold kid; rw [if_pos hk, ht]; rfl, hr⟩, hle⟩
theorem costF_le {l : Line} {r p : List (List Int)} (O : Ok l) (hr : ∀ i, i < l.trains.length → (r.getD i []).length = (l.tr i).legs.length) (hp : ∀ i, i < l.trains.length → (p.getD i []).length = (l.tr i).legs.length) (h : ∀ i k, i < l.trains.length → k < (l.tr i).legs.length → st r i k ≤ st p i k) : costF l r ≤ costF l p := by
  refine sumF_le fun i _ hi => lateT_mono (O.train i _ (Line.tr_at hi)) ?_
  have hn := O.bd.nl1 i hi
  unfold arrT
  rw [hr i hi, hp i hi]
  have := h i ((l.tr i).legs.length - 1) hi (by omega)
  omega
def legsAll (l : Line) : Nat := (remain l (List.replicate l.trains.length [])).toNat
def solveA (l : Line) (fl : Int → Int) : Acc := lookS l fl (legsAll l) (List.replicate l.trains.length []) 0 none
theorem remain_start (l : Line) : remain l (List.replicate l.trains.length []) = sumF (fun i => ((l.tr i).legs.length : Int)) 0 l.trains.length := by
  unfold remain
  exact sumF_congr fun i _ _ => by rw [getD_replicate_nil]; simp
theorem solve_some {l : Line} (O : Ok l) (h10 : sumF (fun i => ((l.tr i).legs.length : Int)) 0 l.trains.length ≤ 10) {fl : Int → Int} (hfl : ∀ x, 0 ≤ x → fl x ≤ x) {c : Int} {b : List (List Int)} (h : solveA l fl = some (c, b)) : Can l b ∧ c = costF l b ∧ ∀ p, Can l p → leA l (some (c, b)) p := by
  have h0 : 0 ≤ remain l (List.replicate l.trains.length []) := by
    rw [remain_start]
    exact (sumF_bd (b := 10000) fun i _ hi => by have := O.bd.nl1 i hi; omega).1
  have hn : (legsAll l : Int) = remain l (List.replicate l.trains.length []) := by unfold legsAll; omega
  have hle : legsAll l ≤ 10 := by rw [remain_start] at hn; omega
  obtain ⟨a1, a2, a3⟩ := look_ok O hfl (legsAll l) _ 0 (Good.start l) hn hle (by omega) none
  have ha : lookS l fl (legsAll l) (List.replicate l.trains.length []) 0 none = some (c, b) := h
  rw [ha] at a1 a2 a3
  rcases a1 with a1 | ⟨q, hq, e⟩
  · cases a1
  · simp only [Option.some.injEq, Prod.mk.injEq] at e
    obtain ⟨rfl, rfl⟩ := e
    obtain ⟨⟨last', G, hl⟩, q2, _, _⟩ := reach_ok O (legsAll l) _ 0 (Good.start l) hn hle (by omega) b hq
    refine ⟨G.can' O q2 (by omega), rfl, fun p C => ?_⟩
    obtain ⟨r, hr, hle'⟩ := own_reach C (legsAll l) _ 0 (Along.start C) hn
    obtain ⟨_, r2, _, _⟩ := reach_ok O (legsAll l) _ 0 (Good.start l) hn hle (by omega) r hr
    have h1 := a2 r hr
    have h2 := costF_le O r2 (fun i hi => C.fits.row hi) hle'
    have h3 := cmpP_le hle'
    simp only [leA] at h1 ⊢
    rcases h1 with h1 | ⟨h1, h4⟩
    · exact Or.inl (by omega)
    · by_cases e : costF l b < costF l p
      · exact Or.inl e
      · exact Or.inr ⟨by omega, (cmpP_trans l b r p h4 h3).1⟩
theorem solve_none {l : Line} (O : Ok l) (h10 : sumF (fun i => ((l.tr i).legs.length : Int)) 0 l.trains.length ≤ 10) {fl : Int → Int} (hfl : ∀ x, 0 ≤ x → fl x ≤ x) (h : solveA l fl = none) (p : List (List Int)) : ¬ Can l p := by
  intro C
  have h0 : 0 ≤ remain l (List.replicate l.trains.length []) := by
    rw [remain_start]
    exact (sumF_bd (b := 10000) fun i _ hi => by have := O.bd.nl1 i hi; omega).1
  have hn : (legsAll l : Int) = remain l (List.replicate l.trains.length []) := by unfold legsAll; omega
  have hle : legsAll l ≤ 10 := by rw [remain_start] at hn; omega
  obtain ⟨a1, a2, a3⟩ := look_ok O hfl (legsAll l) _ 0 (Good.start l) hn hle (by omega) none
  obtain ⟨r, hr, _⟩ := own_reach C (legsAll l) _ 0 (Along.start C) hn
  have := a2 r hr
  have ha : lookS l fl (legsAll l) (List.replicate l.trains.length []) 0 none = none := h
  rw [ha] at this
  exact this
/-- Both ways of leaving out what costs too much find the same. -/
theorem solve_same {l : Line} (O : Ok l) (h10 : sumF (fun i => ((l.tr i).legs.length : Int)) 0 l.trains.length ≤ 10) {fl fl' : Int → Int} (hfl : ∀ x, 0 ≤ x → fl x ≤ x) (hfl' : ∀ x, 0 ≤ x → fl' x ≤ x) : solveA l fl = solveA l fl' := by
  cases h : solveA l fl with
  | none =>
    cases h' : solveA l fl' with
    | none => rfl
    | some cb => exact absurd (solve_some O h10 hfl' h').1 (solve_none O h10 hfl h _)
  | some cb =>
    obtain ⟨c, b⟩ := cb
    cases h' : solveA l fl' with
    | none => exact absurd (solve_some O h10 hfl h).1 (solve_none O h10 hfl' h' _)
    | some cb' =>
      obtain ⟨c', b'⟩ := cb'
      obtain ⟨C, e, m⟩ := solve_some O h10 hfl h
      obtain ⟨C', e', m'⟩ := solve_some O h10 hfl' h'
      have h1 := m b' C'
      have h2 := m' b C
      simp only [leA, ← e, ← e'] at h1 h2
      have hc : c = c' := by omega
      subst hc
      have h3 : cmpP l b b' ≠ .gt := by
        rcases h1 with h1 | h1
        · omega
        · exact h1.2
      have h4 : cmpP l b' b ≠ .gt := by
        rcases h2 with h2 | h2
        · omega
        · exact h2.2
      rw [cmpP_swap l b b'] at h4
      have h5 : cmpP l b b' = .eq := by
        revert h3 h4
        cases cmpP l b b' <;> simp
      rw [plan_ext C.fits C'.fits (cmpP_eq.1 h5)]
end Go.Proofs.Ythhkbfjolmgloaa
namespace Go.Proofs.Ythhkbfjolmgloaa
open Go.RowKit
set_option linter.unusedVariables false
set_option linter.unusedSimpArgs false
abbrev PlR := (Int × Int) × List (List Int)
def placeS (l : Line) : Nat → List Int → List (List Int) → Int → PlR
  | k, [], p, _ => ((0, k), p)
  | k, i :: is, p, last =>
    if 0 ≤ i ∧ i.toNat < l.trains.length ∧ (p.getD i.toNat []).length < (l.tr i.toNat).legs.length then
      match stepT l p last i.toNat with
      | none => ((3, k), [])
      | some t => placeS l (k + 1) is (put p i.toNat t) t
    else ((2, k), [])
theorem placeS_end {l : Line} {order : List Int} {k : Nat} {p : List (List Int)} {last : Int} (h : order.length ≤ k) : placeS l k (order.drop k) p last = (((0, k), p) : PlR) := by
  rw [drop_end h]; rfl
theorem placeS_two {l : Line} {order : List Int} {k : Nat} {p : List (List Int)} {last i : Int} (h : order[k]? = some i) (hi : ¬ (0 ≤ i ∧ i.toNat < l.trains.length ∧ (p.getD i.toNat []).length < (l.tr i.toNat).legs.length)) : placeS l k (order.drop k) p last = (((2, k), []) : PlR) := by
  rw [drop_some h, placeS, if_neg hi]
theorem placeS_three {l : Line} {order : List Int} {k : Nat} {p : List (List Int)} {last i : Int} (h : order[k]? = some i) (hi : 0 ≤ i ∧ i.toNat < l.trains.length ∧ (p.getD i.toNat []).length < (l.tr i.toNat).legs.length) (ht : stepT l p last i.toNat = none) : placeS l k (order.drop k) p last = (((3, k), []) : PlR) := by
  rw [drop_some h, placeS, if_pos hi, ht]
theorem placeS_go {l : Line} {order : List Int} {k : Nat} {p : List (List Int)} {last i t : Int} (h : order[k]? = some i) (hi : 0 ≤ i ∧ i.toNat < l.trains.length ∧ (p.getD i.toNat []).length < (l.tr i.toNat).legs.length) (ht : stepT l p last i.toNat = some t) : placeS l k (order.drop k) p last = placeS l (k + 1) (order.drop (k + 1)) (put p i.toNat t) t := by
  rw [drop_some h, placeS, if_pos hi, ht]
/-- What placing an order gives: the plan, or why and where it has none. -/
def placeA (l : Line) (order : List Int) : PlR :=
  if right l = true ∧ order.length ≤ 10 then
    if (placeS l 0 order (List.replicate l.trains.length []) 0).1.1 = 0 then
      if order.length = legsAll l then ((0, 0), (placeS l 0 order (List.replicate l.trains.length []) 0).2)
      else ((4, order.length), [])
    else ((placeS l 0 order (List.replicate l.trains.length []) 0).1, [])
  else ((1, 0), [])
/-- So far along an order. -/
structure Placing (l : Line) (order : List Int) (k : Nat) (p : List (List Int)) (last : Int) : Prop where
  good : Good l p last
  left : remain l p = legsAll l - k
  le : k ≤ order.length
  last_le : last ≤ 100000 + 20000 * k
  rest : placeS l 0 order (List.replicate l.trains.length []) 0 = placeS l k (order.drop k) p last
theorem legsAll_eq (l : Line) : (legsAll l : Int) = remain l (List.replicate l.trains.length []) := by
  unfold legsAll
  have : 0 ≤ remain l (List.replicate l.trains.length []) := by
    rw [remain_start]
    exact (sumF_bd (b := (legsN l.trains : Int)) fun j h1 h2 => ⟨by omega, by have := legsN_le (Line.tr_at h2); omega⟩).1
  omega
theorem Placing.start (l : Line) (order : List Int) : Placing l order 0 (List.replicate l.trains.length []) 0 where
  good := Good.start l
  left := by rw [legsAll_eq]; omega
  le := Nat.zero_le _
  last_le := by omega
  rest := by simp
theorem Placing.step {l : Line} {order : List Int} {k : Nat} {p : List (List Int)} {last i t : Int} (O : Ok l) (P : Placing l order k p last) (h10 : order.length ≤ 10) (h : order[k]? = some i) (hi : 0 ≤ i ∧ i.toNat < l.trains.length ∧ (p.getD i.toNat []).length < (l.tr i.toNat).legs.length) (ht : stepT l p last i.toNat = some t) : Placing l order (k + 1) (put p i.toNat t) t := by
  have hk := lt_of_some h
  have hl := P.last_le
  have hs := stepT_ok O P.good hi.2.1 hi.2.2 (by omega) ht
  refine ⟨P.good.step O hi.2.1 hi.2.2 (by omega) ht, ?_, by omega, by omega, by rw [P.rest, placeS_go h hi ht]⟩
  rw [remain_put (by rw [P.good.rows]; exact hi.2.1) hi.2.1, P.left]; omega
theorem Placing.full {l : Line} {order : List Int} {p : List (List Int)} {last : Int} (P : Placing l order order.length p last) : order.length = legsAll l ↔ ∀ i, i < l.trains.length → (p.getD i []).length = (l.tr i).legs.length := by
  constructor
  · intro h
    exact remain_zero P.good (by rw [P.left, h]; omega)
  · intro h
    have h0 : remain l p = 0 := sumF_zero fun j _ hj => by rw [h j hj]; omega
    have := P.left
    omega
theorem Placing.done {l : Line} {order : List Int} {p : List (List Int)} {last : Int} (P : Placing l order order.length p last) (hr : right l = true) (h10 : order.length ≤ 10) : placeA l order = (if order.length = legsAll l then ((0, 0), p) else ((4, order.length), []) : PlR) := by
  have e : placeS l 0 order (List.replicate l.trains.length []) 0 = (((0, order.length), p) : PlR) := by rw [P.rest, placeS_end (Nat.le_refl _)]
  unfold placeA
  rw [if_pos ⟨hr, h10⟩, e, if_pos rfl]
theorem Placing.stop {l : Line} {order : List Int} {k : Nat} {p : List (List Int)} {last c : Int} (P : Placing l order k p last) (hr : right l = true) (h10 : order.length ≤ 10) (h : placeS l k (order.drop k) p last = (((c, k), []) : PlR)) (hc : c ≠ 0) : placeA l order = (((c, k), []) : PlR) := by
  unfold placeA
  rw [if_pos ⟨hr, h10⟩, P.rest, h, if_neg hc]
theorem placeA_one {l : Line} {order : List Int} (h : ¬ (right l = true ∧ order.length ≤ 10)) : placeA l order = (((1, 0), []) : PlR) := by
  unfold placeA
  rw [if_neg h]
end Go.Proofs.Ythhkbfjolmgloaa
namespace Go.Proofs.Ythhkbfjolmgloaa
open Go.RowKit
set_option linter.unusedVariables false
set_option linter.unusedSimpArgs false
/-! ### The legs that are left -/
def rowL (p : List (List Int)) (i k c : Nat) : List (Int × Int) := (List.range' k c).map fun k => (st p i k, (i : Int))
def restN (f : Nat → List (Int × Int)) : Nat → Nat → List (Int × Int)
  | _, 0 => []
  | i, c + 1 => f i ++ restN f (i + 1) c
def restL (l : Line) (p : List (List Int)) (nx : List Nat) : List (Int × Int) := restN (fun i => rowL p i (nx.getD i 0) ((l.tr i).legs.length - nx.getD i 0)) 0 l.trains.length
theorem restN_congr {f g : Nat → List (Int × Int)} {i c : Nat} (h : ∀ j, i ≤ j → j < i + c → f j = g j) : restN f i c = restN g i c := by
  induction c generalizing i with
  | zero => rfl
  | succ c ih => simp only [restN]; rw [h i (Nat.le_refl _) (by omega), ih fun j h1 h2 => h j (by omega) (by omega)]
theorem restN_pick {f g : Nat → List (Int × Int)} {i c b : Nat} {x : Int × Int} (hi : i ≤ b) (hb : b < i + c) (hx : f b = x :: g b) (h : ∀ j, i ≤ j → j < i + c → j ≠ b → f j = g j) : (restN f i c).Perm (x :: restN g i c) := by
  induction c generalizing i with
  | zero => omega
  | succ c ih =>
    simp only [restN]
    by_cases e : i = b
    · subst e
      rw [hx, restN_congr (f := f) (g := g) fun j h1 h2 => h j (by omega) (by omega) (by omega)]
      exact List.Perm.refl _
    · rw [h i (Nat.le_refl _) (by omega) e]
      exact (List.Perm.append_left _ (ih (by omega) (by omega) fun j h1 h2 h3 => h j (by omega) (by omega) h3)).trans List.perm_middle
theorem mem_restN {f : Nat → List (Int × Int)} {i c : Nat} {x : Int × Int} : x ∈ restN f i c ↔ ∃ j, i ≤ j ∧ j < i + c ∧ x ∈ f j := by
  induction c generalizing i with
  | zero => simp only [restN, List.not_mem_nil, false_iff]; rintro ⟨j, h1, h2, _⟩; omega
  | succ c ih =>
    simp only [restN, List.mem_append, ih]
    constructor
    · rintro (h | ⟨j, h1, h2, h3⟩)
      · exact ⟨i, Nat.le_refl _, by omega, h⟩
      · exact ⟨j, by omega, by omega, h3⟩
    · rintro ⟨j, h1, h2, h3⟩
      by_cases e : i = j
      · subst e; exact Or.inl h3
      · exact Or.inr ⟨j, by omega, by omega, h3⟩
theorem mem_restL {l : Line} {p : List (List Int)} {nx : List Nat} {x : Int × Int} (h : x ∈ restL l p nx) : ∃ i k, i < l.trains.length ∧ nx.getD i 0 ≤ k ∧ k < (l.tr i).legs.length ∧ x = (st p i k, (i : Int)) := by
  obtain ⟨i, _, hi, hx⟩ := mem_restN.1 h
  simp only [rowL, List.mem_map, List.mem_range'_1] at hx
  obtain ⟨k, ⟨h1, h2⟩, rfl⟩ := hx
  exact ⟨i, k, by omega, h1, by omega, rfl⟩
/-! ### Picking -/
def bestF (l : Line) (p : List (List Int)) (nx : List Nat) : Int := foldF (fun i b => if nx.getD i 0 < (l.tr i).legs.length ∧ (b < 0 ∨ st p i (nx.getD i 0) < st p b.toNat (nx.getD b.toNat 0)) then (i : Int) else b) 0 l.trains.length (-1)
theorem bestF_spec {l : Line} {p : List (List Int)} {nx : List Nat} (h : ∃ i, i < l.trains.length ∧ nx.getD i 0 < (l.tr i).legs.length) : ∃ b : Nat, bestF l p nx = b ∧ b < l.trains.length ∧ nx.getD b 0 < (l.tr b).legs.length ∧ ∀ j, j < l.trains.length → nx.getD j 0 < (l.tr j).legs.length → st p b (nx.getD b 0) < st p j (nx.getD j 0) ∨ (st p b (nx.getD b 0) = st p j (nx.getD j 0) ∧ b ≤ j) := by
  have key := foldF_inv' (α := Int) (P := fun (i : Nat) (b : Int) => (b = -1 ∧ ∀ j, j < i → ¬ nx.getD j 0 < (l.tr j).legs.length) ∨ ∃ c : Nat, b = c ∧ c < i ∧ nx.getD c 0 < (l.tr c).legs.length ∧ ∀ j, j < i → nx.getD j 0 < (l.tr j).legs.length → st p c (nx.getD c 0) < st p j (nx.getD j 0) ∨ (st p c (nx.getD c 0) = st p j (nx.getD j 0) ∧ c ≤ j))
    (f := fun (i : Nat) (b : Int) => if nx.getD i 0 < (l.tr i).legs.length ∧ (b < 0 ∨ st p i (nx.getD i 0) < st p b.toNat (nx.getD b.toNat 0)) then (i : Int) else b) (i := 0) (n := l.trains.length) (a := -1) (Nat.zero_le _) (fun i b _ hi hb => ?_) (Or.inl ⟨rfl, fun j hj => by omega⟩)
  · unfold bestF
    rcases key with ⟨h1, h2⟩ | ⟨c, h1, h2, h3, h4⟩
    · obtain ⟨i, hi, hk⟩ := h
      exact absurd hk (h2 i hi)
    · exact ⟨c, h1, h2, h3, h4⟩
  · by_cases c0 : nx.getD i 0 < (l.tr i).legs.length ∧ (b < 0 ∨ st p i (nx.getD i 0) < st p b.toNat (nx.getD b.toNat 0))
    · rw [if_pos c0]
      refine Or.inr ⟨i, rfl, by omega, c0.1, fun j hj hjk => ?_⟩
      by_cases e : j = i
      · subst e; exact Or.inr ⟨rfl, Nat.le_refl _⟩
      · rcases hb with ⟨h1, h2⟩ | ⟨c, h1, h2, h3, h4⟩
        · exact absurd hjk (h2 j (by omega))
        · subst h1
          rcases c0.2 with q | q
          · omega
          · simp only [Int.toNat_natCast] at q
            have := h4 j (by omega) hjk
            omega
    · rw [if_neg c0]
      rcases hb with ⟨h1, h2⟩ | ⟨c, h1, h2, h3, h4⟩
      · refine Or.inl ⟨h1, fun j hj hjk => ?_⟩
        by_cases e : j = i
        · subst e; exact c0 ⟨hjk, Or.inl (by omega)⟩
        · exact h2 j (by omega) hjk
      · refine Or.inr ⟨c, h1, by omega, h3, fun j hj hjk => ?_⟩
        by_cases e : j = i
        · subst e
          subst h1
          by_cases q : st p j (nx.getD j 0) < st p c (nx.getD c 0)
          · exact absurd ⟨hjk, Or.inr (by simpa using q)⟩ c0
          · by_cases q2 : st p c (nx.getD c 0) = st p j (nx.getD j 0)
            · exact Or.inr ⟨q2, by omega⟩
            · exact Or.inl (by omega)
        · exact h4 j (by omega) hjk
def bump (nx : List Nat) (b : Nat) : List Nat := nx.set b (nx.getD b 0 + 1)
def orderS (l : Line) (p : List (List Int)) : Nat → List Nat → List Int → List Int
  | 0, _, acc => acc
  | f + 1, nx, acc => orderS l p f (bump nx (bestF l p nx).toNat) (acc ++ [bestF l p nx])
def leP (x y : Int × Int) : Prop := x.1 < y.1 ∨ (x.1 = y.1 ∧ x.2 ≤ y.2)
theorem bump_get {nx : List Nat} {b : Nat} (hb : b < nx.length) (j : Nat) : (bump nx b).getD j 0 = if j = b then nx.getD b 0 + 1 else nx.getD j 0 := by
  unfold bump
  by_cases e : j = b
  · subst e; simp [List.getD_eq_getElem?_getD, hb]
  · simp [List.getD_eq_getElem?_getD, List.getElem?_set, Ne.symm e, e]
/-- Picking gives the trains of the legs that are left, in their order. -/
theorem orderS_sorted {l : Line} {p : List (List Int)} (C : Can l p) : ∀ (f : Nat) (nx : List Nat) (acc : List Int) (S : List (Int × Int)), nx.length = l.trains.length → (∀ i, i < l.trains.length → nx.getD i 0 ≤ (l.tr i).legs.length) → S.Perm (restL l p nx) → S.Pairwise leP → S.length = f → orderS l p f nx acc = acc ++ S.map (·.2) := by
  intro f
  induction f with
  | zero =>
    intro nx acc S _ _ _ _ hf
    obtain rfl := List.eq_nil_of_length_eq_zero hf
    simp [orderS]
  | succ f ih =>
    intro nx acc S hn hle hp hs hf
    cases S with
    | nil => simp at hf
    | cons x S =>
      have hx := hp.subset List.mem_cons_self
      obtain ⟨i, k, hi, hk1, hk2, rfl⟩ := mem_restL hx
      obtain ⟨b, hb, hbn, hbk, hmin⟩ := bestF_spec (p := p) (nx := nx) ⟨i, hi, by omega⟩
      have hpk : (restL l p nx).Perm ((st p b (nx.getD b 0), (b : Int)) :: restL l p (bump nx b)) := by
        refine restN_pick (b := b) (Nat.zero_le _) (by omega) ?_ (fun j _ hj hjb => ?_)
        · rw [bump_get (by omega), if_pos rfl]
          obtain ⟨c, hc⟩ : ∃ c, (l.tr b).legs.length - nx.getD b 0 = c + 1 := ⟨(l.tr b).legs.length - nx.getD b 0 - 1, by omega⟩
          rw [hc, show (l.tr b).legs.length - (nx.getD b 0 + 1) = c by omega]
          simp only [rowL, List.range'_succ, List.map_cons]
        · rw [bump_get (by omega), if_neg hjb]
      -- the head is the least
      have hmem : (st p b (nx.getD b 0), (b : Int)) ∈ ((st p i k, (i : Int)) :: S) := hp.symm.subset (hpk.symm.subset List.mem_cons_self)
      have hrow : st p i (nx.getD i 0) ≤ st p i k ∧ (st p i (nx.getD i 0) = st p i k → nx.getD i 0 = k) := by
        have mono : ∀ d, nx.getD i 0 + d < (l.tr i).legs.length → st p i (nx.getD i 0) + d ≤ st p i (nx.getD i 0 + d) := by
          intro d
          induction d with
          | zero => intro _; simp
          | succ d ihd =>
            intro hd
            have h1 := ihd (by omega)
            have h2 := C.row_lt (i := i) (k := nx.getD i 0 + d) hi (by omega)
            rw [show nx.getD i 0 + (d + 1) = nx.getD i 0 + d + 1 by omega]
            omega
        have := mono (k - nx.getD i 0) (by omega)
        rw [show nx.getD i 0 + (k - nx.getD i 0) = k by omega] at this
        omega
      have heq : (st p i k, (i : Int)) = (st p b (nx.getD b 0), (b : Int)) := by
        rcases List.mem_cons.1 hmem with h | h
        · exact h.symm
        · have h1 := (List.pairwise_cons.1 hs).1 _ h
          have h2 := hmin i hi (by omega)
          unfold leP at h1
          simp only at h1
          have e1 : st p i k = st p b (nx.getD b 0) := by omega
          have e2 : i = b := by omega
          rw [e1, e2]
      rw [heq] at hp hs ⊢
      have hS : S.Perm (restL l p (bump nx b)) := (List.perm_cons _).1 (hp.trans hpk)
      simp only [orderS, hb, Int.toNat_natCast, List.map_cons]
      rw [ih (bump nx b) (acc ++ [(b : Int)]) S (by simp [bump, hn]) (fun j hj => by rw [bump_get (by omega)]; by_cases e : j = b; (subst e; rw [if_pos rfl]; omega); (rw [if_neg e]; exact hle j hj)) hS (List.pairwise_cons.1 hs).2 (by simpa using hf)]
      simp
end Go.Proofs.Ythhkbfjolmgloaa
namespace Go.Proofs.Ythhkbfjolmgloaa
open Go.RowKit
set_option linter.unusedVariables false
set_option linter.unusedSimpArgs false
def cmpV (x y : Int × Int) : Int := if x.1 ≠ y.1 then x.1 - y.1 else x.2 - y.2
theorem cmpV_neg {x y : Int × Int} : cmpV x y < 0 ↔ ¬ leP y x := by
  unfold cmpV leP
  by_cases h : x.1 = y.1
  · rw [if_neg (by simp [h])]; omega
  · rw [if_pos h]; omega
def pairV (x : Int × Int) : Value := .agg #[.int .i64 x.1, .int .i64 x.2]
set_option maxRecDepth 100000 in
set_option maxHeartbeats 1000000 in
theorem orderCmp_any (x y : Int × Int) (hx : 0 ≤ x.1 ∧ x.1 ≤ 1099511627776 ∧ 0 ≤ x.2 ∧ x.2 ≤ 1099511627776) (hy : 0 ≤ y.1 ∧ y.1 ≤ 1099511627776 ∧ 0 ≤ y.2 ∧ y.2 ≤ 1099511627776) (w : World) :
    Calls Try.prog 118 #[.agg #[.int .i64 x.1, .int .i64 x.2], .agg #[.int .i64 y.1, .int .i64 y.2]] w fun e w' => e = .returned (.int .i64 (cmpV x y)) ∧ Ext w w' := by
  obtain ⟨x1, x2⟩ := x
  obtain ⟨y1, y2⟩ := y
  simp only at hx hy ⊢
  by_cases h : x1 = y1
  · have hV : Hid (cmpV (x1, x2) (y1, y2) = x2 - y2) := by simp [Hid, cmpV, h]
    have h' : (x1 != y1) = false := by simp [h]
    clear h
    go_enter Try.func118, Try.ntmps118
    go_wp2_with fail
    go_ret
    exact ⟨ret_i64 hV.out.symm, (by repeat (first | (with_reducible assumption) | (with_reducible exact Ext.refl _) | apply Ext.alloc | apply Ext.drewN | apply Ext.drew))⟩
  · have hV : Hid (cmpV (x1, x2) (y1, y2) = x1 - y1) := by simp [Hid, cmpV, h]
    have h' : (x1 != y1) = true := by simp [h]
    clear h
    go_enter Try.func118, Try.ntmps118
    go_wp2_with fail
    go_ret
    exact ⟨ret_i64 hV.out.symm, (by repeat (first | (with_reducible assumption) | (with_reducible exact Ext.refl _) | apply Ext.alloc | apply Ext.drewN | apply Ext.drew))⟩
/-- Pairs lie in a row of cells. -/
def PairsAt (cs : Array Value) (d : List (Int × Int)) : Prop := d.length * 2 ≤ cs.size ∧ ∀ j, j < d.length → cs[j * 2]? = some (.int .i64 (d.getD j (0, 0)).1) ∧ cs[j * 2 + 1]? = some (.int .i64 (d.getD j (0, 0)).2)
theorem leP_total (x y : Int × Int) : leP x y ∨ leP y x := by unfold leP; omega
theorem leP_trans {x y z : Int × Int} (h1 : leP x y) (h2 : leP y z) : leP x z := by unfold leP at *; omega
def at2 (d : List (Int × Int)) (j : Nat) : Int × Int := d.getD j (0, 0)
def swap2 (d : List (Int × Int)) (j : Nat) : List (Int × Int) := (d.set j (at2 d (j - 1))).set (j - 1) (at2 d j)
theorem swap2_len (d : List (Int × Int)) (j : Nat) : (swap2 d j).length = d.length := by simp [swap2]
theorem at2_get {d : List (Int × Int)} {j : Nat} (h : j < d.length) : at2 d j = d[j] := by simp [at2, List.getD_eq_getElem?_getD, h]
theorem swap2_perm {d : List (Int × Int)} {j : Nat} (h : j < d.length) : (swap2 d j).Perm d := by
  have h1 : j - 1 < d.length := by omega
  unfold swap2
  rw [at2_get h, at2_get h1]
  exact List.set_set_perm h h1
theorem swap2_at {d : List (Int × Int)} {j : Nat} (h0 : 0 < j) (h : j < d.length) (q : Nat) : at2 (swap2 d j) q = if q = j then at2 d (j - 1) else if q = j - 1 then at2 d j else at2 d q := by
  have h1 : j - 1 < d.length := by omega
  unfold swap2
  generalize hx : at2 d (j - 1) = x
  generalize hy : at2 d j = y
  unfold at2
  simp only [List.getD_eq_getElem?_getD, List.getElem?_set, List.length_set]
  by_cases e1 : q = j
  · subst e1
    rw [if_neg (by omega), if_pos rfl, if_pos h, if_pos rfl]; rfl
  · rw [if_neg e1]
    by_cases e2 : q = j - 1
    · subst e2
      rw [if_pos rfl, if_pos h1, if_pos rfl]; rfl
    · rw [if_neg (Ne.symm e2), if_neg (Ne.symm e1), if_neg e2]
/-- Sorted up to i. -/
def SortedTo (d : List (Int × Int)) (i : Nat) : Prop := ∀ p q, p < q → q < i → leP (at2 d p) (at2 d q)
/-- Sorted up to i but for place j, whose pair belongs ahead of all behind it. -/
def SortedBut (d : List (Int × Int)) (i j : Nat) : Prop := (∀ p q, p < q → q < i → p ≠ j → q ≠ j → leP (at2 d p) (at2 d q)) ∧ ∀ q, j < q → q < i → leP (at2 d j) (at2 d q)
theorem SortedTo.but {d : List (Int × Int)} {i : Nat} (h : SortedTo d i) : SortedBut d (i + 1) i := ⟨fun p q h1 h2 h3 h4 => h p q h1 (by omega), fun q h1 h2 => by omega⟩
theorem SortedBut.done {d : List (Int × Int)} {i j : Nat} (h : SortedBut d i j) (hj : j < i) (h0 : j = 0 ∨ leP (at2 d (j - 1)) (at2 d j)) : SortedTo d i := by
  intro p q h1 h2
  by_cases e : q = j
  · subst e
    rcases h0 with h0 | h0
    · omega
    · by_cases e2 : p = q - 1
      · subst e2; exact h0
      · exact leP_trans (h.1 p (q - 1) (by omega) (by omega) (by omega) (by omega)) h0
  · by_cases e2 : p = j
    · subst e2; exact h.2 q h1 h2
    · exact h.1 p q h1 h2 e2 e
theorem SortedBut.swap {d : List (Int × Int)} {i j : Nat} (h : SortedBut d i j) (hj0 : 0 < j) (hj : j < i) (hi : i ≤ d.length) (hlt : ¬ leP (at2 d (j - 1)) (at2 d j)) : SortedBut (swap2 d j) i (j - 1) := by
  have hle : leP (at2 d j) (at2 d (j - 1)) := by
    rcases leP_total (at2 d (j - 1)) (at2 d j) with q | q
    · exact absurd q hlt
    · exact q
  have hjd : j < d.length := by omega
  refine ⟨fun p q h1 h2 h3 h4 => ?_, fun q h1 h2 => ?_⟩
  · rw [swap2_at hj0 hjd, swap2_at hj0 hjd, if_neg h3, if_neg h4]
    by_cases e1 : p = j
    · rw [if_pos e1, if_neg (by omega)]
      exact h.1 (j - 1) q (by omega) h2 (by omega) (by omega)
    · rw [if_neg e1]
      by_cases e2 : q = j
      · rw [if_pos e2]
        exact h.1 p (j - 1) (by omega) (by omega) e1 (by omega)
      · rw [if_neg e2]
        exact h.1 p q h1 h2 e1 e2
  · rw [swap2_at hj0 hjd, swap2_at hj0 hjd, if_neg (by omega : ¬ j - 1 = j), if_pos rfl]
    by_cases e2 : q = j
    · rw [if_pos e2]; exact hle
    · rw [if_neg e2, if_neg (by omega)]
      exact h.2 q (by omega) h2
theorem SortedTo.pairwise {d : List (Int × Int)} (h : SortedTo d d.length) : d.Pairwise leP := by
  rw [List.pairwise_iff_getElem]
  intro i j hi hj hij
  have := h i j hij hj
  rwa [at2_get hi, at2_get hj] at this
end Go.Proofs.Ythhkbfjolmgloaa
namespace Go.Proofs.Ythhkbfjolmgloaa
open Go.RowKit
set_option linter.unusedVariables false
set_option linter.unusedSimpArgs false
def Bd2 (x : Int × Int) : Prop := 0 ≤ x.1 ∧ x.1 ≤ 1099511627776 ∧ 0 ≤ x.2 ∧ x.2 ≤ 1099511627776
abbrev Pr := { x : Int × Int // Bd2 x }
instance : Inhabited Pr := ⟨⟨(0, 0), by unfold Bd2; decide⟩⟩
def encPr (x : Pr) : List Value := [.int .i64 x.1.1, .int .i64 x.1.2]
def cfPr (x y : Pr) : Int := cmpV x.1 y.1
theorem grow2 (w : World) (a b : Obj) : (w.alloc a).alloc b = Go.Sort.grow (w.drewN 0) #[a, b] := by
  rw [Go.Sort.alloc_eq_grow, Go.Sort.alloc_eq_grow, Go.Sort.grow_grow]; rfl
set_option maxRecDepth 100000 in
set_option maxHeartbeats 1000000 in
theorem orderCmp_grown (x y : Int × Int) (hx : Bd2 x) (hy : Bd2 y) (w : World) :
    Calls Try.prog 118 #[.agg #[.int .i64 x.1, .int .i64 x.2], .agg #[.int .i64 y.1, .int .i64 y.2]] w fun e w' => e = .returned (.int .i64 (cmpV x y)) ∧ ∃ q os', w' = Go.Sort.grow (w.drewN q) os' := by
  obtain ⟨x1, x2⟩ := x
  obtain ⟨y1, y2⟩ := y
  unfold Bd2 at hx hy
  simp only at hx hy ⊢
  by_cases h : x1 = y1
  · have hV : Hid (cmpV (x1, x2) (y1, y2) = x2 - y2) := by simp [Hid, cmpV, h]
    have h' : (x1 != y1) = false := by simp [h]
    clear h
    go_enter Try.func118, Try.ntmps118
    go_wp2_with fail
    go_ret
    exact ⟨ret_i64 hV.out.symm, 0, _, grow2 _ _ _⟩
  · have hV : Hid (cmpV (x1, x2) (y1, y2) = x1 - y1) := by simp [Hid, cmpV, h]
    have h' : (x1 != y1) = true := by simp [h]
    clear h
    go_enter Try.func118, Try.ntmps118
    go_wp2_with fail
    go_ret
    exact ⟨ret_i64 hV.out.symm, 0, _, grow2 _ _ _⟩
theorem cmpLays118 (blk off size : Nat) (w : World) : CmpLays Try.prog 118 #[] encPr 2 cfPr blk off size w :=
  fun _ _ _ _ x y => orderCmp_grown x.1 y.1 x.2 y.2 _
theorem swoPr : Go.Sort.SWO (ltOf cfPr) where
  irrefl := fun x => by simp [ltOf, cfPr, cmpV]
  trans := fun x y z h1 h2 => by
    simp only [ltOf, cfPr, decide_eq_true_eq, cmpV_neg, leP] at *
    omega
  ntrans := fun x y z h1 h2 => by
    simp only [ltOf, cfPr, decide_eq_false_iff_not, cmpV_neg, leP, Classical.not_not] at *
    omega
theorem putCells_size {α : Type} [Inhabited α] (enc : α → Value) (off : Nat) (d : Array α) (c : Array Value) : (Go.Sort.putCells enc off d c).size = c.size := by
  simp [Go.Sort.putCells]
theorem mk_putRow {α : Type} [Inhabited α] (enc : α → Value) {w : World} {g off m : Nat} {d : Array α} {os : Array Obj} {cs : Array Value} {t : TypeId} (hb : w.heap[g]? = some (.cells cs t (0, 0))) : Mk g (g + 1) (fun t' => t' = t) w (Go.Sort.grow (Go.Sort.putRow enc (Go.Sort.ahead w m) g off d) os) := by
  have hlt := box_lt hb
  refine ⟨rfl, rfl, rfl, by simp, fun g' o hg' => ?_⟩
  have hlt' := box_lt hg'
  by_cases e : g' = g
  · subst e
    rw [hb] at hg'
    obtain rfl : Obj.cells cs t (0, 0) = o := by simpa using hg'
    refine Or.inr ⟨Nat.le_refl _, by omega, cs, Go.Sort.putCells enc off d cs, t, rfl, rfl, ?_, putCells_size _ _ _ _⟩
    rw [Go.Sort.heap_grow_old _ _ (by simpa using hlt)]
    simp [Go.Sort.putRow, Go.Sort.mapBlock, Array.getElem?_modify, hb, Go.Sort.onCells]
  · refine Or.inl ?_
    rw [Go.Sort.heap_grow_old _ _ (by simpa using hlt')]
    simp [Go.Sort.putRow, Go.Sort.mapBlock, Array.getElem?_modify, Ne.symm e, hg']
def prs (ds : List (Int × Int)) (h : ∀ x, x ∈ ds → Bd2 x) : Array Pr := (ds.pmap (fun x h => (⟨x, h⟩ : Pr)) h).toArray
theorem prs_size (ds : List (Int × Int)) (h : ∀ x, x ∈ ds → Bd2 x) : (prs ds h).size = ds.length := by simp [prs]
theorem prs_at (ds : List (Int × Int)) (h : ∀ x, x ∈ ds → Bd2 x) {j : Nat} (hj : j < ds.length) : (prs ds h)[j]!.1 = ds.getD j (0, 0) := by
  rw [getElem!_pos _ j (by rw [prs_size]; exact hj)]
  simp [prs, List.getElem_pmap, List.getD_eq_getElem?_getD, hj]
theorem prs_list (ds : List (Int × Int)) (h : ∀ x, x ∈ ds → Bd2 x) : (prs ds h).toList.map (·.1) = ds := by
  simp [prs, List.map_pmap]
theorem holds_prs {w : World} {g : Nat} {cs : Array Value} {ds : List (Int × Int)} (h : ∀ x, x ∈ ds → Bd2 x) (hb : w.heap[g]? = some (.cells cs 133 (0, 0))) (hP : PairsAt cs ds) : Go.Sort.HoldsK encPr 2 w g 0 (prs ds h) := by
  intro j hj
  rw [Go.Sort.size_flatK, prs_size] at hj
  rw [Nat.zero_add]
  refine ⟨?_, box_frozen hb j⟩
  rw [box_cell hb, Go.Sort.get_flatK _ _ _ _ (by rw [prs_size]; exact hj)]
  obtain ⟨h0, h1⟩ := hP.2 (j / 2) (by omega)
  have e := prs_at ds h (j := j / 2) (by omega)
  rcases Nat.mod_two_eq_zero_or_one j with q | q
  · rw [q]
    have : cs[j / 2 * 2]? = cs[j]? := by congr 1; omega
    rw [← this, h0, ← e]; rfl
  · rw [q]
    have : cs[j / 2 * 2 + 1]? = cs[j]? := by congr 1; omega
    rw [← this, h1, ← e]; rfl
theorem pairs_of_holds {w : World} {g : Nat} {cs : Array Value} {d : Array Pr} (hb : w.heap[g]? = some (.cells cs 133 (0, 0))) (h : Go.Sort.HoldsK encPr 2 w g 0 d) (hs : d.size * 2 ≤ cs.size) : PairsAt cs (d.toList.map (·.1)) := by
  refine ⟨by simpa using hs, fun j hj => ?_⟩
  have hj' : j < d.size := by simpa using hj
  have h0 := (Go.Sort.HoldsK.cell h hj' (show 0 < 2 by omega)).1
  have h1 := (Go.Sort.HoldsK.cell h hj' (show 1 < 2 by omega)).1
  have e : (d.toList.map (·.1)).getD j (0, 0) = d[j]!.1 := by
    rw [getElem!_pos _ j hj']
    simp [List.getD_eq_getElem?_getD, hj']
  simp only [Nat.zero_add, Nat.add_zero] at h0 h1
  rw [box_cell hb] at h0 h1
  rw [e]
  exact ⟨h0, h1⟩
theorem perm_full {d d' : Array Pr} (h : Go.Sort.PermIn 0 d.size d d') : (d'.toList.map (·.1)).Perm (d.toList.map (·.1)) := by
  obtain ⟨h1, _, h2⟩ := h
  have e1 : d.extract 0 d.size = d := by simp
  have e2 : d'.extract 0 d.size = d' := by rw [← h1]; simp
  rw [e1, e2] at h2
  exact h2.map _
theorem sorted_full {d : Array Pr} {n : Nat} (hn : n = d.size) (h : Go.Sort.SortedIn (ltOf cfPr) 0 n d) : (d.toList.map (·.1)).Pairwise leP := by
  subst hn
  rw [List.pairwise_iff_getElem]
  intro i j hi hj hij
  have hi' : i < d.size := by simpa using hi
  have hj' : j < d.size := by simpa using hj
  have := h i j (Nat.zero_le _) hij hj'
  rw [getElem!_pos _ i hi', getElem!_pos _ j hj'] at this
  have h2 : ¬ cmpV d[j].1 d[i].1 < 0 := of_decide_eq_false this
  rw [cmpV_neg] at h2
  simp only [List.getElem_map, Array.getElem_toList]
  exact Classical.not_not.1 h2
def Sorted133 (g : Nat) (cs : Array Value) (ds : List (Int × Int)) (w w' : World) : Prop :=
  ∃ cs' d', w'.heap[g]? = some (.cells cs' 133 (0, 0)) ∧ PairsAt cs' d' ∧ d'.Perm ds ∧ d'.Pairwise leP ∧ Mk g (g + 1) (fun t => t = 133) w w'
theorem insPairs_any {w : World} {g cap : Nat} {cs : Array Value} {ds : List (Int × Int)} (hb : w.heap[g]? = some (.cells cs 133 (0, 0))) (hP : PairsAt cs ds) (hn : ds.length ≤ 10) (hbd : ∀ x, x ∈ ds → Bd2 x) :
    Calls Try.prog 145 #[.slice (some ⟨g, 0, none⟩) ds.length cap, .int .i64 0, .int .i64 ds.length, .func (.func 118) #[] #[]] w fun e w' => e = .returned (.tuple #[]) ∧ Sorted133 g cs ds w w' := by
  have eg : ∀ args w, (callFunc 118 args).run Try.prog w = .ok (.enter 118 args) w := enters_of Try.func118 (by kernel_rfl) rfl
  have hH := holds_prs hbd hb hP
  have h := Try.insertionSortCmpFunc 2 Try.isAgg133 Try.sizeOf133 encPr (fun _ => rfl) (fun x v hv => by simp [encPr] at hv; rcases hv with rfl | rfl <;> rfl) cfPr 118 #[] g 0 cap 0 ds.length (prs ds hbd) w eg (cmpLays118 _ _ _ _) hH (box_lt hb) (Nat.zero_le _) (by rw [prs_size]; exact Nat.le_refl _) (by rw [prs_size]; omega)
  rw [prs_size] at h
  refine h.mono ?_
  rintro e w' ⟨rfl, n, os, rfl⟩
  refine ⟨rfl, ?_⟩
  have hS := Go.Sort.insertionSort_holds (lt := ltOf cfPr) swoPr (prs ds hbd) 0 (prs ds hbd).size (Nat.zero_le _) (Nat.le_refl _)
  rw [prs_size] at hS
  obtain ⟨hS1, hS2⟩ := hS
  generalize Go.Sort.insertionSort (ltOf cfPr) (prs ds hbd) 0 ds.length = d' at hS1 hS2 ⊢
  have hM : Mk g (g + 1) (fun t => t = 133) w (sortWorldK encPr 2 w g 0 n d' os) := mk_putRow id hb
  obtain ⟨cs', hb', hs'⟩ := hM.row hb
  have hsz : d'.size = (prs ds hbd).size := hS1.1
  have hK := holdsK_sortWorldK_c encPr 2 w g 0 (prs ds hbd) d' n os hH (box_lt hb) hsz
  rw [prs_size] at hsz
  refine ⟨cs', d'.toList.map (·.1), hb', pairs_of_holds hb' hK (by rw [hs', hsz]; exact hP.1), ?_, sorted_full hsz.symm hS2, hM⟩
  have := perm_full (d := prs ds hbd) (d' := d') (by rw [prs_size]; exact hS1)
  rwa [prs_list] at this
set_option maxRecDepth 100000 in
set_option maxHeartbeats 1000000 in
theorem stable_any {w : World} {g cap : Nat} {cs : Array Value} {ds : List (Int × Int)} (hb : w.heap[g]? = some (.cells cs 133 (0, 0))) (hP : PairsAt cs ds) (hn : ds.length ≤ 10) (hbd : ∀ x, x ∈ ds → Bd2 x) :
    Calls Try.prog 135 #[.slice (some ⟨g, 0, none⟩) ds.length cap, .int .i64 ds.length, .func (.func 118) #[] #[]] w fun e w' => e = .returned (.tuple #[]) ∧ Sorted133 g cs ds w w' := by
  have hI := Lib.hid (insPairs_any (cap := cap) hb hP hn hbd)
  clear hb hP hbd
  go_enter Try.func135, Try.ntmps135
  go_wp2_with fail
  refine wp_loop_rounds 1 ?_
  rw [rounds_succ]
  go_wp2_with (go_at_call 145; refine hI.out.mono ?_; rintro e w' ⟨rfl, hS⟩)
  refine wp_loop_rounds 1 ?_
  rw [rounds_succ]
  go_wp2_with fail
  exact bodyPost_end (v := .tuple #[]) (by simp [results, Try.results135, go_sem]) rfl ⟨rfl, hS⟩
theorem stable117_any {w : World} {g cap : Nat} {cs : Array Value} {ds : List (Int × Int)} (hb : w.heap[g]? = some (.cells cs 133 (0, 0))) (hP : PairsAt cs ds) (hn : ds.length ≤ 10) (hbd : ∀ x, x ∈ ds → Bd2 x) :
    Calls Try.prog 117 #[.slice (some ⟨g, 0, none⟩) ds.length cap, .func (.func 118) #[] #[]] w fun e w' => e = .returned (.tuple #[]) ∧ Sorted133 g cs ds w w' := by
  have hI := Lib.hid (stable_any (cap := cap) hb hP hn hbd)
  clear hb hP hbd
  go_enter Try.func117, Try.ntmps117
  go_wp2_with (go_at_call 135; refine hI.out.mono ?_; rintro e w' ⟨rfl, hS⟩)
  exact bodyPost_end (v := .tuple #[]) (by simp [results, Try.results117, go_sem]) rfl ⟨rfl, hS⟩
end Go.Proofs.Ythhkbfjolmgloaa
namespace Go.Proofs.Ythhkbfjolmgloaa
open Go.RowKit
set_option linter.unusedVariables false
set_option linter.unusedSimpArgs false
theorem cmpI_self (a : Int) : cmpI a a = .eq := by unfold cmpI; rw [if_neg (by omega), if_pos rfl]
theorem cmpI_ne {a b : Int} (h : ¬ a = b) : ¬ cmpI a b = .eq ∧ (cmpI a b == .lt) = decide (a < b) := by
  unfold cmpI
  by_cases hl : a < b
  · rw [if_pos hl]; simp [hl]
  · rw [if_neg hl, if_neg h]; simp [hl]
set_option maxRecDepth 100000 in
set_option maxHeartbeats 8000000 in
theorem spec_less_any {w : World} {l : Line} {p q : List (List Int)} {A B : Option Addr} {c d : Nat} (O : Ok l) (Fp : Fits l p) (Fq : Fits l q) (hp : RdRows w A p) (hq : RdRows w B q) :
    Calls Try.prog 128 #[.agg #[.slice A p.length c], .agg #[.slice B q.length d]] w fun e w' => e = .returned (.bool (cmpP l p q == .lt)) ∧ Ext w w' := by
  obtain ⟨b1, o1, br1, or1, cr1, SP⟩ := seeP O Fp hp
  obtain ⟨b2, o2, br2, or2, cr2, SQ⟩ := seeP O Fq hq
  rw [Fp.rows, Fq.rows]
  have HP := Lib.hid SP
  have HQ := Lib.hid SQ
  have HO := Lib.hid O
  have n5 := O.bd.n5
  clear SP SQ hp hq Fp Fq O
  go_enter Try.func128, Try.ntmps128
  go_wp2_with fail
  have hS := Lp.start2 w #[.slice A l.trains.length c] #[.slice B l.trains.length d] 42 42
  go_loopw [10] (fun j wr => ∃ (i : Nat), i ≤ l.trains.length ∧ j = .int .i64 i ∧ Hid (cmpP l p q = lexO (cmpR l p q) i l.trains.length) ∧ Lp w wr [(w.heap.size + 1, #[.slice B l.trains.length d], 42), (w.heap.size, #[.slice A l.trains.length c], 42)]) (fun j _ => l.trains.length - (intOf j).toNat)
  case atStart => exact ⟨0, Nat.zero_le _, rfl, rfl, hS⟩
  case round =>
    clear hS
    obtain ⟨i, hi, rfl, HC, hS⟩ := hrel
    obtain ⟨k1, k2, k3, k4, k5, k6⟩ := hS.open2
    by_cases hlt : i < l.trains.length
    · obtain ⟨rfl, hb1⟩ := HP.out.base (by omega)
      obtain ⟨rfl, hb2⟩ := HQ.out.base (by omega)
      obtain ⟨r1, hr1⟩ := HP.out.row i hlt
      obtain ⟨r2, hr2⟩ := HQ.out.row i hlt
      obtain ⟨n10, n11⟩ := HO.out.bd.nl1 i hlt
      have HN := Lib.hid (lexO_at (cmpR l p q) hlt)
      go_wp2_with fail
      clear k1 k2 k3 k4 k5 k6
      go_loopw [19] (fun j wr => ∃ (k : Nat), k ≤ (l.tr i).legs.length ∧ j = .int .i64 k ∧ Hid (cmpR l p q i = lexO (fun k => cmpI (st p i k) (st q i k)) k (l.tr i).legs.length) ∧ Lp w wr [(w.heap.size + 1, #[.slice (some ⟨b2, o2, none⟩) l.trains.length d], 42), (w.heap.size, #[.slice (some ⟨b1, o1, none⟩) l.trains.length c], 42)]) (fun j _ => (l.tr i).legs.length - (intOf j).toNat)
      case atStart => exact ⟨0, Nat.zero_le _, rfl, rfl, hS⟩
      case round =>
        clear hS
        obtain ⟨k, hk, rfl, HR, hS⟩ := hrel
        obtain ⟨k1, k2, k3, k4, k5, k6⟩ := hS.open2
        by_cases hlk : k < (l.tr i).legs.length
        · have s1 := HP.out.st i k hlt hlk
          have s2 := HQ.out.st i k hlt hlk
          have HM := Lib.hid (lexO_at (fun k => cmpI (st p i k) (st q i k)) hlk)
          obtain ⟨x, hx⟩ : ∃ x, Hid (st p i k = x) := ⟨_, rfl⟩
          obtain ⟨y, hy⟩ : ∃ y, Hid (st q i k = y) := ⟨_, rfl⟩
          rw [hx.out] at s1 HM
          rw [hy.out] at s2 HM
          by_cases he : x = y
          · subst he
            have hb : (x != x) = false := by simp
            have HR2 : Hid (cmpR l p q i = lexO (fun k => cmpI (st p i k) (st q i k)) (k + 1) (l.tr i).legs.length) := by unfold Hid; rw [HR.out, HM.out, if_pos (cmpI_self x)]
            go_upto_region 7 with fail
            go_quiet (fail)
            go_wp2_with fail
            exact ⟨⟨k + 1, by omega, by go_num, HR2.out, (by repeat (first | (with_reducible exact hS) | apply Lp.alloc | apply Lp.drewN | apply Lp.drew))⟩, (by simp [intOf]; omega)⟩
          · have hb : (x != y) = true := by simpa using he
            obtain ⟨z1, z2⟩ := cmpI_ne he
            have hres : Hid ((cmpP l p q == .lt) = decide (x < y)) := by
              unfold Hid
              rw [if_neg z1] at HM
              rw [HC.out, HN.out, HR.out, HM.out, if_neg z1, z2]
            clear z1 z2
            go_upto_region 7 with fail
            go_quiet (fail)
            go_wp2_with fail
            go_quiet (fail)
            go_wp2_with fail
            go_ret
            exact ⟨by rw [hres.out]; rfl, by repeat (first | with_reducible exact hS.ext | apply Ext.drewN | apply Ext.drew)⟩
        · obtain rfl : k = (l.tr i).legs.length := by omega
          have HC2 : Hid (cmpP l p q = lexO (cmpR l p q) (i + 1) l.trains.length) := by unfold Hid; rw [HC.out, HN.out, HR.out, lexO_end _ (Nat.le_refl _), if_pos rfl]
          go_wp2_with fail
          exact ⟨⟨i + 1, by omega, by go_num, HC2.out, hS⟩, (by simp [intOf]; omega)⟩
    · obtain rfl : i = l.trains.length := by omega
      have hres : Hid ((cmpP l p q == .lt) = false) := by unfold Hid; rw [HC.out, lexO_end _ (Nat.le_refl _)]; rfl
      go_wp2_with fail
      go_ret
      exact ⟨by rw [hres.out]; rfl, hS.ext⟩
end Go.Proofs.Ythhkbfjolmgloaa
namespace Go.Proofs.Ythhkbfjolmgloaa
open Go.RowKit
set_option linter.unusedVariables false
set_option linter.unusedSimpArgs false
def ordV : Ordering → Int
  | .lt => -1
  | .eq => 0
  | .gt => 1
theorem compare_ordV (x y : Int) : Lib.compareInt x y = ordV (cmpI x y) := by
  unfold Lib.compareInt cmpI
  by_cases h : x < y
  · rw [if_pos h, if_pos h]; rfl
  · rw [if_neg h, if_neg h]
    by_cases e : x = y
    · rw [if_neg (by omega), if_pos e]; rfl
    · rw [if_pos (by omega), if_neg e]; rfl
set_option maxRecDepth 100000 in
set_option maxHeartbeats 8000000 in
theorem compare_any {w : World} {b1 o1 b2 o2 n : Nat} {f g : Nat → Int} (c d : Nat) (hn : n ≤ 1000000) (h1 : ∀ k, k < n → w.cell? ⟨b1, o1 + k, none⟩ = some (.int .i64 (f k))) (h2 : ∀ k, k < n → w.cell? ⟨b2, o2 + k, none⟩ = some (.int .i64 (g k))) :
    Calls Try.prog 130 #[.slice (some ⟨b1, o1, none⟩) n c, .slice (some ⟨b2, o2, none⟩) n d] w fun e w' => e = .returned (.int .i64 (ordV (lexO (fun k => cmpI (f k) (g k)) 0 n))) ∧ w' = w := by
  have H1 := Lib.hid h1
  have H2 := Lib.hid h2
  clear h1 h2
  go_enter Try.func130, Try.ntmps130
  go_wp2_with fail
  go_loopw [11] (fun j wr => ∃ (k : Nat), k ≤ n ∧ j = .int .i64 k ∧ Hid (lexO (fun k => cmpI (f k) (g k)) 0 n = lexO (fun k => cmpI (f k) (g k)) k n) ∧ wr = w) (fun j _ => n - (intOf j).toNat)
  case atStart => exact ⟨0, Nat.zero_le _, rfl, rfl, rfl⟩
  case round =>
    obtain ⟨k, hk, rfl, HT, rfl⟩ := hrel
    by_cases hlt : k < n
    · have s1 := H1.out k hlt
      have s2 := H2.out k hlt
      obtain ⟨x, hx⟩ : ∃ x, Hid (f k = x) := ⟨_, rfl⟩
      obtain ⟨y, hy⟩ : ∃ y, Hid (g k = y) := ⟨_, rfl⟩
      rw [hx.out] at s1
      rw [hy.out] at s2
      have HM := Lib.hid (lexO_at (fun k => cmpI (f k) (g k)) hlt)
      rw [hx.out, hy.out] at HM
      have hcv := compare_ordV x y
      by_cases he : cmpI x y = .eq
      · have HT2 : Hid (lexO (fun k => cmpI (f k) (g k)) 0 n = lexO (fun k => cmpI (f k) (g k)) (k + 1) n) := by unfold Hid; rw [HT.out, HM.out, if_pos he]
        rw [he] at hcv
        have hcz : Lib.compareInt x y = 0 := hcv
        clear hcv he
        go_wp2_with (go_at_call 142; refine (Try.cmp_Compare_int _ _ _).mono ?_; rw [hcz]; rintro e w1 ⟨rfl, rfl⟩)
        exact ⟨⟨k + 1, by omega, by go_num, HT2.out, by first | rfl | trivial⟩, (by simp [intOf]; omega)⟩
      · have HR : Hid (lexO (fun k => cmpI (f k) (g k)) 0 n = cmpI x y) := by unfold Hid; rw [HT.out, HM.out, if_neg he]
        obtain ⟨v, hv⟩ : ∃ v, v = Lib.compareInt x y := ⟨_, rfl⟩
        have hv0 : (v != 0) = true := by
          rw [hv, hcv]
          revert he
          cases cmpI x y <;> simp [ordV]
        have hvr : Hid (v = ordV (cmpI x y)) := hv.trans hcv
        clear hcv he
        go_wp2_with (go_at_call 142; refine (Try.cmp_Compare_int _ _ _).mono ?_; rw [← hv]; rintro e w1 ⟨rfl, rfl⟩)
        go_ret
        exact ⟨ret_i64 (by rw [HR.out, ← hvr.out, hv]), rfl⟩
    · obtain rfl : k = n := by omega
      have hl : lexO (fun k => cmpI (f k) (g k)) 0 k = .eq := by rw [HT.out, lexO_end _ (Nat.le_refl _)]
      have HL := Lib.hid hl
      clear hl
      go_wp2_with fail
      go_ret
      exact ⟨by rw [HL.out]; rfl, rfl⟩
set_option maxRecDepth 100000 in
set_option maxHeartbeats 8000000 in
theorem impl_less_any {w : World} {l : Line} {p q : List (List Int)} {A B : Option Addr} {c d : Nat} (O : Ok l) (Fp : Fits l p) (Fq : Fits l q) (hp : RdRows w A p) (hq : RdRows w B q) :
    Calls Try.prog 89 #[.slice A p.length c, .slice B q.length d] w fun e w' => e = .returned (.bool (cmpP l p q == .lt)) ∧ Ext w w' := by
  obtain ⟨b1, o1, br1, or1, cr1, SP⟩ := seeP O Fp hp
  obtain ⟨b2, o2, br2, or2, cr2, SQ⟩ := seeP O Fq hq
  rw [Fp.rows, Fq.rows]
  have HP := Lib.hid SP
  have HQ := Lib.hid SQ
  have HO := Lib.hid O
  have n5 := O.bd.n5
  clear SP SQ hp hq Fp Fq O
  go_enter Try.func89, Try.ntmps89
  go_wp2_with fail
  go_loopw [9] (fun j wr => ∃ (i : Nat), i ≤ l.trains.length ∧ j = .int .i64 i ∧ Hid (cmpP l p q = lexO (cmpR l p q) i l.trains.length) ∧ Ext w wr) (fun j _ => l.trains.length - (intOf j).toNat)
  case atStart => exact ⟨0, Nat.zero_le _, rfl, rfl, (by repeat (first | (with_reducible assumption) | (with_reducible exact Ext.refl _) | apply Ext.alloc | apply Ext.drewN | apply Ext.drew))⟩
  case round =>
    obtain ⟨i, hi, rfl, HC, hE⟩ := hrel
    obtain ⟨k1, k2⟩ := (Lp.of_ext hE).open0
    by_cases hlt : i < l.trains.length
    · obtain ⟨rfl, hb1⟩ := HP.out.base (by omega)
      obtain ⟨rfl, hb2⟩ := HQ.out.base (by omega)
      obtain ⟨r1, hr1⟩ := HP.out.row i hlt
      obtain ⟨r2, hr2⟩ := HQ.out.row i hlt
      obtain ⟨n10, n11⟩ := HO.out.bd.nl1 i hlt
      have HN := Lib.hid (lexO_at (cmpR l p q) hlt)
      have HCM : Hid (∀ W, Ext w W → Calls Try.prog 130 #[.slice (some ⟨br1 i, or1 i, none⟩) (l.tr i).legs.length (cr1 i), .slice (some ⟨br2 i, or2 i, none⟩) (l.tr i).legs.length (cr2 i)] W fun e w' => e = .returned (.int .i64 (ordV (cmpR l p q i))) ∧ w' = W) := fun W e =>
        compare_any (f := fun k => st p i k) (g := fun k => st q i k) _ _ (by omega) (fun k hk => (e.cells.1 _ _ hr1).trans (HP.out.st i k hlt hk)) (fun k hk => (e.cells.1 _ _ hr2).trans (HQ.out.st i k hlt hk))
      by_cases he : cmpR l p q i = .eq
      · have HC2 : Hid (cmpP l p q = lexO (cmpR l p q) (i + 1) l.trains.length) := by unfold Hid; rw [HC.out, HN.out, if_pos he]
        rw [he] at HCM
        have hv : ordV .eq = 0 := rfl
        rw [hv] at HCM
        clear he
        go_upto_region 4 with fail
        go_quiet ((go_at_call 130; exact Calls.quiet_of_same (HCM.out _ (by repeat (first | (with_reducible assumption) | (with_reducible exact Ext.refl _) | apply Ext.alloc | apply Ext.drewN | apply Ext.drew)))))
        go_wp2_with fail
        exact ⟨⟨i + 1, by omega, by go_num, HC2.out, (by repeat (first | (with_reducible assumption) | (with_reducible exact Ext.refl _) | apply Ext.alloc | apply Ext.drewN | apply Ext.drew))⟩, (by simp [intOf]; omega)⟩
      · have HR : Hid (cmpP l p q = cmpR l p q i) := by unfold Hid; rw [HC.out, HN.out, if_neg he]
        obtain ⟨v, hv⟩ : ∃ v, Hid (v = ordV (cmpR l p q i)) := ⟨_, rfl⟩
        have hv0 : (v != 0) = true := by
          rw [hv.out]
          revert he
          cases cmpR l p q i <;> simp [ordV]
        have hres : Hid ((cmpP l p q == .lt) = decide (v < 0)) := by
          unfold Hid
          rw [HR.out, hv.out]
          cases cmpR l p q i <;> rfl
        rw [← hv.out] at HCM
        clear he
        go_upto_region 4 with fail
        go_quiet ((go_at_call 130; exact Calls.quiet_of_same (HCM.out _ (by repeat (first | (with_reducible assumption) | (with_reducible exact Ext.refl _) | apply Ext.alloc | apply Ext.drewN | apply Ext.drew)))))
        go_wp2_with fail
        go_ret
        exact ⟨by rw [hres.out]; rfl, (by repeat (first | (with_reducible assumption) | (with_reducible exact Ext.refl _) | apply Ext.alloc | apply Ext.drewN | apply Ext.drew))⟩
    · obtain rfl : i = l.trains.length := by omega
      have hres : Hid ((cmpP l p q == .lt) = false) := by unfold Hid; rw [HC.out, lexO_end _ (Nat.le_refl _)]; rfl
      go_wp2_with fail
      go_ret
      exact ⟨by rw [hres.out]; rfl, hE⟩
end Go.Proofs.Ythhkbfjolmgloaa
