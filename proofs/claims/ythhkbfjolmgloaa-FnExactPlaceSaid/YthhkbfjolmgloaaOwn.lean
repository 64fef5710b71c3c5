/- A plan that can be is nowhere sooner than the plan of its own order. Plain data alone. -/
import Derived.Test.YthhkbfjolmgloaaPack
import Derived.Test.YthhkbfjolmgloaaClos3
namespace Go.Proofs.Ythhkbfjolmgloaa
open Go.RowKit
set_option linter.unusedVariables false
set_option linter.unusedSimpArgs false
structure Can (l : Line) (p : List (List Int)) : Prop where
  ok : Ok l
  fits : Fits l p
  ready : ∀ i k, i < l.trains.length → k < (l.tr i).legs.length → readyT l p i k ≤ st p i k
  apart : ∀ i k j m, i < l.trains.length → k < (l.tr i).legs.length → j < l.trains.length → m < (l.tr j).legs.length → tight l p i k j m = false
  room : ∀ i k, i < l.trains.length → k < (l.tr i).legs.length → taken l p i k ≤ l.tk (l.leg i k).to.toNat
theorem eachA_zero {l : Line} {cl : Nat → Nat → Cl} : (eachA l cl).1 = 0 ↔ ∀ i k, i < l.trains.length → k < (l.tr i).legs.length → (cl i k).1 = 0 := by
  have key : ∀ i k, i < l.trains.length → k < (l.tr i).legs.length → ((if (cl i k).1 ≠ 0 then some (cl i k) else none) = none ↔ (cl i k).1 = 0) := by
    intro i k _ _
    by_cases e : (cl i k).1 = 0
    · simp [e]
    · simp [e]
  constructor
  · intro h i k hi hk
    unfold eachA at h
    cases hf : findF (eachF l cl) 0 l.trains.length with
    | none => exact (key i k hi hk).1 (findF_none.1 (findF_none.1 hf i (Nat.zero_le _) hi) k (Nat.zero_le _) hk)
    | some c =>
      rw [hf] at h
      simp only [Option.getD_some] at h
      exfalso
      have : ∀ {β : Type} (f : Nat → Option β) (c n i : Nat) (b : β), n - i = c → findF f i n = some b → ∃ j, i ≤ j ∧ j < n ∧ f j = some b := by
        intro β f c
        induction c with
        | zero => intro n i b hc hb; rw [findF_end f (by omega)] at hb; cases hb
        | succ c ih =>
          intro n i b hc hb
          rw [findF_at f (by omega)] at hb
          cases hfi : f i with
          | some b' => rw [hfi] at hb; simp at hb; subst hb; exact ⟨i, Nat.le_refl _, by omega, hfi⟩
          | none =>
            rw [hfi] at hb
            obtain ⟨j, h1, h2, h3⟩ := ih n (i + 1) b (by omega) (by simpa using hb)
            exact ⟨j, by omega, h2, h3⟩
      obtain ⟨i', _, hi', h1⟩ := this _ _ _ _ _ rfl hf
      obtain ⟨k', _, hk', h2⟩ := this _ _ _ _ _ rfl h1
      by_cases e : (cl i' k').1 = 0
      · simp [e] at h2
      · simp only [ne_eq, e, not_false_eq_true, if_true, Option.some.injEq] at h2
        rw [← h2] at h
        exact e h
  · intro h
    have e : findF (eachF l cl) 0 l.trains.length = none := findF_none.2 fun i _ hi => findF_none.2 fun k _ hk => (key i k hi hk).2 (h i k hi hk)
    unfold eachA
    rw [e]
    rfl
theorem checkA_zero {l : Line} {p : List (List Int)} (h : (checkA l p).1 = 0) : Can l p := by
  unfold checkA at h
  by_cases c : (right l && shapeOk l p) = true
  · rw [if_pos c] at h
    rw [Bool.and_eq_true] at c
    unfold checkB at h
    by_cases c2 : (eachA l (cl2 l p)).1 = 0
    · rw [if_neg (by simp [c2])] at h
      by_cases c3 : (eachA l (cl3 l p)).1 = 0
      · rw [if_neg (by simp [c3])] at h
        refine ⟨right_iff.1 c.1, shapeOk_iff.1 c.2, fun i k hi hk => ?_, fun i k j m hi hk hj hm => ?_, fun i k hi hk => ?_⟩
        · have := eachA_zero.1 c2 i k hi hk
          unfold cl2 early at this
          by_cases e : st p i k < readyT l p i k
          · simp [e] at this
          · omega
        · have := eachA_zero.1 c3 i k hi hk
          unfold cl3 at this
          cases hh : hit l p i k with
          | some j => rw [hh] at this; simp at this
          | none =>
            have h1 := findF_none.1 (findF_none.1 hh j (Nat.zero_le _) hj) m (Nat.zero_le _) hm
            cases ht : tight l p i k j m with
            | false => rfl
            | true => rw [ht] at h1; simp at h1
        · have := eachA_zero.1 h i k hi hk
          unfold cl4 full at this
          by_cases e : l.tk (l.leg i k).to.toNat < taken l p i k
          · simp [e] at this
          · omega
      · rw [if_pos c3] at h; exact absurd h c3
    · rw [if_pos c2] at h; exact absurd h c2
  · rw [if_neg c] at h; simp at h
theorem Can.check {l : Line} {p : List (List Int)} (C : Can l p) : checkA l p = (0, 0, 0, 0) := by
  have h0 : ∀ cl : Nat → Nat → Cl, (∀ i k, i < l.trains.length → k < (l.tr i).legs.length → cl i k = (0, 0, 0, 0)) → eachA l cl = (0, 0, 0, 0) := by
    intro cl h
    have e : findF (eachF l cl) 0 l.trains.length = none := findF_none.2 fun i _ hi => findF_none.2 fun k _ hk => by rw [h i k hi hk]; rfl
    unfold eachA
    rw [e]
    rfl
  have q2 : eachA l (cl2 l p) = (0, 0, 0, 0) := h0 _ fun i k hi hk => by
    have h' : ¬ st p i k < readyT l p i k := by have := C.ready i k hi hk; omega
    simp [cl2, early, h']
  have q3 : eachA l (cl3 l p) = (0, 0, 0, 0) := h0 _ fun i k hi hk => by
    have : hit l p i k = none := findF_none.2 fun j _ hj => findF_none.2 fun m _ hm => by rw [C.apart i k j m hi hk hj hm]; rfl
    simp [cl3, this]
  have q4 : eachA l (cl4 l p) = (0, 0, 0, 0) := h0 _ fun i k hi hk => by
    have h' : ¬ l.tk (l.leg i k).to.toNat < taken l p i k := by have := C.room i k hi hk; omega
    simp [cl4, full, h']
  unfold checkA
  rw [if_pos (by rw [right_iff.2 C.ok, shapeOk_iff.2 C.fits]; rfl)]
  unfold checkB
  rw [q2, q3, q4]
  rfl
theorem Good.can' {l : Line} {p : List (List Int)} {last : Int} (O : Ok l) (G : Good l p last) (hf : ∀ i, i < l.trains.length → (p.getD i []).length = (l.tr i).legs.length) (hl : last ≤ 1000000) : Can l p := by
  obtain ⟨F, h⟩ := G.can O hf hl
  refine checkA_zero ?_
  unfold checkA
  rw [if_pos (by rw [right_iff.2 O, shapeOk_iff.2 F]; rfl), h]
theorem Can.row_lt {l : Line} {p : List (List Int)} (C : Can l p) {i k : Nat} (hi : i < l.trains.length) (hk : k + 1 < (l.tr i).legs.length) : st p i k < st p i (k + 1) := by
  have h := C.ready i (k + 1) hi hk
  obtain ⟨_, _, y1, _, _, _⟩ := C.ok.bd.leg i k hi (by omega)
  obtain ⟨_, _, _, _, y5, _⟩ := C.ok.bd.leg i (k + 1) hi hk
  unfold readyT at h
  rw [if_neg (by omega)] at h
  simp only [Nat.add_sub_cancel] at h
  omega
/-- q follows p's own order so far, nowhere later. -/
structure Along (l : Line) (p q : List (List Int)) (last : Int) : Prop where
  good : Good l q last
  le : ∀ i k, i < l.trains.length → k < (q.getD i []).length → st q i k ≤ st p i k
  srt : ∀ j m i, j < l.trains.length → m < (q.getD j []).length → i < l.trains.length → (q.getD i []).length < (l.tr i).legs.length → st p j m < st p i (q.getD i []).length ∨ (st p j m = st p i (q.getD i []).length ∧ j ≤ i)
  last_ : ∀ i, i < l.trains.length → (q.getD i []).length < (l.tr i).legs.length → last ≤ st p i (q.getD i []).length
theorem Along.start {l : Line} {p : List (List Int)} (C : Can l p) : Along l p (List.replicate l.trains.length []) 0 where
  good := Good.start l
  le := fun i k _ hk => by rw [getD_replicate_nil] at hk; simp at hk
  srt := fun j m i _ hm => by rw [getD_replicate_nil] at hm; simp at hm
  last_ := fun i hi hk => by rw [getD_replicate_nil] at hk ⊢; exact (C.fits.bd hi hk).1
theorem sumF_le' {f g : Nat → Int} {n n' : Nat} (hn : n ≤ n') (h : ∀ j, j < n → f j ≤ g j) (h0 : ∀ j, j < n' → 0 ≤ g j) : sumF f 0 n ≤ sumF g 0 n' := by
  induction n' with
  | zero => rw [show n = 0 by omega, sumF_end _ (Nat.le_refl _), sumF_end _ (Nat.le_refl _)]; exact Int.le_refl _
  | succ n' ih =>
    rw [sumF_last g (Nat.zero_le _)]
    by_cases e : n = n' + 1
    · subst e
      rw [sumF_last f (Nat.zero_le _)]
      have h1 := sumF_le (f := f) (g := g) (i := 0) (n := n') (fun j _ hj => h j (by omega))
      have h2 := h n' (by omega)
      omega
    · have h1 := ih (by omega) (fun j hj => h0 j (by omega))
      have h2 := h0 n' (by omega)
      omega
theorem Along.step {l : Line} {p q : List (List Int)} {last : Int} {i : Nat} (C : Can l p) (A : Along l p q last) (hi : i < l.trains.length) (hk : (q.getD i []).length < (l.tr i).legs.length)
    (hmin : ∀ j, j < l.trains.length → (q.getD j []).length < (l.tr j).legs.length → st p i (q.getD i []).length < st p j (q.getD j []).length ∨ (st p i (q.getD i []).length = st p j (q.getD j []).length ∧ i ≤ j)) :
    ∃ t, stepT l q last i = some t ∧ t ≤ st p i (q.getD i []).length ∧ Along l p (put q i t) t := by
  have O := C.ok
  have B := O.bd
  have G := A.good
  have hip : i < q.length := by rw [G.rows]; exact hi
  have hx := C.fits.bd hi hk
  have hlast := A.last_ i hi hk
  have hE : ∀ e, e ∈ ends l q (l.leg i (q.getD i []).length).to → e ≤ 1099511627776 := by
    intro e he
    obtain ⟨j, m, hj, hm, _, rfl⟩ := mem_ends he
    have b2 := G.at_ j m hj hm
    have := G.len j hj
    obtain ⟨_, _, y1, y2, _, _⟩ := B.leg j m hj (by omega)
    unfold endT
    by_cases c1 : m + 1 < (q.getD j []).length
    · rw [if_pos c1]; have := G.at_ j (m + 1) hj c1; omega
    · rw [if_neg c1]
      by_cases c2 : m + 1 = (l.tr j).legs.length
      · rw [if_pos c2]; omega
      · rw [if_neg c2]; omega
  have hr : readyT l q i (q.getD i []).length ≤ readyT l p i (q.getD i []).length := by
    unfold readyT
    by_cases e : (q.getD i []).length = 0
    · rw [if_pos e, if_pos e]; exact Int.le_refl _
    · rw [if_neg e, if_neg e]
      have := A.le i ((q.getD i []).length - 1) hi (by omega)
      omega
  have hr2 := C.ready i _ hi hk
  have hfree : freeT l q i (q.getD i []).length (max (readyT l q i (q.getD i []).length) last) ≤ st p i (q.getD i []).length := by
    refine freeT_le (by omega) fun j m hj hm hji htr => ?_
    have h1 := A.le j m hj hm
    have h2 := A.srt j m i hj hm hi hk
    have h3 := C.apart i _ j m hi hk hj (by have := G.len j hj; omega)
    unfold tight at h3
    simp only [decide_eq_false_iff_not] at h3
    by_cases e : st p i (q.getD i []).length < st p j m + (l.leg j m).run + l.gap
    · exact absurd ⟨Ne.symm hji, htr.symm, by omega, e⟩ h3
    · omega
  have hcnt : (cnt (ends l q (l.leg i (q.getD i []).length).to) (st p i (q.getD i []).length) : Int) < l.tk (l.leg i (q.getD i []).length).to.toNat := by
    have h1 := C.room i _ hi hk
    rw [taken_split hi hk] at h1
    have h2 : sumF (fun j => sumF (fun m => if (l.leg j m).to = (l.leg i (q.getD i []).length).to ∧ st p i (q.getD i []).length ≤ endT l q j m then 1 else 0) 0 (q.getD j []).length) 0 l.trains.length ≤ sumF (fun j => sumF (takesI l p i (q.getD i []).length j) 0 (l.tr j).legs.length) 0 l.trains.length := by
      refine sumF_le fun j _ hj => sumF_le' (G.len j hj) (fun m hm => ?_) (fun m _ => ?_)
      · by_cases c : (l.leg j m).to = (l.leg i (q.getD i []).length).to ∧ st p i (q.getD i []).length ≤ endT l q j m
        · have hlv : st p i (q.getD i []).length ≤ leaves l p j m := by
            have hg := G.len j hj
            have h3 := c.2
            unfold endT at h3
            unfold leaves
            by_cases c1 : m + 1 < (q.getD j []).length
            · rw [if_pos c1] at h3
              rw [if_pos (by omega)]
              have := A.le j (m + 1) hj c1
              omega
            · rw [if_neg c1] at h3
              by_cases c2 : m + 1 = (l.tr j).legs.length
              · rw [if_pos c2] at h3
                rw [if_neg (by omega)]
                have := A.le j m hj hm
                omega
              · have e : m + 1 = (q.getD j []).length := by omega
                rw [if_pos (by omega), e]
                have := hmin j hj (by omega)
                omega
          rw [if_pos c]
          have hne : j ≠ i ∨ m ≠ (q.getD i []).length := by
            by_cases e : j = i
            · subst e; exact Or.inr (by omega)
            · exact Or.inl e
          have hv : takesI l p i (q.getD i []).length j m = 1 := by
            unfold takesI
            rw [if_pos ⟨c.1, hne, A.srt j m i hj hm hi hk, hlv⟩]
          rw [hv]
          exact Int.le_refl _
        · rw [if_neg c]
          unfold takesI
          by_cases c' : (l.leg j m).to = (l.leg i (q.getD i []).length).to ∧ (j ≠ i ∨ m ≠ (q.getD i []).length) ∧ (st p j m < st p i (q.getD i []).length ∨ (st p j m = st p i (q.getD i []).length ∧ j ≤ i)) ∧ st p i (q.getD i []).length ≤ leaves l p j m
          · rw [if_pos c']; decide
          · rw [if_neg c']; decide
      · unfold takesI
        by_cases c' : (l.leg j m).to = (l.leg i (q.getD i []).length).to ∧ (j ≠ i ∨ m ≠ (q.getD i []).length) ∧ (st p j m < st p i (q.getD i []).length ∨ (st p j m = st p i (q.getD i []).length ∧ j ≤ i)) ∧ st p i (q.getD i []).length ≤ leaves l p j m
        · rw [if_pos c']; decide
        · rw [if_neg c']; decide
    rw [cnt_ends]
    omega
  obtain ⟨t, ht, hle⟩ := roomA_le hE (by omega) hcnt _ _ rfl hfree
  have ht' : stepT l q last i = some t := ht
  have hl : last ≤ 10000000 := by omega
  have G2 := G.step O hi hk hl ht'
  refine ⟨t, ht', hle, ⟨G2, fun j m hj hm => ?_, fun j m j2 hj hm hj2 hm2 => ?_, fun j hj hm => ?_⟩⟩
  · rw [put_len hip] at hm
    rw [put_st hip]
    by_cases e : j = i ∧ m = (q.getD i []).length
    · rw [if_pos e]; obtain ⟨rfl, rfl⟩ := e; exact hle
    · rw [if_neg e]
      refine A.le j m hj ?_
      by_cases e2 : j = i
      · subst e2; rw [if_pos rfl] at hm; omega
      · rw [if_neg e2] at hm; exact hm
  · rw [put_len hip] at hm hm2 ⊢
    have hnew : st p i (q.getD i []).length < st p j2 (if j2 = i then (q.getD i []).length + 1 else (q.getD j2 []).length) ∨ (st p i (q.getD i []).length = st p j2 (if j2 = i then (q.getD i []).length + 1 else (q.getD j2 []).length) ∧ i ≤ j2) := by
      by_cases e : j2 = i
      · subst e
        rw [if_pos rfl] at hm2 ⊢
        exact Or.inl (C.row_lt hj2 hm2)
      · rw [if_neg e] at hm2 ⊢
        exact hmin j2 hj2 hm2
    by_cases e : j = i ∧ m = (q.getD i []).length
    · obtain ⟨rfl, rfl⟩ := e
      exact hnew
    · have hm' : m < (q.getD j []).length := by
        by_cases e2 : j = i
        · subst e2; rw [if_pos rfl] at hm; omega
        · rw [if_neg e2] at hm; exact hm
      have := A.srt j m i hj hm' hi hk
      omega
  · rw [put_len hip] at hm ⊢
    by_cases e : j = i
    · subst e
      rw [if_pos rfl] at hm ⊢
      have := C.row_lt hj hm
      omega
    · rw [if_neg e] at hm ⊢
      have := hmin j hj hm
      omega
end Go.Proofs.Ythhkbfjolmgloaa
