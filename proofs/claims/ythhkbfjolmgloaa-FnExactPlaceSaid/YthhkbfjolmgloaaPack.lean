/- Placing legs one after the other, in plain data: plans of orders can be. Plain data alone. -/
import Derived.Test.YthhkbfjolmgloaaRoom
namespace Go.Proofs.Ythhkbfjolmgloaa
open Go.RowKit
set_option linter.unusedVariables false
set_option linter.unusedSimpArgs false
/-- When a placed leg's train gives its track back; not known yet: 2^40. -/
def endT (l : Line) (p : List (List Int)) (j m : Nat) : Int := if m + 1 < (p.getD j []).length then st p j (m + 1) else if m + 1 = (l.tr j).legs.length then st p j m + (l.leg j m).run else 1099511627776
def endsR (l : Line) (p : List (List Int)) (s : Int) (j : Nat) (a : List Int) : List Int := foldF (fun m a => if (l.leg j m).to = s then a ++ [endT l p j m] else a) 0 (p.getD j []).length a
def ends (l : Line) (p : List (List Int)) (s : Int) : List Int := foldF (endsR l p s) 0 l.trains.length []
def freeR (l : Line) (p : List (List Int)) (i k j : Nat) (a : Int) : Int := foldF (fun m a => if j ≠ i ∧ (l.tr j).trk m = (l.tr i).trk k then max a (st p j m + (l.leg j m).run + l.gap) else a) 0 (p.getD j []).length a
def freeT (l : Line) (p : List (List Int)) (i k : Nat) (a : Int) : Int := foldF (freeR l p i k) 0 l.trains.length a
/-- When a train's next leg can begin. -/
def stepT (l : Line) (p : List (List Int)) (last : Int) (i : Nat) : Option Int :=
  roomA (ends l p (l.leg i (p.getD i []).length).to) (l.tk (l.leg i (p.getD i []).length).to.toNat) (freeT l p i (p.getD i []).length (max (readyT l p i (p.getD i []).length) last))
def put (p : List (List Int)) (i : Nat) (t : Int) : List (List Int) := p.set i (p.getD i [] ++ [t])
theorem put_length {p : List (List Int)} {i : Nat} {t : Int} : (put p i t).length = p.length := by simp [put]
theorem put_row {p : List (List Int)} {i : Nat} {t : Int} (hi : i < p.length) (j : Nat) : (put p i t).getD j [] = if j = i then p.getD i [] ++ [t] else p.getD j [] := by
  unfold put
  by_cases e : j = i
  · subst e; simp [List.getD_eq_getElem?_getD, hi]
  · simp [List.getD_eq_getElem?_getD, List.getElem?_set, Ne.symm e, e]
theorem put_len {p : List (List Int)} {i : Nat} {t : Int} (hi : i < p.length) (j : Nat) : ((put p i t).getD j []).length = if j = i then (p.getD i []).length + 1 else (p.getD j []).length := by
  rw [put_row hi]
  by_cases e : j = i
  · simp [e]
  · simp [e]
theorem put_st {p : List (List Int)} {i : Nat} {t : Int} (hi : i < p.length) (j m : Nat) : st (put p i t) j m = if j = i ∧ m = (p.getD i []).length then t else st p j m := by
  unfold st
  rw [put_row hi]
  by_cases e : j = i
  · subst e
    simp only [if_true, true_and]
    by_cases e2 : m = (p.getD j []).length
    · subst e2; simp [List.getD_eq_getElem?_getD]
    · rw [if_neg e2]
      simp only [List.getD_eq_getElem?_getD]
      by_cases e3 : m < (p.getD j []).length
      · simp only [List.getD_eq_getElem?_getD] at e3
        rw [List.getElem?_append_left e3]
      · have h1 : (p.getD j []).length ≤ m := by omega
        have h2 : (p.getD j [] ++ [t]).length ≤ m := by simp only [List.length_append, List.length_singleton]; omega
        simp only [List.getD_eq_getElem?_getD] at h1 h2
        rw [List.getElem?_eq_none h1, List.getElem?_eq_none h2]
  · rw [if_neg e, if_neg (fun h => e h.1)]
theorem put_st_ne {p : List (List Int)} {i : Nat} {t : Int} (hi : i < p.length) {j : Nat} (h : j ≠ i) (m : Nat) : st (put p i t) j m = st p j m := by rw [put_st hi, if_neg (fun e => h e.1)]
theorem put_st_old {p : List (List Int)} {i : Nat} {t : Int} (hi : i < p.length) {m : Nat} (h : m ≠ (p.getD i []).length) : st (put p i t) i m = st p i m := by rw [put_st hi, if_neg (fun e => h e.2)]
theorem put_st_new {p : List (List Int)} {i : Nat} {t : Int} (hi : i < p.length) : st (put p i t) i (p.getD i []).length = t := by rw [put_st hi, if_pos ⟨rfl, rfl⟩]
theorem put_len_ne {p : List (List Int)} {i : Nat} {t : Int} (hi : i < p.length) {j : Nat} (h : j ≠ i) : ((put p i t).getD j []).length = (p.getD j []).length := by rw [put_len hi, if_neg h]
theorem put_len_i {p : List (List Int)} {i : Nat} {t : Int} (hi : i < p.length) : ((put p i t).getD i []).length = (p.getD i []).length + 1 := by rw [put_len hi, if_pos rfl]
theorem mem_ends {l : Line} {p : List (List Int)} {s e : Int} (h : e ∈ ends l p s) : ∃ j m, j < l.trains.length ∧ m < (p.getD j []).length ∧ (l.leg j m).to = s ∧ e = endT l p j m := by
  have key : ∀ e, e ∈ ends l p s → ∃ j m, j < l.trains.length ∧ m < (p.getD j []).length ∧ (l.leg j m).to = s ∧ e = endT l p j m := by
    unfold ends
    refine foldF_inv (P := fun a => ∀ e, e ∈ a → ∃ j m, j < l.trains.length ∧ m < (p.getD j []).length ∧ (l.leg j m).to = s ∧ e = endT l p j m) (fun j a _ hj ha => ?_) (fun e h => by cases h)
    unfold endsR
    refine foldF_inv (P := fun a => ∀ e, e ∈ a → ∃ j m, j < l.trains.length ∧ m < (p.getD j []).length ∧ (l.leg j m).to = s ∧ e = endT l p j m) (fun m a _ hm ha => ?_) ha
    intro e he
    by_cases c : (l.leg j m).to = s
    · rw [if_pos c] at he
      rcases List.mem_append.1 he with he | he
      · exact ha e he
      · obtain rfl : e = _ := by simpa using he
        exact ⟨j, m, hj, hm, c, rfl⟩
    · rw [if_neg c] at he
      exact ha e he
  exact key e h
theorem cnt_append (E : List Int) (e x : Int) : (cnt (E ++ [e]) x : Int) = cnt E x + if x ≤ e then 1 else 0 := by
  unfold cnt
  rw [List.countP_append]
  by_cases c : x ≤ e
  · simp [c]
  · simp [c]
theorem cnt_ends (l : Line) (p : List (List Int)) (s x : Int) : (cnt (ends l p s) x : Int) = sumF (fun j => sumF (fun m => if (l.leg j m).to = s ∧ x ≤ endT l p j m then 1 else 0) 0 (p.getD j []).length) 0 l.trains.length := by
  have h := foldF_rel (R := fun (a : List Int) (b : Int) => (cnt a x : Int) = b) (f := endsR l p s) (g := fun j b => b + sumF (fun m => if (l.leg j m).to = s ∧ x ≤ endT l p j m then 1 else 0) 0 (p.getD j []).length) (i := 0) (n := l.trains.length) (a := []) (b := 0) (fun j a b _ hj hab => ?_) (by simp [cnt])
  · unfold ends
    rw [h, foldF_sum]; omega
  · have h2 := foldF_rel (R := fun (a : List Int) (b : Int) => (cnt a x : Int) = b) (f := fun m a => if (l.leg j m).to = s then a ++ [endT l p j m] else a) (g := fun m b => b + if (l.leg j m).to = s ∧ x ≤ endT l p j m then 1 else 0) (i := 0) (n := (p.getD j []).length) (a := a) (b := b) (fun m a b _ hm hab => ?_) hab
    · unfold endsR
      rw [h2, foldF_sum]
    · by_cases c : (l.leg j m).to = s
      · rw [if_pos c, cnt_append, hab]; simp [c]
      · rw [if_neg c, hab]; simp [c]
theorem freeT_ge {l : Line} {p : List (List Int)} {i k : Nat} {a : Int} : a ≤ freeT l p i k a := by
  unfold freeT
  refine foldF_inv (P := fun b => a ≤ b) (fun j b _ _ hb => ?_) (Int.le_refl _)
  unfold freeR
  refine foldF_inv (P := fun b => a ≤ b) (fun m b _ _ hb => ?_) hb
  by_cases c : j ≠ i ∧ (l.tr j).trk m = (l.tr i).trk k
  · rw [if_pos c]; omega
  · rw [if_neg c]; exact hb
theorem freeT_le {l : Line} {p : List (List Int)} {i k : Nat} {a x : Int} (h0 : a ≤ x) (h : ∀ j m, j < l.trains.length → m < (p.getD j []).length → j ≠ i → (l.tr j).trk m = (l.tr i).trk k → st p j m + (l.leg j m).run + l.gap ≤ x) : freeT l p i k a ≤ x := by
  unfold freeT
  refine foldF_inv (P := fun b => b ≤ x) (fun j b _ hj hb => ?_) h0
  unfold freeR
  refine foldF_inv (P := fun b => b ≤ x) (fun m b _ hm hb => ?_) hb
  by_cases c : j ≠ i ∧ (l.tr j).trk m = (l.tr i).trk k
  · rw [if_pos c]; have := h j m hj hm c.1 c.2; omega
  · rw [if_neg c]; exact hb
theorem freeT_hit {l : Line} {p : List (List Int)} {i k j m : Nat} {a : Int} (hj : j < l.trains.length) (hm : m < (p.getD j []).length) (hji : j ≠ i) (ht : (l.tr j).trk m = (l.tr i).trk k) : st p j m + (l.leg j m).run + l.gap ≤ freeT l p i k a := by
  have up : ∀ (j : Nat) (b x : Int), x ≤ b → x ≤ freeR l p i k j b := by
    intro j b x hb
    unfold freeR
    refine foldF_inv (P := fun b => x ≤ b) (fun m b _ _ hb => ?_) hb
    by_cases c : j ≠ i ∧ (l.tr j).trk m = (l.tr i).trk k
    · rw [if_pos c]; omega
    · rw [if_neg c]; exact hb
  unfold freeT
  refine foldF_hit (P := fun _ => True) (Q := fun b => st p j m + (l.leg j m).run + l.gap ≤ b) (Nat.zero_le j) hj (fun _ _ _ _ _ => trivial) trivial (fun b _ => ?_) (fun j' b _ _ hb => up j' b _ hb)
  unfold freeR
  refine foldF_hit (P := fun _ => True) (Q := fun b => st p j m + (l.leg j m).run + l.gap ≤ b) (Nat.zero_le m) hm (fun _ _ _ _ _ => trivial) trivial (fun b _ => ?_) (fun m' b _ _ hb => ?_)
  · rw [if_pos ⟨hji, ht⟩]; omega
  · by_cases c : j ≠ i ∧ (l.tr j).trk m' = (l.tr i).trk k
    · rw [if_pos c]; omega
    · rw [if_neg c]; exact hb

/-! ### What stays right while legs are placed -/
def thereF (l : Line) (p : List (List Int)) (s x : Int) (j m : Nat) : Int := if (l.leg j m).to = s ∧ st p j m ≤ x ∧ x ≤ endT l p j m then 1 else 0
def there (l : Line) (p : List (List Int)) (s x : Int) : Int := sumF (fun j => sumF (thereF l p s x j) 0 (p.getD j []).length) 0 l.trains.length
structure Good (l : Line) (p : List (List Int)) (last : Int) : Prop where
  rows : p.length = l.trains.length
  len : ∀ i, i < l.trains.length → (p.getD i []).length ≤ (l.tr i).legs.length
  last0 : 0 ≤ last
  at_ : ∀ i k, i < l.trains.length → k < (p.getD i []).length → 0 ≤ st p i k ∧ st p i k ≤ last
  ready : ∀ i k, i < l.trains.length → k < (p.getD i []).length → readyT l p i k ≤ st p i k
  apart : ∀ i k j m, i < l.trains.length → k < (p.getD i []).length → j < l.trains.length → m < (p.getD j []).length → i ≠ j → (l.tr i).trk k = (l.tr j).trk m → st p i k + (l.leg i k).run + l.gap ≤ st p j m ∨ st p j m + (l.leg j m).run + l.gap ≤ st p i k
  room : ∀ i k, i < l.trains.length → k < (p.getD i []).length → there l p (l.leg i k).to (st p i k) ≤ l.tk (l.leg i k).to.toNat
theorem getD_replicate_nil (n j : Nat) : (List.replicate n ([] : List Int)).getD j [] = [] := by
  simp only [List.getD_eq_getElem?_getD, List.getElem?_replicate]
  by_cases h : j < n
  · rw [if_pos h]; rfl
  · rw [if_neg h]; rfl
theorem Good.start (l : Line) : Good l (List.replicate l.trains.length []) 0 where
  rows := by simp
  len := fun i _ => by rw [getD_replicate_nil]; simp
  last0 := Int.le_refl _
  at_ := fun i k _ hk => by rw [getD_replicate_nil] at hk; simp at hk
  ready := fun i k _ hk => by rw [getD_replicate_nil] at hk; simp at hk
  apart := fun i k j m _ hk => by rw [getD_replicate_nil] at hk; simp at hk
  room := fun i k _ hk => by rw [getD_replicate_nil] at hk; simp at hk
theorem endT_put_other {l : Line} {p : List (List Int)} {i : Nat} {t : Int} (hi : i < p.length) {j m : Nat} (h : j ≠ i) : endT l (put p i t) j m = endT l p j m := by
  unfold endT
  rw [put_len_ne hi h, put_st_ne hi h, put_st_ne hi h]
/-- What is known when a leg is to be placed. -/
theorem stepT_ok {l : Line} {p : List (List Int)} {last t : Int} {i : Nat} (O : Ok l) (G : Good l p last) (hi : i < l.trains.length) (hk : (p.getD i []).length < (l.tr i).legs.length) (hl : last ≤ 10000000) (ht : stepT l p last i = some t) :
    last ≤ t ∧ readyT l p i (p.getD i []).length ≤ t ∧ t ≤ max 110000 (last + 20000) ∧ (cnt (ends l p (l.leg i (p.getD i []).length).to) t : Int) < l.tk (l.leg i (p.getD i []).length).to.toNat ∧
    ∀ j m, j < l.trains.length → m < (p.getD j []).length → j ≠ i → (l.tr j).trk m = (l.tr i).trk (p.getD i []).length → st p j m + (l.leg j m).run + l.gap ≤ t := by
  have B := O.bd
  have hr : readyT l p i (p.getD i []).length ≤ max 110000 (last + 20000) := by
    unfold readyT
    have b1 := B.tr i hi
    obtain ⟨_, _, _, _, x5, x6⟩ := B.leg i _ hi hk
    by_cases e : (p.getD i []).length = 0
    · rw [if_pos e]; rw [e] at x5 x6; omega
    · rw [if_neg e]
      have b2 := G.at_ i ((p.getD i []).length - 1) hi (by omega)
      obtain ⟨_, _, y1, y2, _, _⟩ := B.leg i ((p.getD i []).length - 1) hi (by omega)
      omega
  have g := B.gap
  have hf : freeT l p i (p.getD i []).length (max (readyT l p i (p.getD i []).length) last) ≤ max 110000 (last + 20000) := by
    refine freeT_le (by omega) fun j m hj hm _ _ => ?_
    have b2 := G.at_ j m hj hm
    have := G.len j hj
    obtain ⟨_, _, y1, y2, _, _⟩ := B.leg j m hj (by omega)
    omega
  have hE : ∀ e, e ∈ ends l p (l.leg i (p.getD i []).length).to → e = 1099511627776 ∨ e ≤ last + 10000 := by
    intro e he
    obtain ⟨j, m, hj, hm, _, rfl⟩ := mem_ends he
    have b2 := G.at_ j m hj hm
    have := G.len j hj
    obtain ⟨_, _, y1, y2, _, _⟩ := B.leg j m hj (by omega)
    unfold endT
    by_cases c1 : m + 1 < (p.getD j []).length
    · rw [if_pos c1]; have := G.at_ j (m + 1) hj c1; omega
    · rw [if_neg c1]
      by_cases c2 : m + 1 = (l.tr j).legs.length
      · rw [if_pos c2]; omega
      · rw [if_neg c2]; omega
  obtain ⟨r1, r2, r3⟩ := roomA_ok hE _ _ rfl (by omega) t ht
  have f0 := freeT_ge (l := l) (p := p) (i := i) (k := (p.getD i []).length) (a := max (readyT l p i (p.getD i []).length) last)
  refine ⟨by omega, by omega, by omega, r2, fun j m hj hm hji htr => ?_⟩
  have := freeT_hit (a := max (readyT l p i (p.getD i []).length) last) hj hm hji htr
  omega
theorem readyT_put {l : Line} {p : List (List Int)} {i : Nat} {t : Int} (hi : i < p.length) {j k : Nat} (h : j < l.trains.length → k < ((put p i t).getD j []).length) (hj : j < l.trains.length) : readyT l (put p i t) j k = readyT l p j k := by
  unfold readyT
  have := h hj
  rw [put_len hi] at this
  by_cases e : k = 0
  · rw [if_pos e, if_pos e]
  · rw [if_neg e, if_neg e, put_st hi, if_neg]
    rintro ⟨rfl, h2⟩
    rw [if_pos rfl] at this
    omega
theorem there_put {l : Line} {p : List (List Int)} {last t : Int} {i : Nat} (O : Ok l) (G : Good l p last) (hi : i < l.trains.length) (hk : (p.getD i []).length < (l.tr i).legs.length) (ht : last ≤ t) (ht9 : t ≤ 1099511627776) {s x : Int} (hx : x ≤ t) :
    there l (put p i t) s x = there l p s x + if (l.leg i (p.getD i []).length).to = s ∧ t ≤ x then 1 else 0 := by
  have hip : i < p.length := by rw [G.rows]; exact hi
  have B := O.bd
  unfold there
  refine sumF_change (k := i) (Nat.zero_le _) hi (fun j _ hj hji => ?_) ?_
  · rw [put_len_ne hip hji]
    refine sumF_congr fun m _ _ => ?_
    unfold thereF
    rw [endT_put_other hip hji, put_st_ne hip hji]
  · rw [put_len_i hip, sumF_last _ (Nat.zero_le _)]
    have h1 : sumF (thereF l (put p i t) s x i) 0 (p.getD i []).length = sumF (thereF l p s x i) 0 (p.getD i []).length := by
      refine sumF_congr fun m _ hm => ?_
      unfold thereF
      rw [put_st_old hip (by omega)]
      by_cases e : m + 1 = (p.getD i []).length
      · have e1 : endT l (put p i t) i m = t := by
          unfold endT
          rw [put_len_i hip, if_pos (by omega), e, put_st_new hip]
        have e2 : endT l p i m = 1099511627776 := by
          unfold endT
          rw [if_neg (by omega), if_neg (by omega)]
        rw [e1, e2]
        have c : x ≤ 1099511627776 := by omega
        simp only [hx, c]
      · have e1 : endT l (put p i t) i m = endT l p i m := by
          unfold endT
          rw [put_len_i hip, if_pos (by omega), if_pos (by omega), put_st_old hip (by omega)]
        rw [e1]
    have h2 : thereF l (put p i t) s x i (p.getD i []).length = if (l.leg i (p.getD i []).length).to = s ∧ t ≤ x then 1 else 0 := by
      unfold thereF
      rw [put_st_new hip]
      have e1 : x ≤ endT l (put p i t) i (p.getD i []).length := by
        unfold endT
        rw [put_len_i hip, if_neg (by omega), put_st_new hip]
        obtain ⟨_, _, y1, y2, _, _⟩ := B.leg i _ hi hk
        by_cases c : (p.getD i []).length + 1 = (l.tr i).legs.length
        · rw [if_pos c]; omega
        · rw [if_neg c]; omega
      simp only [e1, and_true]
    rw [h1, h2]
theorem there_all {l : Line} {p : List (List Int)} {last : Int} (G : Good l p last) {s x : Int} (hx : last ≤ x) : there l p s x = cnt (ends l p s) x := by
  rw [cnt_ends]
  unfold there
  refine sumF_congr fun j _ hj => sumF_congr fun m _ hm => ?_
  unfold thereF
  have := G.at_ j m hj hm
  have c : st p j m ≤ x := by omega
  simp only [c, true_and]
theorem Good.step {l : Line} {p : List (List Int)} {last t : Int} {i : Nat} (O : Ok l) (G : Good l p last) (hi : i < l.trains.length) (hk : (p.getD i []).length < (l.tr i).legs.length) (hl : last ≤ 10000000) (ht : stepT l p last i = some t) : Good l (put p i t) t := by
  have hip : i < p.length := by rw [G.rows]; exact hi
  have B := O.bd
  obtain ⟨s1, s2, s3, s4, s5⟩ := stepT_ok O G hi hk hl ht
  have split : ∀ j m, j < l.trains.length → m < ((put p i t).getD j []).length → (j = i ∧ m = (p.getD i []).length ∧ st (put p i t) j m = t) ∨ (m < (p.getD j []).length ∧ ¬ (j = i ∧ m = (p.getD i []).length) ∧ st (put p i t) j m = st p j m) := by
    intro j m hj hm
    rw [put_len hip] at hm
    rw [put_st hip]
    by_cases e : j = i ∧ m = (p.getD i []).length
    · rw [if_pos e]; exact Or.inl ⟨e.1, e.2, rfl⟩
    · rw [if_neg e]
      refine Or.inr ⟨?_, e, rfl⟩
      by_cases e2 : j = i
      · subst e2; rw [if_pos rfl] at hm; omega
      · rw [if_neg e2] at hm; exact hm
  refine ⟨by rw [put_length]; exact G.rows, fun j hj => ?_, by have := G.last0; omega, fun j m hj hm => ?_, fun j m hj hm => ?_, fun j m j2 m2 hj hm hj2 hm2 hne htr => ?_, fun j m hj hm => ?_⟩
  · rw [put_len hip]
    by_cases e : j = i
    · subst e; rw [if_pos rfl]; omega
    · rw [if_neg e]; exact G.len j hj
  · have := G.last0
    rcases split j m hj hm with ⟨_, _, h⟩ | ⟨h1, _, h⟩
    · rw [h]; omega
    · rw [h]; have := G.at_ j m hj h1; omega
  · rw [readyT_put hip (fun _ => hm) hj]
    rcases split j m hj hm with ⟨rfl, rfl, h⟩ | ⟨h1, _, h⟩
    · rw [h]; exact s2
    · rw [h]; exact G.ready j m hj h1
  · rcases split j m hj hm with ⟨rfl, rfl, h⟩ | ⟨h1, _, h⟩
    · rcases split j2 m2 hj2 hm2 with ⟨rfl, rfl, h'⟩ | ⟨h1', _, h'⟩
      · exact absurd rfl hne
      · rw [h, h']
        exact Or.inr (s5 j2 m2 hj2 h1' (Ne.symm hne) htr.symm)
    · rcases split j2 m2 hj2 hm2 with ⟨rfl, rfl, h'⟩ | ⟨h1', _, h'⟩
      · rw [h, h']
        exact Or.inl (s5 j m hj h1 hne htr)
      · rw [h, h']
        exact G.apart j m j2 m2 hj h1 hj2 h1' hne htr
  · have hb : t ≤ 1099511627776 := by omega
    rcases split j m hj hm with ⟨rfl, rfl, h⟩ | ⟨h1, _, h⟩
    · rw [h, there_put O G hi hk s1 hb (Int.le_refl _), there_all G s1, if_pos ⟨rfl, Int.le_refl _⟩]
      omega
    · have h2 := G.at_ j m hj h1
      rw [h, there_put O G hi hk s1 hb (by omega)]
      by_cases c : (l.leg i (p.getD i []).length).to = (l.leg j m).to ∧ t ≤ st p j m
      · rw [if_pos c]
        have e : st p j m = t := by omega
        have := there_all G (s := (l.leg j m).to) (x := t) s1
        rw [e, this, ← c.1]
        omega
      · rw [if_neg c]
        have := G.room j m hj h1
        omega
/-- A whole plan that was placed so can be. -/
theorem Good.can {l : Line} {p : List (List Int)} {last : Int} (O : Ok l) (G : Good l p last) (hf : ∀ i, i < l.trains.length → (p.getD i []).length = (l.tr i).legs.length) (hl : last ≤ 1000000) : Fits l p ∧ checkB l p = (0, 0, 0, 0) := by
  have B := O.bd
  have F : Fits l p := by
    refine ⟨G.rows, fun i t ht r hr => ?_, fun i r hr k x hx => ?_⟩
    · have hi := lt_of_some ht
      have e1 := Line.tr_at hi
      rw [ht] at e1
      obtain rfl : t = l.tr i := by simpa using e1
      have := hf i hi
      rwa [getD_some hr] at this
    · have hi : i < l.trains.length := by rw [← G.rows]; exact lt_of_some hr
      have := G.at_ i k hi (by rw [getD_some hr]; exact lt_of_some hx)
      simp only [st, getD_some hr, getD_some hx] at this
      omega
  refine ⟨F, ?_⟩
  have e2 : eachA l (cl2 l p) = (0, 0, 0, 0) := by
    unfold eachA
    rw [findF_none.2]; rfl
    intro i _ hi
    refine findF_none.2 fun k _ hk => ?_
    have := G.ready i k hi (by rw [hf i hi]; exact hk)
    have h' : ¬ st p i k < readyT l p i k := by omega
    simp [cl2, early, h']
  have e3 : eachA l (cl3 l p) = (0, 0, 0, 0) := by
    unfold eachA
    rw [findF_none.2]; rfl
    intro i _ hi
    refine findF_none.2 fun k _ hk => ?_
    have : hit l p i k = none := by
      refine findF_none.2 fun j _ hj => findF_none.2 fun m _ hm => ?_
      rw [if_neg]
      simp only [tight, decide_eq_true_eq]
      rintro ⟨h1, h2, h3, h4⟩
      obtain ⟨_, _, y1, _, _, _⟩ := B.leg i k hi hk
      have g := B.gap
      rcases G.apart i k j m hi (by rw [hf i hi]; exact hk) hj (by rw [hf j hj]; exact hm) h1 h2 with h5 | h5
      · omega
      · omega
    simp [cl3, this]
  have e4 : eachA l (cl4 l p) = (0, 0, 0, 0) := by
    unfold eachA
    rw [findF_none.2]; rfl
    intro i _ hi
    refine findF_none.2 fun k _ hk => ?_
    have h1 := G.room i k hi (by rw [hf i hi]; exact hk)
    have h2 : taken l p i k ≤ there l p (l.leg i k).to (st p i k) := by
      refine sumF_le fun j _ hj => ?_
      rw [hf j hj]
      refine sumF_le fun m _ hm => ?_
      have hle : leaves l p j m = endT l p j m := by
        unfold leaves endT
        rw [hf j hj]
        by_cases c : m + 1 < (l.tr j).legs.length
        · rw [if_pos c, if_pos c]
        · rw [if_neg c, if_neg c, if_pos (by omega)]
      have hse : st p j m ≤ endT l p j m := by
        obtain ⟨_, _, y1, _, _, _⟩ := B.leg j m hj hm
        rw [← hle]
        unfold leaves
        by_cases c : m + 1 < (l.tr j).legs.length
        · rw [if_pos c]
          have h3 := G.ready j (m + 1) hj (by rw [hf j hj]; exact c)
          obtain ⟨_, _, _, _, y5, _⟩ := B.leg j (m + 1) hj c
          unfold readyT at h3
          rw [if_neg (by omega)] at h3
          simp only [Nat.add_sub_cancel] at h3
          omega
        · rw [if_neg c]; omega
      unfold takes thereF
      rw [hle]
      by_cases c1 : (l.leg j m).to = (l.leg i k).to
      · rw [if_neg (by simp [c1])]
        by_cases c2 : st p j m > st p i k ∨ (st p j m = st p i k ∧ j > i) ∨ (endT l p j m < st p i k ∧ (j ≠ i ∨ m ≠ k))
        · rw [if_pos c2]
          by_cases c3 : (l.leg j m).to = (l.leg i k).to ∧ st p j m ≤ st p i k ∧ st p i k ≤ endT l p j m
          · rw [if_pos c3]; decide
          · rw [if_neg c3]; decide
        · rw [if_neg c2]
          have c3 : (l.leg j m).to = (l.leg i k).to ∧ st p j m ≤ st p i k ∧ st p i k ≤ endT l p j m := by
            refine ⟨c1, by omega, ?_⟩
            by_cases e : j = i ∧ m = k
            · obtain ⟨rfl, rfl⟩ := e; exact hse
            · omega
          rw [if_pos c3]; decide
      · rw [if_pos c1]
        by_cases c3 : (l.leg j m).to = (l.leg i k).to ∧ st p j m ≤ st p i k ∧ st p i k ≤ endT l p j m
        · exact absurd c3.1 c1
        · rw [if_neg c3]; decide
    have h3 : full l p i k = false := by
      unfold full
      simp only [decide_eq_false_iff_not]
      omega
    simp [cl4, h3]
  unfold checkB
  rw [e2, e3, e4]
  rfl
end Go.Proofs.Ythhkbfjolmgloaa
