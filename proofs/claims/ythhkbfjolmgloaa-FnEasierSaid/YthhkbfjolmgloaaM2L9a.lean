/- Along an order that has a plan, no leg begins ahead of the one before it. Plain data alone.
   Lines that are drawn, in plain data: they are right, they have a train, and at most so many legs. Plain data alone. -/
import Derived.Test.YthhkbfjolmgloaaML9a
import Derived.Laws.Bits64b
namespace Go.Proofs.Ythhkbfjolmgloaa
open Go.RowKit
set_option linter.unusedVariables false
set_option linter.unusedSimpArgs false
/-- What was placed stays. -/
theorem placeS_keeps {l : Line} {q : List (List Int)} {c : Int} : ∀ (order : List Int) (k : Nat) (p : List (List Int)) (last : Int), p.length = l.trains.length → placeS l k order p last = (((0, c), q) : PlR) → ∀ i m, m < (p.getD i []).length → st q i m = st p i m ∧ m < (q.getD i []).length := by
  intro order
  induction order with
  | nil => intro k p last _ h i m hm; simp only [placeS, Prod.mk.injEq] at h; obtain ⟨_, rfl⟩ := h; exact ⟨rfl, hm⟩
  | cons x xs ih =>
    intro k p last hp h i m hm
    by_cases hi : 0 ≤ x ∧ x.toNat < l.trains.length ∧ (p.getD x.toNat []).length < (l.tr x.toNat).legs.length
    · cases ht : stepT l p last x.toNat with
      | none => rw [placeS, if_pos hi, ht] at h; simp at h
      | some t =>
        rw [placeS, if_pos hi, ht] at h
        have hip : x.toNat < p.length := by omega
        obtain ⟨a, b⟩ := ih (k + 1) (put p x.toNat t) t (by rw [put_length]; exact hp) h i m (by
          rw [put_len hip]
          by_cases e : i = x.toNat
          · rw [if_pos e]; subst e; omega
          · rw [if_neg e]; exact hm)
        rw [put_st hip, if_neg (by rintro ⟨rfl, rfl⟩; omega)] at a
        exact ⟨a, b⟩
    · rw [placeS, if_neg hi] at h; simp at h
theorem placeA_zero {l : Line} {order : List Int} {a : Int} {q : List (List Int)} (h : placeA l order = (((0, a), q) : PlR)) : right l = true ∧ order.length ≤ 10 ∧ order.length = legsAll l ∧ ∃ c, placeS l 0 order (List.replicate l.trains.length []) 0 = (((0, c), q) : PlR) := by
  unfold placeA at h
  by_cases h1 : right l = true ∧ order.length ≤ 10
  · rw [if_pos h1] at h
    by_cases h2 : (placeS l 0 order (List.replicate l.trains.length []) 0).1.1 = 0
    · rw [if_pos h2] at h
      by_cases h3 : order.length = legsAll l
      · rw [if_pos h3] at h
        simp only [Prod.mk.injEq] at h
        refine ⟨h1.1, h1.2, h3, (placeS l 0 order (List.replicate l.trains.length []) 0).1.2, ?_⟩
        exact Prod.ext (Prod.ext h2 rfl) h.2
      · rw [if_neg h3] at h; simp at h
    · rw [if_neg h2] at h
      simp only [Prod.mk.injEq] at h
      exact absurd (by rw [h.1]) h2
  · rw [if_neg h1] at h; simp at h
/-- A step along an order that has a plan. -/
theorem Placing.went {l : Line} {order : List Int} {k : Nat} {p q : List (List Int)} {last x c : Int} (O : Ok l) (h10 : order.length ≤ 10) (P : Placing l order k p last) (h : order[k]? = some x) (hz : placeS l k (order.drop k) p last = (((0, c), q) : PlR)) :
    ∃ (i : Nat) (t : Int), x = i ∧ i < l.trains.length ∧ (p.getD i []).length < (l.tr i).legs.length ∧ last ≤ t ∧ st q i (p.getD i []).length = t ∧ (p.getD i []).length < (q.getD i []).length ∧ placeS l (k + 1) (order.drop (k + 1)) (put p i t) t = (((0, c), q) : PlR) ∧ Placing l order (k + 1) (put p i t) t := by
  by_cases hi : 0 ≤ x ∧ x.toNat < l.trains.length ∧ (p.getD x.toNat []).length < (l.tr x.toNat).legs.length
  · cases ht : stepT l p last x.toNat with
    | none => rw [placeS_three h hi ht] at hz; simp at hz
    | some t =>
      rw [placeS_go h hi ht] at hz
      have hip : x.toNat < p.length := by rw [P.good.rows]; exact hi.2.1
      have hll := P.last_le
      have hk := lt_of_some h
      have hb := stepT_ok O P.good hi.2.1 hi.2.2 (by omega) ht
      obtain ⟨a, b⟩ := placeS_keeps _ _ _ _ (by rw [put_length]; exact P.good.rows) hz x.toNat (p.getD x.toNat []).length (by rw [put_len_i hip]; omega)
      rw [put_st_new hip] at a
      exact ⟨x.toNat, t, by omega, hi.2.1, hi.2.2, hb.1, a, b, hz, P.step O h10 h hi ht⟩
  · rw [placeS_two h hi] at hz; simp at hz
theorem Placing.all {l : Line} {order : List Int} {q : List (List Int)} {c : Int} (O : Ok l) (h10 : order.length ≤ 10) : ∀ (n k : Nat) (p : List (List Int)) (last : Int), order.length - k = n → Placing l order k p last → placeS l k (order.drop k) p last = (((0, c), q) : PlR) → ∃ t, Placing l order order.length q t := by
  intro n
  induction n with
  | zero =>
    intro k p last hn P hz
    have hk : k = order.length := by have := P.le; omega
    subst hk
    rw [placeS_end (Nat.le_refl _)] at hz
    simp only [Prod.mk.injEq] at hz
    obtain ⟨_, rfl⟩ := hz
    exact ⟨last, P⟩
  | succ n ih =>
    intro k p last hn P hz
    obtain ⟨x, hx⟩ := some_of_lt (l := order) (i := k) (by omega)
    obtain ⟨i, t, _, _, _, _, _, _, hz', P'⟩ := P.went O h10 hx hz
    exact ih (k + 1) _ _ (by omega) P' hz'
theorem placeA_can {l : Line} {order : List Int} {a : Int} {q : List (List Int)} (h : placeA l order = (((0, a), q) : PlR)) : Can l q := by
  obtain ⟨hr, h10, hL, c, hz⟩ := placeA_zero h
  have O := right_iff.1 hr
  obtain ⟨t, P⟩ := Placing.all O h10 order.length 0 _ 0 (by omega) (Placing.start l order) (by rw [List.drop_zero]; exact hz)
  exact P.good.can' O (P.full.1 hL) (by have := P.last_le; omega)
end Go.Proofs.Ythhkbfjolmgloaa
namespace Go.Proofs.Ythhkbfjolmgloaa
open Go.RowKit
set_option linter.unusedVariables false
set_option linter.unusedSimpArgs false
/-- A reader of choices: how many it has read, its seed. -/
structure Cu where
  pos : Nat
  seed : Int
/-- The next number of one byte. -/
def Cu.byte (code : List Int) (c : Cu) : Int := if c.pos < code.length then code.getD c.pos 0 else bits BinOp.and IntKind.u64 (IntKind.u64.wrap (IntKind.u64.wrap (c.seed * 6364136223846793005) + 1442695040888963407) / 1099511627776) 255
def Cu.then_ (code : List Int) (c : Cu) : Cu := if c.pos < code.length then ⟨c.pos + 1, IntKind.u64.wrap (IntKind.u64.wrap (IntKind.u64.wrap (c.seed * 6364136223846793005) + code.getD c.pos 0) + 1442695040888963407)⟩ else ⟨c.pos + 1, IntKind.u64.wrap (IntKind.u64.wrap (c.seed * 6364136223846793005) + 1442695040888963407)⟩
theorem Cu.then_pos (code : List Int) (c : Cu) : (c.then_ code).pos = c.pos + 1 := by
  unfold Cu.then_
  by_cases h : c.pos < code.length
  · rw [if_pos h]
  · rw [if_neg h]
/-- Codes of bytes. -/
def Bytes (code : List Int) : Prop := ∀ (i : Nat) (x : Int), code[i]? = some x → 0 ≤ x ∧ x ≤ 255
theorem Cu.byte_bd {code : List Int} (B : Bytes code) (c : Cu) : 0 ≤ c.byte code ∧ c.byte code ≤ 255 := by
  unfold Cu.byte
  by_cases h : c.pos < code.length
  · rw [if_pos h]
    obtain ⟨x, hx⟩ := some_of_lt h
    rw [getD_some hx]
    exact B _ _ hx
  · rw [if_neg h]
    generalize IntKind.u64.wrap (c.seed * 6364136223846793005) + 1442695040888963407 = y
    rw [IntKind.wrap_u64]
    obtain ⟨n, hn⟩ : ∃ n : Nat, y % 18446744073709551616 / 1099511627776 = (n : Int) := ⟨(y % 18446744073709551616 / 1099511627776).toNat, by omega⟩
    rw [hn, show (255 : Int) = ((255 : Nat) : Int) from rfl, bits_and_u64_nat _ _ (by omega) (by decide)]
    have := Nat.and_le_right (n := n) (m := 255)
    omega
/-- A number from 0 to n - 1, drawn; where there is no choice, nothing is read. -/
def pickC (code : List Int) (n : Int) (c : Cu) : Int × Cu := if n ≤ 1 then (0, c) else (c.byte code % n, c.then_ code)
theorem pickC_bd {code : List Int} (B : Bytes code) (n : Int) (c : Cu) : 0 ≤ (pickC code n c).1 ∧ ((pickC code n c).1 = 0 ∨ (pickC code n c).1 ≤ n - 1) ∧ (pickC code n c).1 ≤ 255 ∧ c.pos ≤ (pickC code n c).2.pos ∧ (pickC code n c).2.pos ≤ c.pos + 1 := by
  unfold pickC
  by_cases h : n ≤ 1
  · rw [if_pos h]; simp
  · rw [if_neg h]
    have hb := Cu.byte_bd B c
    have h1 := Int.emod_nonneg (c.byte code) (b := n) (by omega)
    have h2 := Int.emod_lt_of_pos (c.byte code) (b := n) (by omega)
    have h5 := Int.mul_ediv_add_emod (c.byte code) n
    have h6 : 0 ≤ n * (c.byte code / n) := Int.mul_nonneg (by omega) (Int.ediv_nonneg hb.1 (by omega))
    have h3 : c.byte code % n ≤ c.byte code := by omega
    have h4 := Cu.then_pos code c
    simp only []
    omega
def tracksC (code : List Int) : Nat → List Int → Cu → List Int × Cu
  | 0, acc, c => (acc, c)
  | k + 1, acc, c => tracksC code k (acc ++ [1 + (pickC code 3 c).1 * (pickC code 2 (pickC code 3 c).2).1]) (pickC code 2 (pickC code 3 c).2).2
/-- A train's legs while they are drawn: where it is, its way, when it comes, the legs, how many may be drawn yet. -/
structure LgS where
  at_ : Int
  up : Int
  sum : Int
  legs : List Leg
  left : Nat
  cur : Cu
def upC (n a u : Int) : Int := if a = n - 1 then 0 else if a = 0 then 1 else u
def legC (code : List Int) (n : Int) (s : LgS) : LgS :=
  { at_ := s.at_ + (2 * upC n s.at_ s.up - 1), up := upC n s.at_ s.up, sum := s.sum + ((1 + (pickC code 30 s.cur).1) + (pickC code 6 (pickC code 30 s.cur).2).1),
    legs := s.legs ++ [⟨s.at_ + (2 * upC n s.at_ s.up - 1), 1 + (pickC code 30 s.cur).1, (pickC code 6 (pickC code 30 s.cur).2).1⟩], left := s.left - 1, cur := (pickC code 6 (pickC code 30 s.cur).2).2 }
def legsC (code : List Int) (n : Int) : Nat → LgS → LgS
  | 0, s => s
  | k + 1, s => if s.left = 0 then s else legsC code n k (legC code n s)
/-- What is drawn ahead of a train's legs: its five choices. -/
def headC (code : List Int) (n : Int) (left : Nat) (c : Cu) : Int × Int × LgS :=
  (1 + (pickC code 4 (pickC code 40 (pickC code n c).2).2).1, 1 + (pickC code 4 (pickC code 2 (pickC code 4 (pickC code 40 (pickC code n c).2).2).2).2).1,
   ⟨(pickC code n c).1, (pickC code 2 (pickC code 4 (pickC code 40 (pickC code n c).2).2).2).1, (pickC code 40 (pickC code n c).2).1, [], left, (pickC code 4 (pickC code 2 (pickC code 4 (pickC code 40 (pickC code n c).2).2).2).2).2⟩)
def dueC (code : List Int) (s : LgS) : Int := s.sum + (pickC code 20 s.cur).1 - (pickC code 8 (pickC code 20 s.cur).2).1
def tailC (code : List Int) (f r w : Int) (s : LgS) : Train × Nat × Cu :=
  (⟨f, r, if dueC code s < 0 then 0 else dueC code s, w, s.legs⟩, s.left, (pickC code 8 (pickC code 20 s.cur).2).2)
def trainC (code : List Int) (n : Int) (left : Nat) (c : Cu) : Train × Nat × Cu :=
  tailC code (pickC code n c).1 (pickC code 40 (pickC code n c).2).1 (headC code n left c).1 (legsC code n (headC code n left c).2.1.toNat (headC code n left c).2.2)
def trainsC (code : List Int) (n : Int) : Nat → List Train → Nat → Cu → List Train × Cu
  | 0, ts, _, c => (ts, c)
  | f + 1, ts, left, c => if left = 0 then (ts, c) else trainsC code n f (ts ++ [(trainC code n left c).1]) (trainC code n left c).2.1 (trainC code n left c).2.2
/-- What is drawn ahead of a line's trains: the gap, the tracks, how many legs. -/
def frontC (code : List Int) (most : Int) (c : Cu) : Int × List Int × Nat × Cu :=
  ((pickC code 5 c).1, (tracksC code (2 + (pickC code 4 (pickC code 5 c).2).1).toNat [] (pickC code 4 (pickC code 5 c).2).2).1,
   (2 + (pickC code (most - 1) (tracksC code (2 + (pickC code 4 (pickC code 5 c).2).1).toNat [] (pickC code 4 (pickC code 5 c).2).2).2).1).toNat,
   (pickC code (most - 1) (tracksC code (2 + (pickC code 4 (pickC code 5 c).2).1).toNat [] (pickC code 4 (pickC code 5 c).2).2).2).2)
def lineC (code : List Int) (most : Int) (c : Cu) : Line :=
  ⟨(frontC code most c).2.1, (frontC code most c).1, (trainsC code (frontC code most c).2.1.length 5 [] (frontC code most c).2.2.1 (frontC code most c).2.2.2).1⟩
def drawLine (code : List Int) (most : Int) : Line := lineC code most ⟨0, 0⟩

/-! ### They are right -/
theorem tracksC_ok {code : List Int} (B : Bytes code) : ∀ (k : Nat) (acc : List Int) (c : Cu), (∀ x, x ∈ acc → 1 ≤ x ∧ x ≤ 3) →
    (∀ x, x ∈ (tracksC code k acc c).1 → 1 ≤ x ∧ x ≤ 3) ∧ (tracksC code k acc c).1.length = acc.length + k ∧ (tracksC code k acc c).2.pos ≤ c.pos + 2 * k := by
  intro k
  induction k with
  | zero => intro acc c h; exact ⟨h, rfl, Nat.le_refl _⟩
  | succ k ih =>
    intro acc c h
    obtain ⟨a0, a1, a2, a3, a4⟩ := pickC_bd B 3 c
    obtain ⟨b0, b1, b2, b3, b4⟩ := pickC_bd B 2 (pickC code 3 c).2
    obtain ⟨i1, i2, i3⟩ := ih (acc ++ [1 + (pickC code 3 c).1 * (pickC code 2 (pickC code 3 c).2).1]) (pickC code 2 (pickC code 3 c).2).2 (fun x hx => by
      rcases List.mem_append.1 hx with hx | hx
      · exact h x hx
      · simp only [List.mem_singleton] at hx
        subst hx
        have e : (pickC code 2 (pickC code 3 c).2).1 = 0 ∨ (pickC code 2 (pickC code 3 c).2).1 = 1 := by omega
        rcases e with e | e <;> rw [e] <;> omega)
    refine ⟨i1, ?_, ?_⟩
    · show (tracksC code k _ _).1.length = _
      rw [i2, List.length_append]
      simp
      omega
    · show (tracksC code k _ _).2.pos ≤ _
      omega
/-- A train's legs, while they are drawn, are right. -/
structure LgOk (n f : Int) (s : LgS) : Prop where
  a0 : 0 ≤ s.at_
  a1 : s.at_ ≤ n - 1
  u0 : 0 ≤ s.up
  u1 : s.up ≤ 1
  here : s.at_ = if s.legs.length = 0 then f else (s.legs.getD (s.legs.length - 1) default).to
  leg : ∀ (k : Nat) (x : Leg), s.legs[k]? = some x → 0 ≤ x.to ∧ x.to ≤ n - 1 ∧ 1 ≤ x.run ∧ x.run ≤ 30 ∧ 0 ≤ x.stay ∧ x.stay ≤ 5
  adj : ∀ (k : Nat) (x : Leg), s.legs[k]? = some x → x.to = (if k = 0 then f else (s.legs.getD (k - 1) default).to) + 1 ∨ x.to = (if k = 0 then f else (s.legs.getD (k - 1) default).to) - 1
  sum0 : 0 ≤ s.sum
  sum1 : s.sum ≤ 39 + 35 * s.legs.length
theorem legC_ok {code : List Int} (B : Bytes code) {n f : Int} (hn : 2 ≤ n) {s : LgS} (h : LgOk n f s) : LgOk n f (legC code n s) := by
  obtain ⟨a0, a1, a2, a3, a4⟩ := pickC_bd B 30 s.cur
  obtain ⟨b0, b1, b2, b3, b4⟩ := pickC_bd B 6 (pickC code 30 s.cur).2
  have hu : 0 ≤ upC n s.at_ s.up ∧ upC n s.at_ s.up ≤ 1 ∧ (s.at_ = n - 1 → upC n s.at_ s.up = 0) ∧ (s.at_ = 0 → upC n s.at_ s.up = 1) := by
    have := h.u0; have := h.u1
    unfold upC
    by_cases e : s.at_ = n - 1
    · rw [if_pos e]; omega
    · rw [if_neg e]
      by_cases e2 : s.at_ = 0
      · rw [if_pos e2]; omega
      · rw [if_neg e2]; omega
  have h0 := h.a0; have h1 := h.a1
  have hlen : (legC code n s).legs.length = s.legs.length + 1 := by simp [legC]
  have hget : ∀ (k : Nat), k < s.legs.length → (legC code n s).legs.getD k default = s.legs.getD k default := fun k hk => by
    simp only [legC, List.getD_eq_getElem?_getD]
    rw [List.getElem?_append_left hk]
  have hold : ∀ (k : Nat) (x : Leg), (legC code n s).legs[k]? = some x → (s.legs[k]? = some x ∧ k < s.legs.length) ∨ (k = s.legs.length ∧ x = ⟨s.at_ + (2 * upC n s.at_ s.up - 1), 1 + (pickC code 30 s.cur).1, (pickC code 6 (pickC code 30 s.cur).2).1⟩) := fun k x hx => by
    have hk := lt_of_some hx
    rw [hlen] at hk
    by_cases e : k < s.legs.length
    · left
      simp only [legC] at hx
      rw [List.getElem?_append_left e] at hx
      exact ⟨hx, e⟩
    · right
      have hk2 : k = s.legs.length := by omega
      subst hk2
      simp [legC] at hx
      exact ⟨rfl, hx.symm⟩
  refine ⟨?_, ?_, ?_, ?_, ?_, ?_, ?_, ?_, ?_⟩
  · simp only [legC]; omega
  · simp only [legC]; omega
  · simp only [legC]; omega
  · simp only [legC]; omega
  · rw [hlen, if_neg (by omega), Nat.add_sub_cancel]
    simp [legC]
  · intro k x hx
    rcases hold k x hx with ⟨hx, _⟩ | ⟨_, rfl⟩
    · exact h.leg k x hx
    · simp only []; omega
  · intro k x hx
    rcases hold k x hx with ⟨hx, hk⟩ | ⟨rfl, rfl⟩
    · have := h.adj k x hx
      by_cases e : k = 0
      · rw [if_pos e] at this ⊢; exact this
      · rw [if_neg e] at this ⊢
        rw [hget (k - 1) (by omega)]; exact this
    · have hh := h.here
      by_cases e : s.legs.length = 0
      · rw [if_pos e] at hh ⊢
        simp only []; omega
      · rw [if_neg e] at hh ⊢
        rw [hget _ (by omega), ← hh]
        simp only []; omega
  · have := h.sum0
    simp only [legC]; omega
  · have := h.sum1
    rw [hlen]
    simp only [legC]; omega
theorem legsC_ok {code : List Int} (B : Bytes code) {n f : Int} (hn : 2 ≤ n) : ∀ (k : Nat) (s : LgS), LgOk n f s →
    LgOk n f (legsC code n k s) ∧ (legsC code n k s).legs.length + (legsC code n k s).left = s.legs.length + s.left ∧ (0 < k → 0 < s.left → s.legs.length < (legsC code n k s).legs.length) ∧ s.legs.length ≤ (legsC code n k s).legs.length ∧ (legsC code n k s).cur.pos ≤ s.cur.pos + 2 * k ∧ (legsC code n k s).legs.length ≤ s.legs.length + k := by
  intro k
  induction k with
  | zero => intro s h; exact ⟨h, rfl, fun h => by omega, Nat.le_refl _, Nat.le_refl _, Nat.le_refl _⟩
  | succ k ih =>
    intro s h
    by_cases e : s.left = 0
    · simp only [legsC, if_pos e]
      exact ⟨h, trivial, fun _ h => by omega, Nat.le_refl _, by omega, by omega⟩
    · simp only [legsC, if_neg e]
      obtain ⟨a0, a1, a2, a3, a4⟩ := pickC_bd B 30 s.cur
      obtain ⟨b0, b1, b2, b3, b4⟩ := pickC_bd B 6 (pickC code 30 s.cur).2
      obtain ⟨i1, i2, i3, i4, i5, i6⟩ := ih (legC code n s) (legC_ok B hn h)
      have hlen : (legC code n s).legs.length = s.legs.length + 1 := by simp [legC]
      have hleft : (legC code n s).left = s.left - 1 := rfl
      have hpos : (legC code n s).cur.pos = (pickC code 6 (pickC code 30 s.cur).2).2.pos := rfl
      exact ⟨i1, by omega, fun _ _ => by omega, by omega, by omega, by omega⟩
/-- A train as it is drawn. -/
structure TrD (n : Int) (t : Train) : Prop where
  ok : TrOk n t
  few : t.legs.length ≤ 4
  ready : t.ready ≤ 39
  due : t.due ≤ 500
  leg : ∀ x, x ∈ t.legs → x.run ≤ 30 ∧ x.stay ≤ 5
theorem trainC_ok {code : List Int} (B : Bytes code) {n : Int} (hn : 2 ≤ n) {left : Nat} (hl : left ≤ 10) (h0 : 0 < left) (c : Cu) :
    TrD n (trainC code n left c).1 ∧ (trainC code n left c).1.legs.length + (trainC code n left c).2.1 = left ∧ (trainC code n left c).2.2.pos ≤ c.pos + 20 := by
  obtain ⟨a0, a1, a2, a3, a4⟩ := pickC_bd B n c
  obtain ⟨b0, b1, b2, b3, b4⟩ := pickC_bd B 40 (pickC code n c).2
  obtain ⟨c0, c1, c2, c3, c4⟩ := pickC_bd B 4 (pickC code 40 (pickC code n c).2).2
  obtain ⟨d0, d1, d2, d3, d4⟩ := pickC_bd B 2 (pickC code 4 (pickC code 40 (pickC code n c).2).2).2
  obtain ⟨e0, e1, e2, e3, e4⟩ := pickC_bd B 4 (pickC code 2 (pickC code 4 (pickC code 40 (pickC code n c).2).2).2).2
  have hs : LgOk n (pickC code n c).1 (headC code n left c).2.2 := by
    refine ⟨?_, ?_, ?_, ?_, ?_, ?_, ?_, ?_, ?_⟩
    · simp only [headC]; omega
    · simp only [headC]; omega
    · simp only [headC]; omega
    · simp only [headC]; omega
    · simp [headC]
    · intro k x hx; simp [headC] at hx
    · intro k x hx; simp [headC] at hx
    · simp only [headC]; omega
    · simp only [headC, List.length_nil]; omega
  have hk : (headC code n left c).2.1.toNat ≤ 4 ∧ 0 < (headC code n left c).2.1.toNat := by
    have : (headC code n left c).2.1 = 1 + (pickC code 4 (pickC code 2 (pickC code 4 (pickC code 40 (pickC code n c).2).2).2).2).1 := rfl
    omega
  have hh1 : (headC code n left c).2.2.legs.length = 0 := rfl
  have hh2 : (headC code n left c).2.2.left = left := rfl
  have hh3 : (headC code n left c).2.2.cur.pos ≤ c.pos + 5 := by
    have : (headC code n left c).2.2.cur.pos = (pickC code 4 (pickC code 2 (pickC code 4 (pickC code 40 (pickC code n c).2).2).2).2).2.pos := rfl
    omega
  have hw : (headC code n left c).1 = 1 + (pickC code 4 (pickC code 40 (pickC code n c).2).2).1 := rfl
  obtain ⟨i1, i2, i3, i4, i5, i6⟩ := legsC_ok B hn (headC code n left c).2.1.toNat _ hs
  unfold trainC
  generalize legsC code n (headC code n left c).2.1.toNat (headC code n left c).2.2 = s at i1 i2 i3 i4 i5 i6 ⊢
  obtain ⟨f0, f1, f2, f3, f4⟩ := pickC_bd B 20 s.cur
  obtain ⟨g0, g1, g2, g3, g4⟩ := pickC_bd B 8 (pickC code 20 s.cur).2
  have q0 := i1.sum0
  have q1 := i1.sum1
  have q2 := i3 hk.2 (by omega)
  have hdue : 0 ≤ (if dueC code s < 0 then 0 else dueC code s) ∧ (if dueC code s < 0 then 0 else dueC code s) ≤ 500 := by
    have hd : dueC code s = s.sum + (pickC code 20 s.cur).1 - (pickC code 8 (pickC code 20 s.cur).2).1 := rfl
    by_cases e : dueC code s < 0
    · rw [if_pos e]; omega
    · rw [if_neg e]; omega
  refine ⟨⟨⟨?_, ?_, ?_, ?_, ?_, ?_, ?_, ?_, ?_, ?_, ?_⟩, ?_, ?_, ?_, ?_⟩, ?_, ?_⟩
  · simp only [tailC]; omega
  · simp only [tailC]; omega
  · simp only [tailC]; omega
  · simp only [tailC]; omega
  · simp only [tailC]; omega
  · simp only [tailC]; omega
  · simp only [tailC]; omega
  · simp only [tailC]; omega
  · simp only [tailC]; omega
  · intro k x hx
    have := i1.leg k x hx
    omega
  · intro k x hx
    exact i1.adj k x hx
  · simp only [tailC]; omega
  · simp only [tailC]; omega
  · simp only [tailC]; omega
  · intro x hx
    obtain ⟨k, hk⟩ := List.getElem?_of_mem hx
    have := i1.leg k x hk
    omega
  · simp only [tailC]; omega
  · simp only [tailC]; omega
theorem legsN_append (ts : List Train) (t : Train) : legsN (ts ++ [t]) = legsN ts + t.legs.length := by
  induction ts with
  | nil => simp [legsN]
  | cons y ys ih => simp only [List.cons_append, legsN, ih]; omega
theorem trainsC_ok {code : List Int} (B : Bytes code) {n : Int} (hn : 2 ≤ n) : ∀ (f : Nat) (ts : List Train) (left : Nat) (c : Cu), left ≤ 10 → (∀ t, t ∈ ts → TrD n t) →
    (∀ t, t ∈ (trainsC code n f ts left c).1 → TrD n t) ∧ (trainsC code n f ts left c).1.length ≤ ts.length + f ∧ legsN (trainsC code n f ts left c).1 ≤ legsN ts + left ∧ (0 < f → 0 < left → 0 < (trainsC code n f ts left c).1.length) ∧ ts.length ≤ (trainsC code n f ts left c).1.length := by
  intro f
  induction f with
  | zero => intro ts left c hl h; exact ⟨h, Nat.le_refl _, by simp [trainsC], fun h => by omega, Nat.le_refl _⟩
  | succ f ih =>
    intro ts left c hl h
    by_cases e : left = 0
    · simp only [trainsC, if_pos e]
      exact ⟨h, by omega, by omega, fun _ h => by omega, Nat.le_refl _⟩
    · simp only [trainsC, if_neg e]
      obtain ⟨t1, t2, t3⟩ := trainC_ok B hn hl (by omega) c
      obtain ⟨i1, i2, i3, i4, i5⟩ := ih (ts ++ [(trainC code n left c).1]) (trainC code n left c).2.1 (trainC code n left c).2.2 (by omega) (fun t ht => by
        rcases List.mem_append.1 ht with ht | ht
        · exact h t ht
        · simp only [List.mem_singleton] at ht
          subst ht; exact t1)
      rw [legsN_append] at i3
      rw [List.length_append] at i2 i5
      simp only [List.length_singleton] at i2 i5
      exact ⟨i1, by omega, by omega, fun _ _ => by omega, by omega⟩
/-- A line as it is drawn. -/
structure LineD (most : Int) (l : Line) : Prop where
  ok : Ok l
  legs : (legsN l.trains : Int) ≤ most
  some_ : 0 < l.trains.length
  gap : l.gap ≤ 4
  tr : ∀ t, t ∈ l.trains → TrD l.tracks.length t
theorem drawLine_ok {code : List Int} (B : Bytes code) {most : Int} (h2 : 3 ≤ most) (h10 : most ≤ 10) : LineD most (drawLine code most) := by
  unfold drawLine lineC
  obtain ⟨a0, a1, a2, a3, a4⟩ := pickC_bd B 5 ⟨0, 0⟩
  obtain ⟨b0, b1, b2, b3, b4⟩ := pickC_bd B 4 (pickC code 5 ⟨0, 0⟩).2
  obtain ⟨t1, t2, t3⟩ := tracksC_ok B (2 + (pickC code 4 (pickC code 5 ⟨0, 0⟩).2).1).toNat [] (pickC code 4 (pickC code 5 ⟨0, 0⟩).2).2 (fun x hx => by cases hx)
  obtain ⟨m0, m1, m2, m3, m4⟩ := pickC_bd B (most - 1) (tracksC code (2 + (pickC code 4 (pickC code 5 ⟨0, 0⟩).2).1).toNat [] (pickC code 4 (pickC code 5 ⟨0, 0⟩).2).2).2
  have hlen : 2 ≤ (frontC code most ⟨0, 0⟩).2.1.length ∧ (frontC code most ⟨0, 0⟩).2.1.length ≤ 5 := by
    have : (frontC code most ⟨0, 0⟩).2.1.length = (tracksC code (2 + (pickC code 4 (pickC code 5 ⟨0, 0⟩).2).1).toNat [] (pickC code 4 (pickC code 5 ⟨0, 0⟩).2).2).1.length := rfl
    simp only [List.length_nil] at t2
    omega
  have hleft : 0 < (frontC code most ⟨0, 0⟩).2.2.1 ∧ ((frontC code most ⟨0, 0⟩).2.2.1 : Int) ≤ most := by
    have : (frontC code most ⟨0, 0⟩).2.2.1 = (2 + (pickC code (most - 1) (tracksC code (2 + (pickC code 4 (pickC code 5 ⟨0, 0⟩).2).1).toNat [] (pickC code 4 (pickC code 5 ⟨0, 0⟩).2).2).2).1).toNat := rfl
    omega
  obtain ⟨i1, i2, i3, i4, i5⟩ := trainsC_ok B (n := (frontC code most ⟨0, 0⟩).2.1.length) (by omega) 5 [] (frontC code most ⟨0, 0⟩).2.2.1 (frontC code most ⟨0, 0⟩).2.2.2 (by omega) (fun t ht => by cases ht)
  have i4' := i4 (by omega) hleft.1
  simp only [List.length_nil, legsN] at i2 i3
  refine ⟨⟨?_, ?_, ?_, ?_, ?_, ?_, ?_, ?_⟩, ?_, ?_, ?_, ?_⟩
  · exact hlen.1
  · simp only []; omega
  · exact a0
  · simp only [frontC]; omega
  · simp only []; omega
  · simp only []; omega
  · intro s k hk
    have := t1 k (List.mem_of_getElem? hk)
    omega
  · intro i t ht
    exact (i1 t (List.mem_of_getElem? ht)).ok
  · simp only []; omega
  · exact i4'
  · simp only [frontC]; omega
  · exact i1
end Go.Proofs.Ythhkbfjolmgloaa
