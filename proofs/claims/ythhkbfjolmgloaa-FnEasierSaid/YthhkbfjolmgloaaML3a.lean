/- A right line and a fitting plan, seen by numbers (train, leg, station): the cells that hold them, the bounds. Plain data alone, and reading. -/
import Derived.Test.YthhkbfjolmgloaaMHArrives
namespace Go.Proofs.Ythhkbfjolmgloaa
open Go.RowKit
set_option linter.unusedVariables false
set_option linter.unusedSimpArgs false
/-! ### The first place that answers, and sums, by number -/
def findN {β : Type} (f : Nat → Option β) : Nat → Nat → Option β
  | _, 0 => none
  | i, c + 1 => (f i).or (findN f (i + 1) c)
/-- The first of f i .. f (n - 1) that answers. -/
def findF {β : Type} (f : Nat → Option β) (i n : Nat) : Option β := findN f i (n - i)
theorem findF_at {β : Type} (f : Nat → Option β) {i n : Nat} (h : i < n) : findF f i n = (f i).or (findF f (i + 1) n) := by
  unfold findF
  rw [show n - i = (n - (i + 1)) + 1 by omega]
  rfl
theorem findF_end {β : Type} (f : Nat → Option β) {i n : Nat} (h : n ≤ i) : findF f i n = none := by
  unfold findF
  rw [show n - i = 0 by omega]
  rfl
theorem findF_skip {β : Type} (f : Nat → Option β) {i n : Nat} (h : i < n) (hf : f i = none) : findF f i n = findF f (i + 1) n := by rw [findF_at f h, hf]; rfl
theorem findF_hit {β : Type} (f : Nat → Option β) {i n : Nat} {b : β} (h : i < n) (hf : f i = some b) : findF f i n = some b := by rw [findF_at f h, hf]; rfl
theorem findF_congr {β : Type} {f g : Nat → Option β} {i n : Nat} (h : ∀ j, i ≤ j → j < n → f j = g j) : findF f i n = findF g i n := by
  unfold findF
  generalize hc : n - i = c
  induction c generalizing i with
  | zero => rfl
  | succ c ih => simp only [findN]; rw [h i (by omega) (by omega), ih (fun j h1 h2 => h j (by omega) h2) (by omega)]
theorem findF_none {β : Type} {f : Nat → Option β} {i n : Nat} : findF f i n = none ↔ ∀ j, i ≤ j → j < n → f j = none := by
  unfold findF
  generalize hc : n - i = c
  induction c generalizing i with
  | zero => simp only [findN, true_iff]; intro j h1 h2; omega
  | succ c ih =>
    simp only [findN, Option.or_eq_none_iff]
    rw [ih (by omega)]
    constructor
    · rintro ⟨h1, h2⟩ j h3 h4
      by_cases e : i = j
      · subst e; exact h1
      · exact h2 j (by omega) h4
    · intro h
      exact ⟨h i (Nat.le_refl _) (by omega), fun j h1 h2 => h j (by omega) h2⟩
def sumN (f : Nat → Int) : Nat → Nat → Int
  | _, 0 => 0
  | i, c + 1 => f i + sumN f (i + 1) c
/-- f i + .. + f (n - 1). -/
def sumF (f : Nat → Int) (i n : Nat) : Int := sumN f i (n - i)
theorem sumF_at (f : Nat → Int) {i n : Nat} (h : i < n) : sumF f i n = f i + sumF f (i + 1) n := by
  unfold sumF
  rw [show n - i = (n - (i + 1)) + 1 by omega]
  rfl
theorem sumF_end (f : Nat → Int) {i n : Nat} (h : n ≤ i) : sumF f i n = 0 := by
  unfold sumF
  rw [show n - i = 0 by omega]
  rfl
theorem sumF_congr {f g : Nat → Int} {i n : Nat} (h : ∀ j, i ≤ j → j < n → f j = g j) : sumF f i n = sumF g i n := by
  unfold sumF
  generalize hc : n - i = c
  induction c generalizing i with
  | zero => rfl
  | succ c ih => simp only [sumN]; rw [h i (by omega) (by omega), ih (fun j h1 h2 => h j (by omega) h2) (by omega)]
theorem sumF_bd {f : Nat → Int} {i n : Nat} {b : Int} (h : ∀ j, i ≤ j → j < n → 0 ≤ f j ∧ f j ≤ b) : 0 ≤ sumF f i n ∧ sumF f i n ≤ b * (n - i : Nat) := by
  unfold sumF
  generalize hc : n - i = c
  induction c generalizing i with
  | zero => simp [sumN]
  | succ c ih =>
    simp only [sumN]
    have h1 := h i (Nat.le_refl _) (by omega)
    have h2 := ih (i := i + 1) (fun j h1 h2 => h j (by omega) h2) (by omega)
    have h3 : b * ((c + 1 : Nat) : Int) = b * (c : Int) + b := by rw [Int.natCast_add, Int.mul_add]; simp
    omega
theorem sumF_add (f g : Nat → Int) (i n : Nat) : sumF (fun j => f j + g j) i n = sumF f i n + sumF g i n := by
  unfold sumF
  generalize n - i = c
  induction c generalizing i with
  | zero => rfl
  | succ c ih => simp only [sumN]; rw [ih]; omega
theorem sumF_zero {f : Nat → Int} {i n : Nat} (h : ∀ j, i ≤ j → j < n → f j = 0) : sumF f i n = 0 := by
  unfold sumF
  generalize hc : n - i = c
  induction c generalizing i with
  | zero => rfl
  | succ c ih => simp only [sumN]; rw [h i (by omega) (by omega), ih (fun j h1 h2 => h j (by omega) h2) (by omega)]; rfl
theorem sumF_one {f : Nat → Int} {i n k : Nat} (hi : i ≤ k) (hk : k < n) (h : ∀ j, i ≤ j → j < n → j ≠ k → f j = 0) : sumF f i n = f k := by
  unfold sumF
  generalize hc : n - i = c
  induction c generalizing i with
  | zero => omega
  | succ c ih =>
    simp only [sumN]
    by_cases e : i = k
    · subst e
      have := sumF_zero (f := f) (i := i + 1) (n := n) (fun j h1 h2 => h j (by omega) h2 (by omega))
      unfold sumF at this
      rw [show n - (i + 1) = c by omega] at this
      rw [this]; omega
    · rw [ih (by omega) (fun j h1 h2 => h j (by omega) h2) (by omega), h i (Nat.le_refl _) (by omega) e]; omega

/-! ### By number -/
def Line.tk (l : Line) (s : Nat) : Int := l.tracks.getD s 0
theorem Line.tr_at {l : Line} {i : Nat} (h : i < l.trains.length) : l.trains[i]? = some (l.tr i) := by
  obtain ⟨t, ht⟩ := some_of_lt h
  rw [Line.tr, getD_some ht, ht]
theorem Line.leg_at {l : Line} {i k : Nat} (h : k < (l.tr i).legs.length) : (l.tr i).legs[k]? = some (l.leg i k) := by
  obtain ⟨t, ht⟩ := some_of_lt h
  rw [Line.leg, getD_some ht, ht]
theorem Line.tk_at {l : Line} {s : Nat} (h : s < l.tracks.length) : l.tracks[s]? = some (l.tk s) := by
  obtain ⟨t, ht⟩ := some_of_lt h
  rw [Line.tk, getD_some ht, ht]
theorem row_at {p : List (List Int)} {i : Nat} (h : i < p.length) : p[i]? = some (p.getD i []) := by
  obtain ⟨t, ht⟩ := some_of_lt h
  rw [getD_some ht, ht]
theorem Fits.row {l : Line} {p : List (List Int)} (F : Fits l p) {i : Nat} (h : i < l.trains.length) : (p.getD i []).length = (l.tr i).legs.length := F.len i _ (Line.tr_at h) _ (row_at (by rw [F.rows]; exact h))
theorem st_at {l : Line} {p : List (List Int)} (F : Fits l p) {i k : Nat} (h : i < l.trains.length) (hk : k < (l.tr i).legs.length) : (p.getD i [])[k]? = some (st p i k) := by
  obtain ⟨t, ht⟩ := some_of_lt (l := p.getD i []) (i := k) (by rw [F.row h]; exact hk)
  rw [st, getD_some ht, ht]
/-- What bounds a right line's numbers. -/
structure Bd (l : Line) : Prop where
  n5 : l.trains.length ≤ 5
  nl1 : ∀ i, i < l.trains.length → 1 ≤ (l.tr i).legs.length ∧ (l.tr i).legs.length ≤ 10
  leg : ∀ i k, i < l.trains.length → k < (l.tr i).legs.length → 0 ≤ (l.leg i k).to ∧ (l.leg i k).to.toNat < l.tracks.length ∧ 1 ≤ (l.leg i k).run ∧ (l.leg i k).run ≤ 10000 ∧ 0 ≤ (l.leg i k).stay ∧ (l.leg i k).stay ≤ 10000
  tr : ∀ i, i < l.trains.length → 0 ≤ (l.tr i).ready ∧ (l.tr i).ready ≤ 100000
  gap : 0 ≤ l.gap ∧ l.gap ≤ 10000
  tracks : l.tracks.length ≤ 12
  tk : ∀ s, s < l.tracks.length → 1 ≤ l.tk s ∧ l.tk s ≤ 10
theorem Ok.bd {l : Line} (O : Ok l) : Bd l where
  n5 := O.ntr
  nl1 := fun i h => ⟨(O.train i _ (Line.tr_at h)).some_, TrOk.nlegs O (Line.tr_at h)⟩
  leg := fun i k h hk => by
    have := (O.train i _ (Line.tr_at h)).leg k _ (Line.leg_at hk)
    have := O.n2
    omega
  tr := fun i h => ⟨(O.train i _ (Line.tr_at h)).ready0, (O.train i _ (Line.tr_at h)).ready1⟩
  gap := ⟨O.gap0, O.gap1⟩
  tracks := O.n12
  tk := fun s h => O.track s _ (Line.tk_at h)
theorem Fits.bd {l : Line} {p : List (List Int)} (F : Fits l p) {i k : Nat} (h : i < l.trains.length) (hk : k < (l.tr i).legs.length) : 0 ≤ st p i k ∧ st p i k ≤ 1000000 := F.at_ i _ (row_at (by rw [F.rows]; exact h)) k _ (st_at F h hk)
/-- The cells of a line. -/
structure SeeL (w : World) (l : Line) (A0 A2 : Option Addr) (b0 o0 b2 o2 : Nat) (bl ol cl : Nat → Nat) : Prop where
  base0 : 0 < l.tracks.length → A0 = some ⟨b0, o0, none⟩ ∧ b0 < w.heap.size
  tk : ∀ s, s < l.tracks.length → w.cell? ⟨b0, o0 + s, none⟩ = some (.int .i64 (l.tk s))
  base2 : 0 < l.trains.length → A2 = some ⟨b2, o2, none⟩ ∧ b2 < w.heap.size
  train : ∀ i, i < l.trains.length → w.cell? ⟨b2, o2 + i * 5, none⟩ = some (.int .i64 (l.tr i).frm) ∧ w.cell? ⟨b2, o2 + i * 5 + 1, none⟩ = some (.int .i64 (l.tr i).ready) ∧ w.cell? ⟨b2, o2 + i * 5 + 2, none⟩ = some (.int .i64 (l.tr i).due) ∧ w.cell? ⟨b2, o2 + i * 5 + 3, none⟩ = some (.int .i64 (l.tr i).weight) ∧ w.cell? ⟨b2, o2 + i * 5 + 4, none⟩ = some (.slice (some ⟨bl i, ol i, none⟩) ((l.tr i).legs.length) (cl i)) ∧ bl i < w.heap.size
  leg : ∀ i k, i < l.trains.length → k < (l.tr i).legs.length → w.cell? ⟨bl i, ol i + k * 3, none⟩ = some (.int .i64 (l.leg i k).to) ∧ w.cell? ⟨bl i, ol i + k * 3 + 1, none⟩ = some (.int .i64 (l.leg i k).run) ∧ w.cell? ⟨bl i, ol i + k * 3 + 2, none⟩ = some (.int .i64 (l.leg i k).stay)
/-- The cells of a plan that fits. -/
structure SeeP (w : World) (l : Line) (p : List (List Int)) (A3 : Option Addr) (b3 o3 : Nat) (br or' cr : Nat → Nat) : Prop where
  base : 0 < l.trains.length → A3 = some ⟨b3, o3, none⟩ ∧ b3 < w.heap.size
  row : ∀ i, i < l.trains.length → w.cell? ⟨b3, o3 + i, none⟩ = some (.slice (some ⟨br i, or' i, none⟩) ((l.tr i).legs.length) (cr i)) ∧ br i < w.heap.size
  st : ∀ i k, i < l.trains.length → k < (l.tr i).legs.length → w.cell? ⟨br i, or' i + k, none⟩ = some (.int .i64 (st p i k))
theorem choose_fn {α : Type} [Inhabited α] {n : Nat} {P : Nat → α → Prop} (h : ∀ i, i < n → ∃ x, P i x) : ∃ f : Nat → α, ∀ i, i < n → P i (f i) :=
  ⟨fun i => if hi : i < n then Classical.choose (h i hi) else default, fun i hi => by
    simp only [dif_pos hi]
    exact Classical.choose_spec (h i hi)⟩
theorem seeL {w : World} {l : Line} {A0 A2 : Option Addr} (O : Ok l) (h0 : RdInt w A0 l.tracks) (h2 : RdTrain w A2 l.trains) : ∃ b0 o0 b2 o2 bl ol cl, SeeL w l A0 A2 b0 o0 b2 o2 bl ol cl := by
  obtain ⟨b0, o0, rfl, hb0⟩ := h0.base (j := 0) (by have := O.n2; omega)
  have base : ∃ b2 o2, (0 < l.trains.length → A2 = some ⟨b2, o2, none⟩ ∧ b2 < w.heap.size) := by
    by_cases e : 0 < l.trains.length
    · obtain ⟨b, o, h, hb⟩ := h2.base (j := 0) e
      exact ⟨b, o, fun _ => ⟨h, hb⟩⟩
    · exact ⟨0, 0, fun h => absurd h e⟩
  obtain ⟨b2, o2, hb2⟩ := base
  have key : ∀ i, i < l.trains.length → ∃ x : Nat × Nat × Nat, (w.cell? ⟨b2, o2 + i * 5, none⟩ = some (.int .i64 (l.tr i).frm) ∧ w.cell? ⟨b2, o2 + i * 5 + 1, none⟩ = some (.int .i64 (l.tr i).ready) ∧ w.cell? ⟨b2, o2 + i * 5 + 2, none⟩ = some (.int .i64 (l.tr i).due) ∧ w.cell? ⟨b2, o2 + i * 5 + 3, none⟩ = some (.int .i64 (l.tr i).weight) ∧ w.cell? ⟨b2, o2 + i * 5 + 4, none⟩ = some (.slice (some ⟨x.1, x.2.1, none⟩) ((l.tr i).legs.length) x.2.2) ∧ x.1 < w.heap.size) ∧
      ∀ k, k < (l.tr i).legs.length → w.cell? ⟨x.1, x.2.1 + k * 3, none⟩ = some (.int .i64 (l.leg i k).to) ∧ w.cell? ⟨x.1, x.2.1 + k * 3 + 1, none⟩ = some (.int .i64 (l.leg i k).run) ∧ w.cell? ⟨x.1, x.2.1 + k * 3 + 2, none⟩ = some (.int .i64 (l.leg i k).stay) := by
    intro i hi
    obtain ⟨rfl, hb⟩ := hb2 (by omega)
    obtain ⟨e0, e1, e2, e3, A4, c4, e4, hR⟩ := h2.at_ (Line.tr_at hi)
    obtain ⟨bl, ol, rfl, hbl⟩ := hR.base (j := 0) (by have := (Ok.bd O).nl1 i hi; omega)
    refine ⟨(bl, ol, c4), ⟨e0, e1, e2, e3, e4, hbl⟩, fun k hk => hR.at_ (Line.leg_at hk)⟩
  obtain ⟨f, hf⟩ := choose_fn key
  exact ⟨b0, o0, b2, o2, fun i => (f i).1, fun i => (f i).2.1, fun i => (f i).2.2, fun _ => ⟨rfl, hb0⟩, fun s hs => RdInt.at_ h0 (Line.tk_at hs), hb2, fun i hi => (hf i hi).1, fun i k hi hk => (hf i hi).2 k hk⟩
theorem seeP {w : World} {l : Line} {p : List (List Int)} {A3 : Option Addr} (O : Ok l) (F : Fits l p) (h3 : RdRows w A3 p) : ∃ b3 o3 br or' cr, SeeP w l p A3 b3 o3 br or' cr := by
  have base : ∃ b2 o2, (0 < l.trains.length → A3 = some ⟨b2, o2, none⟩ ∧ b2 < w.heap.size) := by
    by_cases e : 0 < l.trains.length
    · obtain ⟨b, o, h, hb⟩ := h3.base (j := 0) (by rw [F.rows]; exact e)
      exact ⟨b, o, fun _ => ⟨h, hb⟩⟩
    · exact ⟨0, 0, fun h => absurd h e⟩
  obtain ⟨b2, o2, hb2⟩ := base
  have key : ∀ i, i < l.trains.length → ∃ x : Nat × Nat × Nat, (w.cell? ⟨b2, o2 + i, none⟩ = some (.slice (some ⟨x.1, x.2.1, none⟩) ((l.tr i).legs.length) x.2.2) ∧ x.1 < w.heap.size) ∧
      ∀ k, k < (l.tr i).legs.length → w.cell? ⟨x.1, x.2.1 + k, none⟩ = some (.int .i64 (st p i k)) := by
    intro i hi
    obtain ⟨rfl, hb⟩ := hb2 (by omega)
    obtain ⟨A4, c4, e4, hR⟩ := h3.at_ (row_at (p := p) (i := i) (by rw [F.rows]; exact hi))
    have hn := F.row hi
    obtain ⟨bl, ol, rfl, hbl⟩ := hR.base (j := 0) (by have := (Ok.bd O).nl1 i hi; omega)
    rw [hn] at e4
    refine ⟨(bl, ol, c4), ⟨e4, hbl⟩, fun k hk => RdInt.at_ hR (st_at F hi hk)⟩
  obtain ⟨f, hf⟩ := choose_fn key
  exact ⟨b2, o2, fun i => (f i).1, fun i => (f i).2.1, fun i => (f i).2.2, hb2, fun i hi => (hf i hi).1, fun i k hi hk => (hf i hi).2 k hk⟩
end Go.Proofs.Ythhkbfjolmgloaa
