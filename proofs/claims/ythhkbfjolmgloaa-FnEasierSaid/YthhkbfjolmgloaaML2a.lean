/- What a right line is, in plain words; what trains cost. Plain data alone.
   Plans: laws.szIntSS, szPlan, toIntSS, toPlan; spec.l2shape and impl.shaped answer one plain function. Conditions: lists of at most 2^20.
   laws.mark*: numbers are written over memory of the call's own; what else there is stays. Condition: the rows hold at most 2^20 values, the number is at most 2^40.
   laws.markLine, markPlan: numbers are written over a line, a plan of the call's own; what else there is stays. Condition: the rows hold at most 2^20 values.
   laws.mark*, held* over a result: the numbers written are found again. Condition: the row holds at most 2^20 values. -/
import Derived.Test.YthhkbfjolmgloaaMHLineOk
namespace Go.Proofs.Ythhkbfjolmgloaa
open Go.RowKit
set_option linter.unusedVariables false
set_option linter.unusedSimpArgs false
/-- The station from which a leg begins. -/
def Train.at_ (t : Train) (k : Nat) : Int := if k = 0 then t.frm else (t.legs.getD (k - 1) default).to
structure TrOk (n : Int) (t : Train) : Prop where
  frm0 : 0 ≤ t.frm
  frm1 : t.frm ≤ n - 1
  ready0 : 0 ≤ t.ready
  ready1 : t.ready ≤ 100000
  due0 : 0 ≤ t.due
  due1 : t.due ≤ 100000
  weight0 : 1 ≤ t.weight
  weight1 : t.weight ≤ 100
  some_ : 1 ≤ t.legs.length
  leg : ∀ (k : Nat) (x : Leg), t.legs[k]? = some x → 0 ≤ x.to ∧ x.to ≤ n - 1 ∧ 1 ≤ x.run ∧ x.run ≤ 10000 ∧ 0 ≤ x.stay ∧ x.stay ≤ 10000
  adj : ∀ (k : Nat) (x : Leg), t.legs[k]? = some x → x.to = t.at_ k + 1 ∨ x.to = t.at_ k - 1
structure Ok (l : Line) : Prop where
  n2 : 2 ≤ l.tracks.length
  n12 : l.tracks.length ≤ 12
  gap0 : 0 ≤ l.gap
  gap1 : l.gap ≤ 10000
  ntr : l.trains.length ≤ 5
  nlegs : legsN l.trains ≤ 10
  track : ∀ (s : Nat) (k : Int), l.tracks[s]? = some k → 1 ≤ k ∧ k ≤ 10
  train : ∀ (i : Nat) (t : Train), l.trains[i]? = some t → TrOk l.tracks.length t
theorem legsOk_all {n : Int} : ∀ (ls : List Leg) (a : Int), legsOk n a ls = true ↔ ∀ (k : Nat) (x : Leg), ls[k]? = some x → (0 ≤ x.to ∧ x.to ≤ n - 1 ∧ 1 ≤ x.run ∧ x.run ≤ 10000 ∧ 0 ≤ x.stay ∧ x.stay ≤ 10000) ∧ (x.to = (if k = 0 then a else (ls.getD (k - 1) default).to) + 1 ∨ x.to = (if k = 0 then a else (ls.getD (k - 1) default).to) - 1) := by
  intro ls
  induction ls with
  | nil => intro a; simp [legsOk]
  | cons y ys ih =>
    intro a
    simp only [legsOk, Bool.and_eq_true, Bool.or_eq_true, beq_iff_eq, inB_true]
    rw [ih]
    constructor
    · rintro ⟨⟨⟨⟨h1, h2⟩, h3⟩, h4⟩, h5⟩ k x hx
      cases k with
      | zero =>
        simp at hx
        subst hx
        exact ⟨⟨h1.1, h1.2, h3.1, h3.2, h4.1, h4.2⟩, by simpa using h2⟩
      | succ k =>
        simp at hx
        obtain ⟨q1, q2⟩ := h5 k x hx
        refine ⟨q1, ?_⟩
        cases k with
        | zero => simpa using q2
        | succ k => simpa using q2
    · intro h
      obtain ⟨⟨a1, a2, a3, a4, a5, a6⟩, a7⟩ := h 0 y rfl
      refine ⟨⟨⟨⟨⟨a1, a2⟩, by simpa using a7⟩, ⟨a3, a4⟩⟩, ⟨a5, a6⟩⟩, fun k x hx => ?_⟩
      obtain ⟨q1, q2⟩ := h (k + 1) x (by simpa using hx)
      refine ⟨q1, ?_⟩
      cases k with
      | zero => simpa using q2
      | succ k => simpa using q2
theorem trOk_iff {n : Int} {t : Train} : trOk n t = true ↔ TrOk n t := by
  simp only [trOk, Bool.and_eq_true, inB_true, Bool.not_eq_true', beq_eq_false_iff_ne, legsOk_all]
  constructor
  · rintro ⟨⟨⟨⟨⟨h1, h2⟩, h3⟩, h4⟩, h5⟩, h6⟩
    exact ⟨h1.1, h1.2, h2.1, h2.2, h3.1, h3.2, h4.1, h4.2, by omega, fun k x hx => (h6 k x hx).1, fun k x hx => (h6 k x hx).2⟩
  · intro h
    exact ⟨⟨⟨⟨⟨⟨h.frm0, h.frm1⟩, ⟨h.ready0, h.ready1⟩⟩, ⟨h.due0, h.due1⟩⟩, ⟨h.weight0, h.weight1⟩⟩, by have := h.some_; omega⟩, fun k x hx => ⟨h.leg k x hx, h.adj k x hx⟩⟩
theorem findI_none {α β : Type} {f : Nat → α → Option β} {l : List α} {n : Nat} : findI f n l = none ↔ ∀ (i : Nat) (x : α), l[i]? = some x → f (n + i) x = none := by
  induction l generalizing n with
  | nil => simp [findI]
  | cons y ys ih =>
    simp only [findI, Option.or_eq_none_iff, ih]
    constructor
    · rintro ⟨h1, h2⟩ i x hx
      cases i with
      | zero => simp at hx; subst hx; exact h1
      | succ i => simp at hx; have := h2 i x hx; rwa [show n + 1 + i = n + (i + 1) by omega] at this
    · intro h
      refine ⟨h 0 y rfl, fun i x hx => ?_⟩
      have := h (i + 1) x (by simpa using hx)
      rwa [show n + (i + 1) = n + 1 + i by omega] at this
theorem right_iff {l : Line} : right l = true ↔ Ok l := by
  have key : right l = true ↔ cntOk l = true ∧ findI (fun i k => if inB k 1 10 then none else some i) 0 l.tracks = none ∧ findI (fun i t => if trOk l.tracks.length t then none else some i) 0 l.trains = none := by
    unfold right fault
    cases hc : cntOk l with
    | false => simp
    | true =>
      cases h1 : findI (fun i k => if inB k 1 10 then none else some i) 0 l.tracks with
      | some i => simp
      | none =>
        cases h2 : findI (fun i t => if trOk l.tracks.length t then none else some i) 0 l.trains with
        | some i => simp
        | none => simp
  rw [key, findI_none, findI_none]
  simp only [cntOk, Bool.and_eq_true, inB_true, decide_eq_true_eq]
  constructor
  · rintro ⟨⟨⟨⟨h1, h2⟩, h3⟩, h4⟩, h5, h6⟩
    refine ⟨by omega, by omega, h2.1, h2.2, h3, h4, fun s k hk => ?_, fun i t ht => ?_⟩
    · have q := h5 s k hk
      by_cases e : 1 ≤ k ∧ k ≤ 10
      · exact e
      · rw [if_neg e] at q; simp at q
    · have q := h6 i t ht
      cases e : trOk l.tracks.length t with
      | true => exact trOk_iff.1 e
      | false => rw [e] at q; simp at q
  · intro h
    refine ⟨⟨⟨⟨⟨by have := h.n2; omega, by have := h.n12; omega⟩, ⟨h.gap0, h.gap1⟩⟩, h.ntr⟩, h.nlegs⟩, fun i x hx => ?_, fun i x hx => ?_⟩
    · rw [if_pos (h.track i x hx)]
    · rw [trOk_iff.2 (h.train i x hx)]; rfl
/-- How long legs take, each with its stay. -/
def legSum : List Leg → Int
  | [] => 0
  | x :: xs => x.stay + x.run + legSum xs
theorem legSum_at {ls : List Leg} {i : Nat} {x : Leg} (h : ls[i]? = some x) : legSum (ls.drop i) = x.stay + x.run + legSum (ls.drop (i + 1)) := by
  rw [drop_some h]
  rfl
theorem legSum_end {ls : List Leg} {i : Nat} (h : ls.length ≤ i) : legSum (ls.drop i) = 0 := by
  rw [drop_end h]
  rfl
def aloneT (t : Train) : Int := t.ready + legSum t.legs
def lateT (t : Train) (e : Int) : Int := t.weight * max 0 (e - t.due)
def least (ts : List Train) : Int := sumI (fun _ t => lateT t (aloneT t)) 0 ts
theorem legSum_bd {n : Int} {ls : List Leg} (h : ∀ (k : Nat) (x : Leg), ls[k]? = some x → 1 ≤ x.run ∧ x.run ≤ 10000 ∧ 0 ≤ x.stay ∧ x.stay ≤ 10000) : 0 ≤ legSum ls ∧ legSum ls ≤ 20000 * ls.length := by
  induction ls with
  | nil => simp [legSum]
  | cons x xs ih =>
    have h0 := h 0 x rfl
    have h1 := ih (fun k y hy => h (k + 1) y (by simpa using hy))
    simp only [legSum, List.length_cons, Int.natCast_add, Int.natCast_one]
    omega
theorem TrOk.nlegs {l : Line} (h : Ok l) {i : Nat} {t : Train} (ht : l.trains[i]? = some t) : t.legs.length ≤ 10 := Nat.le_trans (legsN_le ht) h.nlegs
theorem aloneT_bd {l : Line} (h : Ok l) {i : Nat} {t : Train} (ht : l.trains[i]? = some t) : 0 ≤ aloneT t ∧ aloneT t ≤ 300000 := by
  have hT := h.train i t ht
  have hb := legSum_bd (n := 0) (ls := t.legs) (fun k x hx => by have := hT.leg k x hx; omega)
  have hn := TrOk.nlegs h ht
  have := hT.ready0; have := hT.ready1
  unfold aloneT
  omega
theorem lateT_bd {n e : Int} {t : Train} (h : TrOk n t) (h1 : e ≤ 2000000) : 0 ≤ lateT t e ∧ lateT t e ≤ 200000000 := by
  unfold lateT
  have hw0 := h.weight0; have hw1 := h.weight1; have hd := h.due0
  have hm : 0 ≤ max 0 (e - t.due) ∧ max 0 (e - t.due) ≤ 2000000 := by omega
  constructor
  · exact Int.mul_nonneg (by omega) hm.1
  · calc t.weight * max 0 (e - t.due) ≤ 100 * max 0 (e - t.due) := Int.mul_le_mul_of_nonneg_right hw1 hm.1
      _ ≤ 100 * 2000000 := Int.mul_le_mul_of_nonneg_left hm.2 (by omega)
      _ = 200000000 := by omega
end Go.Proofs.Ythhkbfjolmgloaa
namespace Go.Proofs.Ythhkbfjolmgloaa
open Go.RowKit
set_option linter.unusedVariables false
set_option linter.unusedSimpArgs false
/-- How many numbers rows have in all. -/
def rowsN : List (List Int) → Nat
  | [] => 0
  | r :: rs => r.length + rowsN rs
theorem rowsN_at {rs : List (List Int)} {i : Nat} {r : List Int} (h : rs[i]? = some r) : rowsN (rs.drop i) = r.length + rowsN (rs.drop (i + 1)) := by
  rw [drop_some h]
  rfl
theorem rowsN_end {rs : List (List Int)} {i : Nat} (h : rs.length ≤ i) : rowsN (rs.drop i) = 0 := by
  rw [drop_end h]
  rfl
theorem rowsN_le {rs : List (List Int)} {i : Nat} {r : List Int} (h : rs[i]? = some r) : r.length ≤ rowsN rs := by
  induction rs generalizing i with
  | nil => simp at h
  | cons y ys ih =>
    cases i with
    | zero => simp at h; subst h; simp [rowsN]
    | succ i => simp at h; have := ih h; simp [rowsN]; omega
set_option maxRecDepth 100000 in
set_option maxHeartbeats 1000000 in
theorem szIntSS_any {w : World} {rs : List (List Int)} {A : Option Addr} (c : Nat) (hA : RdRows w A rs) (left : Int) (hn : rs.length ≤ 9223372036854775807) (hl : ∀ (i : Nat) (t : List Int), rs[i]? = some t → t.length ≤ 9223372036854775807) (h0 : 0 ≤ left) (h1 : left ≤ 1048576) :
    Calls Try.prog 104 #[.slice A rs.length c, .int .i64 left] w fun e w' => e = .returned (.int .i64 (cut left (rs.length + rowsN rs))) ∧ Ext w w' := by
  by_cases h : left < rs.length
  · have hc : cut left (rs.length + rowsN rs) = -1 := cut_neg (by omega)
    have HC := Lib.hid hc; clear hc
    go_enter Try.func104, Try.ntmps104
    go_wp2
    go_ret
    exact ⟨ret_i64 HC.out.symm, Ext.refl _⟩
  · go_enter Try.func104, Try.ntmps104
    go_wp2
    go_loopw [1, 5] (fun a j wr => ∃ (jj : Nat) (q : Int), jj ≤ rs.length ∧ j = .int .i64 jj ∧ a = .int .i64 q ∧ 0 ≤ q ∧ q ≤ 1048576 ∧ Hid (cut q (rowsN (rs.drop jj)) = cut left (rs.length + rowsN rs)) ∧ Ext w wr) (fun _ j _ => rs.length - (intOf j).toNat)
    case atStart => exact ⟨0, left - rs.length, Nat.zero_le _, rfl, rfl, by omega, by omega, by simp [Hid, cut]; omega, Ext.refl _⟩
    case round =>
      obtain ⟨jj, q, hjj, rfl, rfl, hq0, hq1, HS, hE0⟩ := hrel
      obtain ⟨hcl, hup⟩ := (Lp.of_ext hE0).open0
      by_cases hlt : jj < rs.length
      · obtain ⟨t, ht⟩ := hid_of_lt hlt
        obtain ⟨b, o, rfl, hb⟩ := hA.base hlt
        obtain ⟨A4, c4, e4, hR⟩ := hA.at_ ht.out
        have hN := hl _ _ ht.out
        by_cases hq : q < t.length
        · have hcq := cut_neg hq
          go_wp2_with (go_at_call 73; refine (szIntS_any _ _ _ _ _ hN hq0 hq1).mono ?_; rintro e w' ⟨rfl, hE⟩)
          go_ret
          exact ⟨ret_i64 (by rw [← HS.out, rowsN_at ht.out, cut_neg (by omega)]), hE0.trans hE⟩
        · have hcq := cut_ok hq
          have hq' : 0 ≤ q - t.length := by omega
          go_wp2_with (go_at_call 73; refine (szIntS_any _ _ _ _ _ hN hq0 hq1).mono ?_; rintro e w' ⟨rfl, hE⟩)
          exact ⟨⟨jj + 1, q - t.length, by omega, by go_num, rfl, by omega, by omega, by rw [← HS.out, rowsN_at ht.out]; unfold Hid cut; omega, hE0.trans hE⟩, (by simp [intOf]; omega)⟩
      · have he : rowsN (rs.drop jj) = 0 := rowsN_end (by omega)
        have HE := Lib.hid he; clear he
        go_wp2
        go_ret
        exact ⟨ret_i64 (by rw [← HS.out, HE.out]; unfold cut; omega), hE0⟩
def planSize (p : List (List Int)) : Nat := p.length + rowsN p
set_option maxRecDepth 100000 in
set_option maxHeartbeats 1000000 in
theorem szPlan_any {w : World} {p : List (List Int)} {v : Value} (hp : IsPlan w p v) (hn : p.length ≤ 9223372036854775807) (hl : ∀ (i : Nat) (t : List Int), p[i]? = some t → t.length ≤ 9223372036854775807) (left : Int) (h0 : 0 ≤ left) (h1 : left ≤ 1048576) :
    Calls Try.prog 38 #[v, .int .i64 left] w fun e w' => e = .returned (.int .i64 (cut left (planSize p))) ∧ Ext w w' := by
  obtain ⟨A0, c0, rfl, hR0⟩ := hp
  have HR := Lib.hid hR0; clear hR0
  by_cases h : left < (planSize p : Nat)
  · have hc : cut left (p.length + rowsN p) = -1 := cut_neg h
    have hc2 : cut left (planSize p) = -1 := cut_neg h
    have HC := Lib.hid hc2; clear hc2
    go_enter Try.func38, Try.ntmps38
    go_wp2_with (go_at_call 104; refine (szIntSS_any c0 (HR.out.ext (by repeat (first | (with_reducible assumption) | (with_reducible exact Ext.refl _) | apply Ext.alloc | apply Ext.drewN | apply Ext.drew))) _ hn hl h0 h1).mono ?_; rintro e w1 ⟨rfl, hE⟩)
    go_ret
    exact ⟨ret_i64 HC.out.symm, Ext.trans (by repeat (first | (with_reducible assumption) | (with_reducible exact Ext.refl _) | apply Ext.alloc | apply Ext.drewN | apply Ext.drew)) hE⟩
  · have hc : cut left (p.length + rowsN p) = left - (p.length + rowsN p : Nat) := cut_ok h
    have hc2 : cut left (planSize p) = left - (p.length + rowsN p : Nat) := cut_ok h
    have hc3 : 0 ≤ left - (p.length + rowsN p : Nat) := by unfold planSize at h; omega
    have HC := Lib.hid hc2; clear hc2
    go_enter Try.func38, Try.ntmps38
    go_wp2_with (go_at_call 104; refine (szIntSS_any c0 (HR.out.ext (by repeat (first | (with_reducible assumption) | (with_reducible exact Ext.refl _) | apply Ext.alloc | apply Ext.drewN | apply Ext.drew))) _ hn hl h0 h1).mono ?_; rintro e w1 ⟨rfl, hE⟩)
    go_ret
    exact ⟨ret_i64 HC.out.symm, Ext.trans (by repeat (first | (with_reducible assumption) | (with_reducible exact Ext.refl _) | apply Ext.alloc | apply Ext.drewN | apply Ext.drew)) hE⟩

/-! ### Rows of the call's own -/
/-- Slices' values, of which the first k are rows of the call's own, each in a block of its own. -/
structure RowVals (B : Nat) (w : World) (k : Nat) (vs : List Value) (xs : List (List Int)) : Prop where
  len : vs.length = xs.length
  row : ∀ (j : Nat) (x : List Int), j < k → xs[j]? = some x → ∃ u, vs[j]? = some u ∧ OwnInts B w u x
theorem RowVals.map {B B' k : Nat} {w w' : World} {vs : List Value} {xs : List (List Int)} (h : RowVals B w k vs xs) (f : ∀ u x, OwnInts B w u x → OwnInts B' w' u x) : RowVals B' w' k vs xs :=
  ⟨h.len, fun j x hj hx => by
    obtain ⟨u, h1, h2⟩ := h.row j x hj hx
    exact ⟨u, h1, f _ _ h2⟩⟩
theorem RowVals.set {B k : Nat} {w : World} {vs : List Value} {xs : List (List Int)} (h : RowVals B w k vs xs) {x : List Int} (hx : xs[k]? = some x) {u : Value} (hu : OwnInts B w u x) : RowVals B w (k + 1) (vs.set k u) xs :=
  ⟨by simpa using h.len, fun j y hj hy => by
    by_cases e : k = j
    · subst e
      obtain rfl : x = y := by rw [hx] at hy; injection hy
      exact ⟨u, by rw [List.getElem?_set_self (by rw [h.len]; exact lt_of_some hx)], hu⟩
    · obtain ⟨v, h1, h2⟩ := h.row j y (by omega) hy
      exact ⟨v, by rw [List.getElem?_set_ne e]; exact h1, h2⟩⟩
def OwnRows (B : Nat) (w : World) (v : Value) (xs : List (List Int)) : Prop := ∃ g vs, v = .slice (some ⟨g, 0, none⟩) xs.length xs.length ∧ B ≤ g ∧ w.heap[g]? = some (.cells vs.toArray 23 (0, 0)) ∧ RowVals B w xs.length vs xs
theorem OwnRows.ext {B : Nat} {w w' : World} {v : Value} {xs : List (List Int)} (h : OwnRows B w v xs) (e : Ext w w') : OwnRows B w' v xs := by
  obtain ⟨g, vs, h1, h2, h3, h4⟩ := h
  exact ⟨g, vs, h1, h2, e.box h3, h4.map (fun _ _ h => h.ext e)⟩
theorem OwnRows.far {B : Nat} {w : World} {v : Value} {xs : List (List Int)} (h : OwnRows B w v xs) {g : Nat} (hg : g < B) (j : Nat) (u : Value) : OwnRows B (w.setCell ⟨g, j, none⟩ u) v xs := by
  obtain ⟨g', vs, h1, h2, h3, h4⟩ := h
  exact ⟨g', vs, h1, h2, box_set_far h3 j u (by omega), h4.map (fun _ _ h => h.far hg j u)⟩
theorem OwnRows.mono {B B' : Nat} {w : World} {v : Value} {xs : List (List Int)} (h : OwnRows B w v xs) (hB : B' ≤ B) : OwnRows B' w v xs := by
  obtain ⟨g', vs, h1, h2, h3, h4⟩ := h
  exact ⟨g', vs, h1, by omega, h3, h4.map (fun _ _ h => h.mono hB)⟩
theorem OwnRows.rd {B : Nat} {w : World} {v : Value} {xs : List (List Int)} (h : OwnRows B w v xs) : ∃ A c, v = .slice A xs.length c ∧ RdRows w A xs := by
  obtain ⟨g, vs, h1, h2, h3, h4⟩ := h
  refine ⟨_, _, h1, fun j x hx => ⟨g, 0, rfl, box_lt h3, ?_⟩⟩
  obtain ⟨u, hr, ho⟩ := h4.row j x (lt_of_some hx) hx
  obtain ⟨A, c, rfl, hR⟩ := ho.rd
  refine ⟨A, c, ?_, hR⟩
  rw [box_cell h3, List.getElem?_toArray, Nat.zero_add, Nat.mul_one, hr]
set_option maxRecDepth 100000 in
set_option maxHeartbeats 1000000 in
theorem toIntSS_any {w : World} {xs : List (List Int)} {A : Option Addr} (c : Nat) (hA : RdRows w A xs) (hn : xs.length ≤ 1048576) (hl : ∀ (i : Nat) (t : List Int), xs[i]? = some t → t.length ≤ 1048576) :
    Calls Try.prog 106 #[.slice A xs.length c] w fun e w' => ∃ v, e = .returned v ∧ OwnRows w.heap.size w' v xs ∧ Ext w w' := by
  have hmk := make_any 40 23 _ 1 24 Try.underlying40 info23 rfl xs.length (by omega) (by omega)
  have hz : (List.replicate xs.length (Value.slice none 0 0).cells.toList).flatten = List.replicate xs.length (Value.slice none 0 0) := by
    rw [show (Value.slice none 0 0).cells.toList = [Value.slice none 0 0] from rfl]
    generalize xs.length = n
    induction n with
    | zero => rfl
    | succ n ih => rw [List.replicate_succ, List.flatten_cons, ih, List.replicate_succ]; rfl
  rw [hz] at hmk
  go_enter Try.func106, Try.ntmps106
  go_wp2
  clear hmk hz
  go_loopw [4] (fun j wr => ∃ (jj : Nat) (vs : List Value), jj ≤ xs.length ∧ j = .int .i64 jj ∧ Ext w wr ∧ wr.heap[w.heap.size]? = some (.cells vs.toArray 23 (0, 0)) ∧ RowVals (w.heap.size + 1) wr jj vs xs) (fun j _ => xs.length - (intOf j).toNat)
  case atStart => exact ⟨0, List.replicate xs.length (Value.slice none 0 0), Nat.zero_le _, rfl, (by repeat (first | (with_reducible assumption) | (with_reducible exact Ext.refl _) | apply Ext.alloc | apply Ext.drewN | apply Ext.drew)), by simpa using box_new w _, by simp, fun j x hj _ => absurd hj (by omega)⟩
  case round =>
    obtain ⟨jj, vs, hjj, rfl, hE0, hB, hT⟩ := hrel
    obtain ⟨hcl, hup⟩ := (Lp.of_ext hE0).open0
    have HB := Lib.hid hB; clear hB
    have HT := Lib.hid hT; clear hT
    have hlt0 : w.heap.size < wr.heap.size := box_lt HB.out
    by_cases hlt : jj < xs.length
    · obtain ⟨x, hx⟩ := hid_of_lt hlt
      obtain ⟨b, o, rfl, hb⟩ := hA.base hlt
      obtain ⟨A4, c4, e4, hR⟩ := hA.at_ hx.out
      have HR := Lib.hid (RdInt.ext hR hE0); clear hR
      have hN := hl _ _ hx.out
      obtain ⟨r, hr⟩ := hid_of_lt (l := vs) (i := jj) (by rw [HT.out.len]; exact hlt)
      go_wp2_with (go_at_call 64; refine (toIntS_any c4 HR.out hN).mono ?_; rintro e w1 ⟨rfl, hU, hE⟩; have HU : Hid (OwnInts wr.heap.size w1 (.slice (some ⟨wr.heap.size, 0, none⟩) x.length x.length) x) := ⟨_, rfl, Nat.le_refl _, hU⟩; clear hU; have HB1 := Lib.hid (hE.box HB.out); have fr := box_frozen HB1.out; have g0 : w1.cell? ⟨w.heap.size, jj, none⟩ = some r := (box_cell HB1.out _).trans ((List.getElem?_toArray ..).trans hr.out))
      refine ⟨⟨jj + 1, vs.set jj (.slice (some ⟨wr.heap.size, 0, none⟩) x.length x.length), by omega, by go_num, Ext.setCell (hE0.trans hE) (Nat.le_refl _) _, ?_, ?_⟩, (by simp [intOf]; omega)⟩
      · rw [box_set HB1.out _ _]
        simp
      · have h1 := (HT.out.map (fun _ _ h => h.ext hE)).set hx.out (HU.out.mono (by omega))
        exact h1.map (fun _ _ h => h.far (by omega) _ _)
    · have he : jj = xs.length := by omega
      have HE := Lib.hid he; clear he
      go_wp2
      go_ret
      exact ⟨_, rfl, ⟨_, vs, rfl, Nat.le_refl _, HB.out, ⟨HT.out.len, fun j x hj hx => by
        obtain ⟨u, h1, h2⟩ := HT.out.row j x (by rw [HE.out]; exact hj) hx
        exact ⟨u, h1, h2.mono (by omega)⟩⟩⟩, hE0⟩
def OwnPlan (B : Nat) (w : World) (v : Value) (p : List (List Int)) : Prop := ∃ g, v = .agg #[.slice (some ⟨g, 0, none⟩) p.length p.length] ∧ OwnRows B w (.slice (some ⟨g, 0, none⟩) p.length p.length) p
theorem OwnPlan.rd {B : Nat} {w : World} {v : Value} {p : List (List Int)} (h : OwnPlan B w v p) : IsPlan w p v := by
  obtain ⟨g, rfl, h1⟩ := h
  obtain ⟨A, c, e, hR⟩ := h1.rd
  rw [e]
  exact ⟨A, c, rfl, hR⟩
theorem OwnPlan.ext {B : Nat} {w w' : World} {v : Value} {p : List (List Int)} (h : OwnPlan B w v p) (e : Ext w w') : OwnPlan B w' v p := by
  obtain ⟨g, rfl, h1⟩ := h
  exact ⟨g, rfl, h1.ext e⟩
set_option maxRecDepth 100000 in
set_option maxHeartbeats 1000000 in
theorem toPlan_any {w : World} {p : List (List Int)} {v : Value} (hp : IsPlan w p v) (hn : p.length ≤ 1048576) (hl : ∀ (i : Nat) (t : List Int), p[i]? = some t → t.length ≤ 1048576) :
    Calls Try.prog 40 #[v] w fun e w' => ∃ u, e = .returned u ∧ OwnPlan w.heap.size w' u p ∧ Ext w w' := by
  obtain ⟨A0, c0, rfl, hR⟩ := hp
  have HR := Lib.hid hR; clear hR
  go_enter Try.func40, Try.ntmps40
  go_wp2_with (go_at_call 106; refine (toIntSS_any c0 (HR.out.ext (by repeat (first | (with_reducible assumption) | (with_reducible exact Ext.refl _) | apply Ext.alloc | apply Ext.drewN | apply Ext.drew))) hn hl).mono ?_; rintro e w1 ⟨u, rfl, ⟨gu, vs, rfl, hgu, hU1, hU2⟩, hE⟩; simp only [alloc_size] at hgu;  have HU : Hid (OwnRows (w.heap.size + 1 + 1 + 1) w1 (.slice (some ⟨gu, 0, none⟩) p.length p.length) p) := ⟨gu, vs, rfl, by omega, hU1, hU2.map (fun _ _ h => h.mono (by simp))⟩; clear hU1 hU2;  have hS := Lp.trans (bs := [(w.heap.size + 1 + 1, #[.slice none 0 0], 42), (w.heap.size + 1, #[.slice none 0 0], 42)]) ((((Lp.nil w).alloc _).newAt _ _ (by simp)).newAt _ _ (by simp)) hE; obtain ⟨k1, k2, k3, k4, k5, k6⟩ := hS.open2; have fr1 := box_frozen (hS.box _ List.mem_cons_self); have fr2 := box_frozen (hS.box _ (List.mem_cons_of_mem _ List.mem_cons_self)))
  refine bodyPost_ret (v := .agg #[.slice (some ⟨gu, 0, none⟩) p.length p.length]) (by simp [results, Try.results40, go_sem, k1, k2, k3, k4, k5, k6]) rfl ⟨_, rfl, ⟨gu, rfl, ?_⟩, (by repeat (first | (with_reducible exact hS.ext) | (with_reducible assumption) | (with_reducible exact Ext.refl _) | with_reducible apply Ext.alloc | with_reducible apply Ext.drewN | with_reducible apply Ext.drew | with_reducible refine Ext.setCell ?_ (by simp only []; omega) _))⟩
  exact ((HU.out.far (by omega) _ _).far (by omega) _ _).mono (by omega)

/-! ### Shape -/
def rowOk (l : Line) (i : Nat) (r : List Int) : Bool := (r.length == (l.trains.getD i default).legs.length) && (findI (fun _ x => if inB x 0 1000000 then none else some ()) 0 r).isNone
def shapeOk (l : Line) (p : List (List Int)) : Bool := (p.length == l.trains.length) && (findI (fun i r => if rowOk l i r then none else some ()) 0 p).isNone
set_option maxRecDepth 100000 in
set_option maxHeartbeats 1000000 in
theorem l2shape_any {w : World} {l : Line} {p : List (List Int)} {u v : Value} (hl : IsLine w l u) (hp : IsPlan w p v) (hpn : p.length ≤ 1048576) (hln : l.trains.length ≤ 1048576) (hpl : ∀ (i : Nat) (t : List Int), p[i]? = some t → t.length ≤ 1048576) :
    Calls Try.prog 105 #[u, v] w fun e w' => e = .returned (.bool (shapeOk l p)) ∧ Ext w w' := by
  obtain ⟨A0, c0, A2, c2, rfl, h0, h2⟩ := hl
  obtain ⟨A3, c3, rfl, h3⟩ := hp
  clear h0
  by_cases hP : p.length = l.trains.length
  · have HP := Lib.hid hP
    have hP' : ((p.length : Int) != l.trains.length) = false := by rw [hP]; simp
    clear hP
    go_enter Try.func105, Try.ntmps105
    go_wp2_with fail
    clear hP'
    go_loopw [19] (fun j wr => ∃ (jj : Nat), jj ≤ p.length ∧ j = .int .i64 jj ∧ Hid (findI (fun i r => if rowOk l i r then none else some ()) jj (p.drop jj) = findI (fun i r => if rowOk l i r then none else some ()) 0 p) ∧ Lp w wr [(w.heap.size + 1, #[.slice A3 p.length c3], 42), (w.heap.size, #[.slice A0 l.tracks.length c0, .int .i64 l.gap, .slice A2 l.trains.length c2], 33)]) (fun j _ => p.length - (intOf j).toNat)
    case atStart => exact ⟨0, Nat.zero_le _, rfl, by simp [Hid], (by repeat (first | (with_reducible exact hS) | (with_reducible exact Lp.start2 _ _ _ _ _) | apply Lp.alloc | apply Lp.drewN | apply Lp.drew))⟩
    case round =>
      obtain ⟨jj, hjj, rfl, HS, hS⟩ := hrel
      obtain ⟨k1, k2, k3, k4, k5, k6⟩ := hS.open2
      by_cases hlt : jj < p.length
      · obtain ⟨r, hr⟩ := hid_of_lt hlt
        have hlt' : jj < l.trains.length := by rw [← HP.out]; exact hlt
        obtain ⟨t, ht⟩ := hid_of_lt hlt'
        obtain ⟨b, o, rfl, hb⟩ := h3.base hlt
        obtain ⟨A6, c6, f0, hR6⟩ := h3.at_ hr.out
        obtain ⟨b', o', rfl, hb'⟩ := h2.base hlt'
        obtain ⟨e0, e1, e2, e3, A4, c4, e4, hR⟩ := h2.at_ ht.out
        have HN := Lib.hid (findI_at (fun i r => if rowOk l i r then none else some ()) hr.out)
        have hrl := hpl _ _ hr.out
        by_cases hq : r.length = t.legs.length
        · have HQ := Lib.hid hq
          have hq' : ((r.length : Int) != t.legs.length) = false := by rw [hq]; simp
          clear hq
          go_wp2_with fail
          clear k1 k2 k3 k4 k5 k6 hq' f0 e0 e1 e2 e3 e4
          go_loopw [36] (fun j wi => ∃ (m : Nat), m ≤ r.length ∧ j = .int .i64 m ∧ Hid (findI (fun _ x => if inB x 0 1000000 then none else some ()) m (r.drop m) = findI (fun _ x => if inB x 0 1000000 then none else some ()) 0 r) ∧ Lp w wi [(w.heap.size + 1, #[.slice (some ⟨b, o, none⟩) p.length c3], 42), (w.heap.size, #[.slice A0 l.tracks.length c0, .int .i64 l.gap, .slice (some ⟨b', o', none⟩) l.trains.length c2], 33)]) (fun j _ => r.length - (intOf j).toNat)
          case atStart => exact ⟨0, Nat.zero_le _, rfl, by simp [Hid], (by repeat (first | (with_reducible exact hS) | apply Lp.alloc | apply Lp.drewN | apply Lp.drew))⟩
          case round =>
            clear hS
            obtain ⟨m, hm, rfl, HS2, hS⟩ := hrel
            obtain ⟨k1, k2, k3, k4, k5, k6⟩ := hS.open2
            by_cases hlm : m < r.length
            · obtain ⟨x, hx⟩ := hid_of_lt hlm
              obtain ⟨b6, o6, rfl, hb6⟩ := hR6.base hlm
              have g0 := hR6.at_ hx.out
              have HN2 := Lib.hid (findI_at (fun _ x => if inB x 0 1000000 then none else some ()) hx.out)
              cases r1 : inB x 0 1000000 with
              | false =>
                go_wp2_with (go_at_call 75; refine (l1in_any _ _ _ _).mono ?_; rintro e w' ⟨rfl, rfl⟩)
                go_ret
                have hro : rowOk l jj r = false := by rw [rowOk, ← HS2.out, HN2.out, r1]; simp
                have hf : shapeOk l p = false := by rw [shapeOk, ← HS.out, HN.out, hro]; simp
                exact ⟨ret_bool (by rw [hf]), (by repeat (first | (with_reducible exact hS.ext) | (with_reducible assumption) | (with_reducible exact Ext.refl _) | with_reducible apply Ext.alloc | with_reducible apply Ext.drewN | with_reducible apply Ext.drew | with_reducible refine Ext.setCell ?_ (by simp only []; omega) _))⟩
              | true =>
                go_wp2_with (go_at_call 75; refine (l1in_any _ _ _ _).mono ?_; rintro e w' ⟨rfl, rfl⟩)
                exact ⟨⟨m + 1, by omega, by go_num, by rw [← HS2.out, HN2.out, r1]; simp [Hid], (by repeat (first | (with_reducible exact hS) | apply Lp.alloc | apply Lp.drewN | apply Lp.drew))⟩, (by simp [intOf]; omega)⟩
            · have he := findI_end (fun (_ : Nat) (x : Int) => if inB x 0 1000000 then none else some ()) (l := r) (i := m) (by omega)
              have hro : Hid (rowOk l jj r = true) := by rw [Hid, rowOk, getD_some ht.out, HQ.out, ← HS2.out, he]; simp
              clear he
              go_wp2_with fail
              exact ⟨⟨jj + 1, by omega, by go_num, by rw [← HS.out, HN.out, hro.out]; simp [Hid], (by repeat (first | (with_reducible exact hS) | apply Lp.alloc | apply Lp.drewN | apply Lp.drew))⟩, (by simp [intOf]; omega)⟩
        · have hro : Hid (rowOk l jj r = false) := by rw [Hid, rowOk, getD_some ht.out]; simp [hq]
          have hq' : ((r.length : Int) != t.legs.length) = true := by simp; omega
          clear hq
          go_wp2_with fail
          go_ret
          have hf : shapeOk l p = false := by rw [shapeOk, ← HS.out, HN.out, hro.out]; simp
          exact ⟨ret_bool (by rw [hf]), (by repeat (first | (with_reducible exact hS.ext) | (with_reducible assumption) | (with_reducible exact Ext.refl _) | with_reducible apply Ext.alloc | with_reducible apply Ext.drewN | with_reducible apply Ext.drew | with_reducible refine Ext.setCell ?_ (by simp only []; omega) _))⟩
      · have he := findI_end (fun i r => if rowOk l i r then none else some ()) (l := p) (i := jj) (by omega)
        have hf : Hid (shapeOk l p = true) := by rw [Hid, shapeOk, HP.out, ← HS.out, he]; simp
        clear he
        go_wp2_with fail
        go_ret
        exact ⟨ret_bool (by rw [hf.out]), (by repeat (first | (with_reducible exact hS.ext) | (with_reducible assumption) | (with_reducible exact Ext.refl _) | with_reducible apply Ext.alloc | with_reducible apply Ext.drewN | with_reducible apply Ext.drew | with_reducible refine Ext.setCell ?_ (by simp only []; omega) _))⟩
  · have hf : Hid (shapeOk l p = false) := by simp [Hid, shapeOk, hP]
    have hP' : ((p.length : Int) != l.trains.length) = true := by simp; omega
    clear hP
    go_enter Try.func105, Try.ntmps105
    go_wp2_with fail
    go_ret
    exact ⟨ret_bool hf.out.symm, (by repeat (first | (with_reducible assumption) | (with_reducible exact Ext.refl _) | apply Ext.alloc | apply Ext.drewN | apply Ext.drew))⟩
set_option maxRecDepth 100000 in
set_option maxHeartbeats 1000000 in
theorem shaped_any {w : World} {l : Line} {p : List (List Int)} {u v : Value} (hl : IsLine w l u) (hp : IsPlan w p v) (hs : l.size ≤ 1048576) (hpn : p.length ≤ 1048576) (hpl : ∀ (i : Nat) (t : List Int), p[i]? = some t → t.length ≤ 1048576) :
    Calls Try.prog 92 #[u, v] w fun e w' => e = .returned (.bool (right l && shapeOk l p)) ∧ Ext w w' := by
  have HL := Lib.hid (fun (W : World) (e : Ext w W) => hl.ext e)
  obtain ⟨A0, c0, A2, c2, rfl, h0, h2⟩ := hl
  obtain ⟨A3, c3, rfl, h3⟩ := hp
  clear h0
  have hln : l.trains.length ≤ 1048576 := by unfold Line.size at hs; omega
  have hs0 := Lib.hid hs; clear hs
  cases h : right l with
  | false =>
    go_enter Try.func92, Try.ntmps92
    go_wp2_with fail
    refine (right_any (HL.out _ (by repeat (first | (with_reducible assumption) | (with_reducible exact Ext.refl _) | apply Ext.alloc | apply Ext.drewN | apply Ext.drew))) hs0.out).mono ?_
    rintro e w1 ⟨rfl, hE⟩
    rw [h]
    go_wp2_with fail
    go_ret
    exact ⟨rfl, Ext.trans (by repeat (first | (with_reducible assumption) | (with_reducible exact Ext.refl _) | apply Ext.alloc | apply Ext.drewN | apply Ext.drew)) hE⟩
  | true =>
    by_cases hP : p.length = l.trains.length
    · have HP := Lib.hid hP
      have hP' : ((p.length : Int) != l.trains.length) = false := by rw [hP]; simp
      clear hP
      go_enter Try.func92, Try.ntmps92
      go_wp2_with fail
      refine (right_any (HL.out _ (by repeat (first | (with_reducible assumption) | (with_reducible exact Ext.refl _) | apply Ext.alloc | apply Ext.drewN | apply Ext.drew))) hs0.out).mono ?_
      rintro e w1 ⟨rfl, hE⟩
      rw [h]
      have hS := (Lp.start2 w _ _ _ _).trans hE
      obtain ⟨k1, k2, k3, k4, k5, k6⟩ := hS.open2
      go_wp2_with fail
      clear hP' k1 k2 k3 k4 k5 k6
      go_loopw [24] (fun j wr => ∃ (jj : Nat), jj ≤ p.length ∧ j = .int .i64 jj ∧ Hid (findI (fun i r => if rowOk l i r then none else some ()) jj (p.drop jj) = findI (fun i r => if rowOk l i r then none else some ()) 0 p) ∧ Lp w wr [(w.heap.size + 1, #[.slice A3 p.length c3], 42), (w.heap.size, #[.slice A0 l.tracks.length c0, .int .i64 l.gap, .slice A2 l.trains.length c2], 33)]) (fun j _ => p.length - (intOf j).toNat)
      case atStart => exact ⟨0, Nat.zero_le _, rfl, by simp [Hid], (by repeat (first | (with_reducible exact hS) | apply Lp.alloc | apply Lp.drewN | apply Lp.drew))⟩
      case round =>
        clear hS
        obtain ⟨jj, hjj, rfl, HS, hS⟩ := hrel
        obtain ⟨k1, k2, k3, k4, k5, k6⟩ := hS.open2
        by_cases hlt : jj < p.length
        · obtain ⟨r, hr⟩ := hid_of_lt hlt
          have hlt' : jj < l.trains.length := by rw [← HP.out]; exact hlt
          obtain ⟨t, ht⟩ := hid_of_lt hlt'
          obtain ⟨b, o, rfl, hb⟩ := h3.base hlt
          obtain ⟨A6, c6, f0, hR6⟩ := h3.at_ hr.out
          obtain ⟨b', o', rfl, hb'⟩ := h2.base hlt'
          obtain ⟨e0, e1, e2, e3, A4, c4, e4, hR⟩ := h2.at_ ht.out
          have HN := Lib.hid (findI_at (fun i r => if rowOk l i r then none else some ()) hr.out)
          have hrl := hpl _ _ hr.out
          by_cases hq : r.length = t.legs.length
          · have HQ := Lib.hid hq
            have hq' : ((r.length : Int) != t.legs.length) = false := by rw [hq]; simp
            clear hq
            go_wp2_with fail
            clear k1 k2 k3 k4 k5 k6 hq' f0 e0 e1 e2 e3 e4
            go_loopw [41] (fun j wi => ∃ (m : Nat), m ≤ r.length ∧ j = .int .i64 m ∧ Hid (findI (fun _ x => if inB x 0 1000000 then none else some ()) m (r.drop m) = findI (fun _ x => if inB x 0 1000000 then none else some ()) 0 r) ∧ Lp w wi [(w.heap.size + 1, #[.slice (some ⟨b, o, none⟩) p.length c3], 42), (w.heap.size, #[.slice A0 l.tracks.length c0, .int .i64 l.gap, .slice (some ⟨b', o', none⟩) l.trains.length c2], 33)]) (fun j _ => r.length - (intOf j).toNat)
            case atStart => exact ⟨0, Nat.zero_le _, rfl, by simp [Hid], (by repeat (first | (with_reducible exact hS) | apply Lp.alloc | apply Lp.drewN | apply Lp.drew))⟩
            case round =>
              clear hS
              obtain ⟨m, hm, rfl, HS2, hS⟩ := hrel
              obtain ⟨k1, k2, k3, k4, k5, k6⟩ := hS.open2
              by_cases hlm : m < r.length
              · obtain ⟨x, hx⟩ := hid_of_lt hlm
                obtain ⟨b6, o6, rfl, hb6⟩ := hR6.base hlm
                have g0 := hR6.at_ hx.out
                have HN2 := Lib.hid (findI_at (fun _ x => if inB x 0 1000000 then none else some ()) hx.out)
                cases r1 : inB x 0 1000000 with
                | false =>
                  go_wp2_with (go_at_call 79; refine (in_any _ _ _ _).mono ?_; rintro e w' ⟨rfl, rfl⟩)
                  go_ret
                  have hro : rowOk l jj r = false := by rw [rowOk, ← HS2.out, HN2.out, r1]; simp
                  have hf : shapeOk l p = false := by rw [shapeOk, ← HS.out, HN.out, hro]; simp
                  exact ⟨ret_bool (by rw [hf]; simp), (by repeat (first | (with_reducible exact hS.ext) | (with_reducible assumption) | (with_reducible exact Ext.refl _) | with_reducible apply Ext.alloc | with_reducible apply Ext.drewN | with_reducible apply Ext.drew | with_reducible refine Ext.setCell ?_ (by simp only []; omega) _))⟩
                | true =>
                  go_wp2_with (go_at_call 79; refine (in_any _ _ _ _).mono ?_; rintro e w' ⟨rfl, rfl⟩)
                  exact ⟨⟨m + 1, by omega, by go_num, by rw [← HS2.out, HN2.out, r1]; simp [Hid], (by repeat (first | (with_reducible exact hS) | apply Lp.alloc | apply Lp.drewN | apply Lp.drew))⟩, (by simp [intOf]; omega)⟩
              · have he := findI_end (fun (_ : Nat) (x : Int) => if inB x 0 1000000 then none else some ()) (l := r) (i := m) (by omega)
                have hro : Hid (rowOk l jj r = true) := by rw [Hid, rowOk, getD_some ht.out, HQ.out, ← HS2.out, he]; simp
                clear he
                go_wp2_with fail
                exact ⟨⟨jj + 1, by omega, by go_num, by rw [← HS.out, HN.out, hro.out]; simp [Hid], (by repeat (first | (with_reducible exact hS) | apply Lp.alloc | apply Lp.drewN | apply Lp.drew))⟩, (by simp [intOf]; omega)⟩
          · have hro : Hid (rowOk l jj r = false) := by rw [Hid, rowOk, getD_some ht.out]; simp [hq]
            have hq' : ((r.length : Int) != t.legs.length) = true := by simp; omega
            clear hq
            go_wp2_with fail
            go_ret
            have hf : shapeOk l p = false := by rw [shapeOk, ← HS.out, HN.out, hro.out]; simp
            exact ⟨ret_bool (by rw [hf]; simp), (by repeat (first | (with_reducible exact hS.ext) | (with_reducible assumption) | (with_reducible exact Ext.refl _) | with_reducible apply Ext.alloc | with_reducible apply Ext.drewN | with_reducible apply Ext.drew | with_reducible refine Ext.setCell ?_ (by simp only []; omega) _))⟩
        · have he := findI_end (fun i r => if rowOk l i r then none else some ()) (l := p) (i := jj) (by omega)
          have hf : Hid (shapeOk l p = true) := by rw [Hid, shapeOk, HP.out, ← HS.out, he]; simp
          clear he
          go_wp2_with fail
          go_ret
          exact ⟨ret_bool (by rw [hf.out]; simp), (by repeat (first | (with_reducible exact hS.ext) | (with_reducible assumption) | (with_reducible exact Ext.refl _) | with_reducible apply Ext.alloc | with_reducible apply Ext.drewN | with_reducible apply Ext.drew | with_reducible refine Ext.setCell ?_ (by simp only []; omega) _))⟩
    · have hf : Hid (shapeOk l p = false) := by simp [Hid, shapeOk, hP]
      have hP' : ((p.length : Int) != l.trains.length) = true := by simp; omega
      clear hP
      go_enter Try.func92, Try.ntmps92
      go_wp2_with fail
      refine (right_any (HL.out _ (by repeat (first | (with_reducible assumption) | (with_reducible exact Ext.refl _) | apply Ext.alloc | apply Ext.drewN | apply Ext.drew))) hs0.out).mono ?_
      rintro e w1 ⟨rfl, hE⟩
      rw [h]
      have hS := (Lp.start2 w _ _ _ _).trans hE
      obtain ⟨k1, k2, k3, k4, k5, k6⟩ := hS.open2
      go_wp2_with fail
      go_ret
      exact ⟨ret_bool (by rw [hf.out]; simp), hS.ext⟩
end Go.Proofs.Ythhkbfjolmgloaa
namespace Go.Proofs.Ythhkbfjolmgloaa
open Go.RowKit
set_option linter.unusedVariables false
set_option linter.unusedSimpArgs false
/-- Rows of cells from block lo up to hi may hold other cells; all else is as it was. -/
structure Mk (lo hi : Nat) (T : TypeId → Prop) (w w' : World) : Prop where
  os : w'.os = w.os
  tape : w'.tape = w.tape
  output : w'.output = w.output
  size : w.heap.size ≤ w'.heap.size
  block : ∀ (g : Nat) (o : Obj), w.heap[g]? = some o → w'.heap[g]? = some o ∨ (lo ≤ g ∧ g < hi ∧ ∃ (cs cs' : Array Value) (t : TypeId), T t ∧ o = .cells cs t (0, 0) ∧ w'.heap[g]? = some (.cells cs' t (0, 0)) ∧ cs'.size = cs.size)
section
variable {lo hi : Nat} {T T' : TypeId → Prop} {w w' w'' : World}
theorem Mk.refl (lo hi : Nat) (T : TypeId → Prop) (w : World) : Mk lo hi T w w := ⟨rfl, rfl, rfl, Nat.le_refl _, fun _ _ h => Or.inl h⟩
theorem Mk.trans (h : Mk lo hi T w w') (k : Mk lo hi T w' w'') : Mk lo hi T w w'' := by
  refine ⟨k.os.trans h.os, k.tape.trans h.tape, k.output.trans h.output, Nat.le_trans h.size k.size, fun g o hg => ?_⟩
  rcases h.block g o hg with h1 | ⟨a1, a2, cs, cs', t, a3, a4, a5, a6⟩
  · exact k.block g o h1
  · rcases k.block g _ a5 with h2 | ⟨_, _, ds, ds', t', b3, b4, b5, b6⟩
    · exact Or.inr ⟨a1, a2, cs, cs', t, a3, a4, h2, a6⟩
    · simp only [Obj.cells.injEq] at b4
      obtain ⟨rfl, rfl, _⟩ := b4
      exact Or.inr ⟨a1, a2, cs, ds', t, a3, a4, b5, b6.trans a6⟩
theorem Mk.mono (h : Mk lo hi T w w') (hT : ∀ t, T t → T' t) : Mk lo hi T' w w' := ⟨h.os, h.tape, h.output, h.size, fun g o hg => by
  rcases h.block g o hg with h1 | ⟨a1, a2, cs, cs', t, a3, a4, a5, a6⟩
  · exact Or.inl h1
  · exact Or.inr ⟨a1, a2, cs, cs', t, hT t a3, a4, a5, a6⟩⟩
theorem Mk.wide {lo' hi' : Nat} (h : Mk lo hi T w w') (h1 : lo' ≤ lo) (h2 : hi ≤ hi') : Mk lo' hi' T w w' := ⟨h.os, h.tape, h.output, h.size, fun g o hg => by
  rcases h.block g o hg with h1 | ⟨a1, a2, cs, cs', t, a3, a4, a5, a6⟩
  · exact Or.inl h1
  · exact Or.inr ⟨by omega, by omega, cs, cs', t, a3, a4, a5, a6⟩⟩
theorem Mk.of_ext (h : Ext w w') : Mk lo hi T w w' := ⟨h.os, h.tape, h.output, h.size, fun _ _ hg => Or.inl (h.box hg)⟩
theorem Mk.far (h : Mk lo hi T w w') {g : Nat} {o : Obj} (hg : w.heap[g]? = some o) (hf : g < lo ∨ hi ≤ g) : w'.heap[g]? = some o := by
  rcases h.block g o hg with h1 | ⟨a1, a2, _⟩
  · exact h1
  · omega
theorem Mk.other (h : Mk lo hi T w w') {g : Nat} {cs : Array Value} {t : TypeId} {f : Nat × Nat} (hg : w.heap[g]? = some (.cells cs t f)) (hf : ¬ T t) : w'.heap[g]? = some (.cells cs t f) := by
  rcases h.block g _ hg with h1 | ⟨_, _, ds, ds', t', b3, b4, _⟩
  · exact h1
  · simp only [Obj.cells.injEq] at b4
    obtain ⟨_, rfl, _⟩ := b4
    exact absurd b3 hf
theorem Mk.row (h : Mk lo hi T w w') {g : Nat} {cs : Array Value} {t : TypeId} (hg : w.heap[g]? = some (.cells cs t (0, 0))) : ∃ cs', w'.heap[g]? = some (.cells cs' t (0, 0)) ∧ cs'.size = cs.size := by
  rcases h.block g _ hg with h1 | ⟨_, _, ds, ds', t', b3, b4, b5, b6⟩
  · exact ⟨cs, h1, rfl⟩
  · simp only [Obj.cells.injEq] at b4
    obtain ⟨rfl, rfl, _⟩ := b4
    exact ⟨ds', b5, b6⟩
theorem Mk.below (h : Mk lo hi T w w') {B : Nat} (hB : B ≤ lo) (hw : B ≤ w.heap.size) : Below B w w' := ⟨h.os, h.tape, h.output, h.size, fun g hg => by
  have hgw : g < w.heap.size := by omega
  rw [Array.getElem?_eq_getElem hgw]
  exact h.far (Array.getElem?_eq_getElem hgw) (Or.inl (by omega))⟩
theorem Mk.setCell {g : Nat} {cs : Array Value} {t : TypeId} (hg : w.heap[g]? = some (.cells cs t (0, 0))) (h1 : lo ≤ g) (h2 : g < hi) (hT : T t) (j : Nat) (u : Value) : Mk lo hi T w (w.setCell ⟨g, j, none⟩ u) := by
  refine ⟨rfl, rfl, rfl, by simp [World.setCell], fun g' o hg' => ?_⟩
  by_cases e : g' = g
  · subst e
    rw [hg] at hg'
    obtain rfl : _ = o := by simpa using hg'
    exact Or.inr ⟨h1, h2, cs, _, t, hT, rfl, box_set hg j u, by simp⟩
  · exact Or.inl ((Below.heap_setCell w ⟨g, j, none⟩ u g' e).trans hg')
end
/-- A row of n elements of so many cells each, of the call's own. -/
def MRow (lo hi : Nat) (w : World) (t : TypeId) (v : Value) (n size : Nat) : Prop := n = 0 ∧ (∃ A c, v = .slice A 0 c) ∨ ∃ g c cs, v = .slice (some ⟨g, 0, none⟩) n c ∧ lo ≤ g ∧ g < hi ∧ w.heap[g]? = some (.cells cs t (0, 0)) ∧ n * size ≤ cs.size
theorem MRow.form {lo hi : Nat} {w : World} {t : TypeId} {v : Value} {n size : Nat} (h : MRow lo hi w t v n size) : ∃ A c, v = .slice A n c := by
  rcases h with ⟨rfl, A, c, rfl⟩ | ⟨g, c, cs, rfl, _⟩
  · exact ⟨A, c, rfl⟩
  · exact ⟨_, _, rfl⟩
theorem MRow.mk {lo hi lo' hi' : Nat} {T : TypeId → Prop} {w w' : World} {t : TypeId} {v : Value} {n size : Nat} (h : MRow lo hi w t v n size) (k : Mk lo' hi' T w w') : MRow lo hi w' t v n size := by
  rcases h with h | ⟨g, c, cs, h1, h2, h3, h4, h5⟩
  · exact Or.inl h
  · obtain ⟨cs', q1, q2⟩ := k.row h4
    exact Or.inr ⟨g, c, cs', h1, h2, h3, q1, by omega⟩
theorem MRow.ext {lo hi : Nat} {w w' : World} {t : TypeId} {v : Value} {n size : Nat} (h : MRow lo hi w t v n size) (e : Ext w w') : MRow lo hi w' t v n size := h.mk (Mk.of_ext (lo := lo) (hi := hi) (T := fun _ => False) e)
theorem cell_of_lt {w : World} {g : Nat} {cs : Array Value} {t : TypeId} {f : Nat × Nat} (h : w.heap[g]? = some (.cells cs t f)) {j : Nat} (hj : j < cs.size) : ∃ x, w.cell? ⟨g, j, none⟩ = some x := ⟨cs[j], by rw [box_cell h]; exact Array.getElem?_eq_getElem hj⟩
set_option maxRecDepth 100000 in
set_option maxHeartbeats 8000000 in
theorem markIntS_any {w : World} {lo hi : Nat} {v : Value} {n : Nat} (hv : MRow lo hi w 3 v n 1) (hn : n ≤ 1048576) (k : Int) (hk0 : 0 ≤ k) (hk1 : k ≤ 1152921504606846976) :
    Calls Try.prog 56 #[v, .int .i64 k] w fun e w' => e = .returned (.int .i64 (k + n)) ∧ Mk lo hi (fun t => t = 3) w w' := by
  obtain ⟨A, c, rfl⟩ := hv.form
  have HV := Lib.hid hv; clear hv
  go_enter Try.func56, Try.ntmps56
  go_wp2_with fail
  go_loopw [1, 5] (fun a j wr => ∃ (jj : Nat), jj ≤ n ∧ j = .int .i64 jj ∧ a = .int .i64 (k + jj) ∧ Mk lo hi (fun t => t = 3) w wr) (fun _ j _ => n - (intOf j).toNat)
  case atStart => exact ⟨0, Nat.zero_le _, rfl, by simp, Mk.refl _ _ _ _⟩
  case round =>
    obtain ⟨jj, hjj, rfl, rfl, hM⟩ := hrel
    by_cases hlt : jj < n
    · rcases HV.out.mk hM with ⟨h0, _⟩ | ⟨g, c', cs, h1, h2, h3, h4, h5⟩
      · omega
      · simp only [Value.slice.injEq] at h1
        obtain ⟨rfl, _, rfl⟩ := h1
        obtain ⟨x, hx⟩ := cell_of_lt h4 (j := jj) (by omega)
        have fr := box_frozen h4
        have hlt2 := box_lt h4
        have hM2 := Lib.hid (hM.trans (Mk.setCell h4 h2 h3 (T := fun t => t = 3) rfl jj (.int .i64 (k + jj))))
        clear hM
        go_wp2_with fail
        exact ⟨⟨jj + 1, by omega, by go_num, by simp only [Value.int.injEq, true_and]; omega, hM2.out⟩, (by simp [intOf]; omega)⟩
    · obtain rfl : jj = n := by omega
      go_wp2_with fail
      go_ret
      exact ⟨rfl, hM⟩
set_option maxRecDepth 100000 in
set_option maxHeartbeats 8000000 in
theorem markLegS_any {w : World} {lo hi : Nat} {v : Value} {n : Nat} (hv : MRow lo hi w 84 v n 3) (hn : n ≤ 1048576) (k : Int) (hk0 : 0 ≤ k) (hk1 : k ≤ 1152921504606846976) :
    Calls Try.prog 134 #[v, .int .i64 k] w fun e w' => e = .returned (.int .i64 (k + 3 * n)) ∧ Mk lo hi (fun t => t = 84) w w' := by
  obtain ⟨A, c, rfl⟩ := hv.form
  have HV := Lib.hid hv; clear hv
  go_enter Try.func134, Try.ntmps134
  go_wp2_with fail
  go_loopw [1, 5] (fun a j wr => ∃ (jj : Nat), jj ≤ n ∧ j = .int .i64 jj ∧ a = .int .i64 (k + 3 * jj) ∧ Mk lo hi (fun t => t = 84) w wr) (fun _ j _ => n - (intOf j).toNat)
  case atStart => exact ⟨0, Nat.zero_le _, rfl, by simp, Mk.refl _ _ _ _⟩
  case round =>
    obtain ⟨jj, hjj, rfl, rfl, hM⟩ := hrel
    by_cases hlt : jj < n
    · rcases HV.out.mk hM with ⟨h0, _⟩ | ⟨g, c', cs, h1, h2, h3, h4, h5⟩
      · omega
      · simp only [Value.slice.injEq] at h1
        obtain ⟨rfl, _, rfl⟩ := h1
        obtain ⟨x0, hx0⟩ := cell_of_lt h4 (j := jj * 3) (by omega)
        obtain ⟨x1, hx1⟩ := cell_of_lt h4 (j := jj * 3 + 1) (by omega)
        obtain ⟨x2, hx2⟩ := cell_of_lt h4 (j := jj * 3 + 2) (by omega)
        have fr := box_frozen h4
        have hlt2 := box_lt h4
        have q0 := box_set h4 (jj * 3) (.int .i64 (k + 3 * jj))
        have q1 := box_set q0 (jj * 3 + 1) (.int .i64 (k + 3 * jj + 1))
        have hM2 := Lib.hid (((hM.trans (Mk.setCell h4 h2 h3 (T := fun t => t = 84) rfl (jj * 3) (.int .i64 (k + 3 * jj)))).trans (Mk.setCell q0 h2 h3 (T := fun t => t = 84) rfl (jj * 3 + 1) (.int .i64 (k + 3 * jj + 1)))).trans (Mk.setCell q1 h2 h3 (T := fun t => t = 84) rfl (jj * 3 + 2) (.int .i64 (k + 3 * jj + 1 + 1))))
        clear hM q0 q1
        go_wp2_with fail
        exact ⟨⟨jj + 1, by omega, by go_num, by simp only [Value.int.injEq, true_and]; omega, hM2.out⟩, (by simp [intOf]; omega)⟩
    · obtain rfl : jj = n := by omega
      go_wp2_with fail
      go_ret
      exact ⟨rfl, hM⟩
/-- Trains of the call's own, with so many legs each. -/
def MTrains (lo hi : Nat) (w : World) (v : Value) (ns : List Nat) : Prop := ns = [] ∧ (∃ A c, v = .slice A 0 c) ∨ ∃ g c cs, v = .slice (some ⟨g, 0, none⟩) ns.length c ∧ lo ≤ g ∧ g < hi ∧ w.heap[g]? = some (.cells cs 80 (0, 0)) ∧ ns.length * 5 ≤ cs.size ∧ ∀ (j m : Nat), ns[j]? = some m → ∃ u, cs[j * 5 + 4]? = some u ∧ MRow lo hi w 84 u m 3
theorem MTrains.form {lo hi : Nat} {w : World} {v : Value} {ns : List Nat} (h : MTrains lo hi w v ns) : ∃ A c, v = .slice A ns.length c := by
  rcases h with ⟨rfl, A, c, rfl⟩ | ⟨g, c, cs, rfl, _⟩
  · exact ⟨A, c, rfl⟩
  · exact ⟨_, _, rfl⟩
set_option maxRecDepth 100000 in
set_option maxHeartbeats 8000000 in
theorem markTrainS_any {w : World} {lo hi : Nat} {v : Value} {ns : List Nat} (hv : MTrains lo hi w v ns) (hn : ns.length ≤ 1048576) (hm : ∀ (j m : Nat), ns[j]? = some m → m ≤ 1048576) (k : Int) (hk0 : 0 ≤ k) (hk1 : k ≤ 1099511627776) :
    Calls Try.prog 115 #[v, .int .i64 k] w fun e w' => ∃ k', e = .returned (.int .i64 k') ∧ 0 ≤ k' ∧ k' ≤ k + 4194304 * ns.length ∧ Mk lo hi (fun t => t = 80 ∨ t = 84) w w' := by
  rcases hv with ⟨rfl, A, c, rfl⟩ | ⟨g, c, cs, rfl, hg1, hg2, hg, hsz, hrow⟩
  · go_enter Try.func115, Try.ntmps115
    go_wp2_with fail
    go_loopw [1, 5] (fun a j wr => j = .int .i64 0 ∧ a = .int .i64 k ∧ wr = w) (fun _ _ _ => 0)
    case atStart => exact ⟨rfl, rfl, rfl⟩
    case round =>
      obtain ⟨rfl, rfl, rfl⟩ := hrel
      go_wp2_with fail
      go_ret
      exact ⟨k, rfl, hk0, by simp, Mk.refl _ _ _ _⟩
  · have HR := Lib.hid hrow; clear hrow
    have HM := Lib.hid hm; clear hm
    go_enter Try.func115, Try.ntmps115
    go_wp2_with fail
    go_loopw [1, 5] (fun a j wr => ∃ (jj : Nat) (q : Int), jj ≤ ns.length ∧ j = .int .i64 jj ∧ a = .int .i64 q ∧ 0 ≤ q ∧ q ≤ k + 4194304 * jj ∧ Mk lo hi (fun t => t = 80 ∨ t = 84) w wr ∧ ∃ cs' : Array Value, wr.heap[g]? = some (.cells cs' 80 (0, 0)) ∧ cs'.size = cs.size ∧ Hid (∀ j, j < ns.length → cs'[j * 5 + 4]? = cs[j * 5 + 4]?)) (fun _ j _ => ns.length - (intOf j).toNat)
    case atStart => exact ⟨0, k, Nat.zero_le _, rfl, rfl, hk0, by simp, Mk.refl _ _ _ _, cs, hg, rfl, fun _ _ => rfl⟩
    case round =>
      obtain ⟨jj, q, hjj, rfl, rfl, hq0, hq1, hM, cs', h4, h5, H6⟩ := hrel
      by_cases hlt : jj < ns.length
      · obtain ⟨m, hm⟩ := hid_of_lt hlt
        have hm2 := HM.out jj m hm.out
        obtain ⟨u, hu, hU⟩ := HR.out jj m hm.out
        rw [← H6.out jj hlt] at hu
        have hu' := (box_cell h4 (jj * 5 + 4)).trans hu
        obtain ⟨A4, c4, rfl⟩ := hU.form
        obtain ⟨x0, hx0⟩ := cell_of_lt h4 (j := jj * 5) (by omega)
        obtain ⟨x1, hx1⟩ := cell_of_lt h4 (j := jj * 5 + 1) (by omega)
        obtain ⟨x2, hx2⟩ := cell_of_lt h4 (j := jj * 5 + 2) (by omega)
        obtain ⟨x3, hx3⟩ := cell_of_lt h4 (j := jj * 5 + 3) (by omega)
        have fr := box_frozen h4
        have hlt2 := box_lt h4
        have q0 := box_set h4 (jj * 5) (.int .i64 q)
        have q1 := box_set q0 (jj * 5 + 1) (.int .i64 (q + 1))
        have q2 := box_set q1 (jj * 5 + 2) (.int .i64 (q + 1 + 1))
        have q3 := Lib.hid (box_set q2 (jj * 5 + 3) (.int .i64 (q + 1 + 1 + 1)))
        have hT : (fun t : TypeId => t = 80 ∨ t = 84) 80 := Or.inl rfl
        have hM2 := Lib.hid ((((hM.trans (Mk.setCell h4 hg1 hg2 (T := fun t => t = 80 ∨ t = 84) hT (jj * 5) (.int .i64 q))).trans (Mk.setCell q0 hg1 hg2 (T := fun t => t = 80 ∨ t = 84) hT (jj * 5 + 1) (.int .i64 (q + 1)))).trans (Mk.setCell q1 hg1 hg2 (T := fun t => t = 80 ∨ t = 84) hT (jj * 5 + 2) (.int .i64 (q + 1 + 1)))).trans (Mk.setCell q2 hg1 hg2 (T := fun t => t = 80 ∨ t = 84) hT (jj * 5 + 3) (.int .i64 (q + 1 + 1 + 1))))
        have HU := Lib.hid hU; clear hU
        clear hM q0 q1 q2 hu
        go_wp2_with fail
        refine (markLegS_any (HU.out.mk hM2.out) hm2 _ (by omega) (by omega)).mono ?_
        rintro e w5 ⟨rfl, hM5⟩
        have r5 := hM5.other q3.out (by decide)
        have hM6 := Lib.hid (hM2.out.trans (hM5.mono (fun t ht => Or.inr ht)))
        go_wp2_with fail
        refine ⟨⟨jj + 1, q + 1 + 1 + 1 + 1 + 3 * m, by omega, by go_num, rfl, by omega, by omega, hM6.out, _, r5, by simp [h5], fun j hj => ?_⟩, (by simp [intOf]; omega)⟩
        rw [Array.getElem?_setIfInBounds_ne (by omega), Array.getElem?_setIfInBounds_ne (by omega), Array.getElem?_setIfInBounds_ne (by omega), Array.getElem?_setIfInBounds_ne (by omega)]
        exact H6.out j hj
      · obtain rfl : jj = ns.length := by omega
        go_wp2_with fail
        go_ret
        exact ⟨q, rfl, hq0, hq1, hM⟩
end Go.Proofs.Ythhkbfjolmgloaa
namespace Go.Proofs.Ythhkbfjolmgloaa
open Go.RowKit
set_option linter.unusedVariables false
set_option linter.unusedSimpArgs false
def MLine (lo hi : Nat) (w : World) (v : Value) (l : Line) : Prop := ∃ v0 v2, v = .agg #[v0, .int .i64 l.gap, v2] ∧ MRow lo hi w 3 v0 l.tracks.length 1 ∧ MTrains lo hi w v2 (l.trains.map (·.legs.length))
theorem MTrains.mk {lo hi lo' hi' : Nat} {T : TypeId → Prop} {w w' : World} {v : Value} {ns : List Nat} (h : MTrains lo hi w v ns) (k : Mk lo' hi' T w w') (hT : ¬ T 80) : MTrains lo hi w' v ns := by
  rcases h with h | ⟨g, c, cs, h1, h2, h3, h4, h5, h6⟩
  · exact Or.inl h
  · refine Or.inr ⟨g, c, cs, h1, h2, h3, k.other h4 hT, h5, fun j m hj => ?_⟩
    obtain ⟨u, q1, q2⟩ := h6 j m hj
    exact ⟨u, q1, q2.mk k⟩
theorem MLine.mk {lo hi lo' hi' : Nat} {T : TypeId → Prop} {w w' : World} {v : Value} {l : Line} (h : MLine lo hi w v l) (k : Mk lo' hi' T w w') (hT : ¬ T 80) : MLine lo hi w' v l := by
  obtain ⟨v0, v2, h1, h2, h3⟩ := h
  exact ⟨v0, v2, h1, h2.mk k, h3.mk k hT⟩
theorem MLine.ext {lo hi : Nat} {w w' : World} {v : Value} {l : Line} (h : MLine lo hi w v l) (e : Ext w w') : MLine lo hi w' v l := h.mk (Mk.of_ext (lo := lo) (hi := hi) (T := fun _ => False) e) (fun h => h)
theorem OwnInts.mrow {B : Nat} {w : World} {v : Value} {xs : List Int} (h : OwnInts B w v xs) : MRow B w.heap.size w 3 v xs.length 1 := by
  obtain ⟨g, rfl, h1, h2⟩ := h
  exact Or.inr ⟨g, _, _, rfl, h1, box_lt h2, h2, by simp [nums]⟩
theorem legRows_len (xs : List Leg) : (xs.map legRow).flatten.length = xs.length * 3 := by
  induction xs with
  | nil => rfl
  | cons y ys ih => simp only [List.map_cons, List.flatten_cons, List.length_append, ih, List.length_cons]; simp [legRow]; omega
theorem OwnLegs.mrow {B : Nat} {w : World} {v : Value} {xs : List Leg} (h : OwnLegs B w v xs) : MRow B w.heap.size w 84 v xs.length 3 := by
  obtain ⟨g, rfl, h1, h2⟩ := h
  exact Or.inr ⟨g, _, _, rfl, h1, box_lt h2, h2, by rw [List.size_toArray, legRows_len]; exact Nat.le_refl _⟩
theorem five_len {rows : List (List Value)} (h : ∀ q, q ∈ rows → q.length = 5) : rows.flatten.length = rows.length * 5 := by
  induction rows with
  | nil => rfl
  | cons y ys ih =>
    simp only [List.flatten_cons, List.length_append, List.length_cons]
    rw [ih (fun q hq => h q (List.mem_cons_of_mem _ hq)), h y List.mem_cons_self]; omega
theorem OwnTrains.mtrains {B : Nat} {w : World} {v : Value} {xs : List Train} (h : OwnTrains B w v xs) : MTrains B w.heap.size w v (xs.map (·.legs.length)) := by
  obtain ⟨g, rows, rfl, h1, h2, h3⟩ := h
  refine Or.inr ⟨g, xs.length, _, by simp, h1, box_lt h2, h2, ?_, fun j m hj => ?_⟩
  · rw [List.size_toArray, five_len h3.five, h3.len]; simp
  · simp only [List.getElem?_map, Option.map_eq_some_iff] at hj
    obtain ⟨x, hx, rfl⟩ := hj
    obtain ⟨u, hr, ho⟩ := h3.row j x (lt_of_some hx) hx
    refine ⟨u, ?_, ho.mrow⟩
    rw [List.getElem?_toArray, flatten_get h3.five hr (by omega)]
    rfl
theorem OwnLine.mline {B : Nat} {w : World} {v : Value} {l : Line} (h : OwnLine B w v l) : MLine B w.heap.size w v l := by
  obtain ⟨v0, v2, rfl, h2, h3⟩ := h
  exact ⟨v0, v2, rfl, h2.mrow, h3.mtrains⟩
def lineTypes (t : TypeId) : Prop := t = 3 ∨ t = 80 ∨ t = 84
set_option maxRecDepth 100000 in
set_option maxHeartbeats 8000000 in
theorem markLine_any {w : World} {lo hi : Nat} {v : Value} {l : Line} (hv : MLine lo hi w v l) (S : l.Small) (k : Int) (hk0 : 0 ≤ k) (hk1 : k ≤ 1048576) :
    Calls Try.prog 49 #[v, .int .i64 k] w fun e w' => ∃ k', e = .returned (.int .i64 k') ∧ 0 ≤ k' ∧ k' ≤ 4398048608256 ∧ Mk lo hi lineTypes w w' := by
  have S0 := S.tracks
  have S2 := S.trains
  have S4 := Lib.hid S.legs
  obtain ⟨v0, v2, rfl, h0, h2⟩ := hv
  obtain ⟨A0, c0, rfl⟩ := h0.form
  have hl : (l.trains.map (·.legs.length)).length = l.trains.length := by simp
  obtain ⟨A2, c2, e2⟩ := h2.form
  rw [hl] at e2
  subst e2
  have H0 := Lib.hid h0
  have H2 := Lib.hid h2
  clear h0 h2
  go_enter Try.func49, Try.ntmps49
  go_wp2_with fail
  refine (markIntS_any (lo := lo) (hi := hi) (H0.out.ext (by repeat (first | (with_reducible assumption) | (with_reducible exact Ext.refl _) | apply Ext.alloc | apply Ext.drewN | apply Ext.drew))) S0 _ hk0 (by omega)).mono ?_
  rintro e w1 ⟨rfl, hM⟩
  have hX : Mk lo hi (fun t => t = 3) w w1 := (Mk.of_ext (by repeat (first | (with_reducible assumption) | (with_reducible exact Ext.refl _) | apply Ext.alloc | apply Ext.drewN | apply Ext.drew))).trans hM
  have hb := hM.other (box_new w (.cells #[.slice A0 l.tracks.length c0, .int .i64 l.gap, .slice A2 l.trains.length c2] 33)) (by decide)
  have g2 : w1.cell? ⟨w.heap.size, 2, none⟩ = _ := box_cell hb 2
  have gl := box_lt hb
  clear hM
  go_wp2_with fail
  refine (markTrainS_any (lo := lo) (hi := hi) (H2.out.mk hX (by decide)) (by omega) (fun j m hj => by simp only [List.getElem?_map, Option.map_eq_some_iff] at hj; obtain ⟨x, hx, rfl⟩ := hj; exact S4.out j x hx) _ (by omega) (by omega)).mono ?_
  rintro e w2 ⟨k', rfl, hk2, hk3, hM2⟩
  rw [hl] at hk3
  go_wp2_with fail
  go_ret
  refine ⟨k', rfl, hk2, by omega, (hX.mono (fun t ht => Or.inl ht)).trans (hM2.mono (fun t ht => Or.inr ht))⟩
/-- Rows of numbers of the call's own, with so many numbers each. -/
def MRows (lo hi : Nat) (w : World) (v : Value) (ns : List Nat) : Prop := ns = [] ∧ (∃ A c, v = .slice A 0 c) ∨ ∃ g c cs, v = .slice (some ⟨g, 0, none⟩) ns.length c ∧ w.heap[g]? = some (.cells cs 23 (0, 0)) ∧ ∀ (j m : Nat), ns[j]? = some m → ∃ u, cs[j]? = some u ∧ MRow lo hi w 3 u m 1
theorem MRows.form {lo hi : Nat} {w : World} {v : Value} {ns : List Nat} (h : MRows lo hi w v ns) : ∃ A c, v = .slice A ns.length c := by
  rcases h with ⟨rfl, A, c, rfl⟩ | ⟨g, c, cs, rfl, _⟩
  · exact ⟨A, c, rfl⟩
  · exact ⟨_, _, rfl⟩
theorem MRows.mk {lo hi lo' hi' : Nat} {T : TypeId → Prop} {w w' : World} {v : Value} {ns : List Nat} (h : MRows lo hi w v ns) (k : Mk lo' hi' T w w') (hT : ¬ T 23) : MRows lo hi w' v ns := by
  rcases h with h | ⟨g, c, cs, h1, h4, h6⟩
  · exact Or.inl h
  · refine Or.inr ⟨g, c, cs, h1, k.other h4 hT, fun j m hj => ?_⟩
    obtain ⟨u, q1, q2⟩ := h6 j m hj
    exact ⟨u, q1, q2.mk k⟩
theorem MRows.ext {lo hi : Nat} {w w' : World} {v : Value} {ns : List Nat} (h : MRows lo hi w v ns) (e : Ext w w') : MRows lo hi w' v ns := h.mk (Mk.of_ext (lo := lo) (hi := hi) (T := fun _ => False) e) (fun h => h)
set_option maxRecDepth 100000 in
set_option maxHeartbeats 8000000 in
theorem markIntSS_any {w : World} {lo hi : Nat} {v : Value} {ns : List Nat} (hv : MRows lo hi w v ns) (hn : ns.length ≤ 1048576) (hm : ∀ (j m : Nat), ns[j]? = some m → m ≤ 1048576) (k : Int) (hk0 : 0 ≤ k) (hk1 : k ≤ 1099511627776000) :
    Calls Try.prog 116 #[v, .int .i64 k] w fun e w' => ∃ k', e = .returned (.int .i64 k') ∧ 0 ≤ k' ∧ k' ≤ k + 1048576 * ns.length ∧ Mk lo hi (fun t => t = 3) w w' := by
  obtain ⟨A, c, rfl⟩ := hv.form
  have HV := Lib.hid hv; clear hv
  have HM := Lib.hid hm; clear hm
  go_enter Try.func116, Try.ntmps116
  go_wp2_with fail
  go_loopw [1, 5] (fun a j wr => ∃ (jj : Nat) (q : Int), jj ≤ ns.length ∧ j = .int .i64 jj ∧ a = .int .i64 q ∧ 0 ≤ q ∧ q ≤ k + 1048576 * jj ∧ Mk lo hi (fun t => t = 3) w wr) (fun _ j _ => ns.length - (intOf j).toNat)
  case atStart => exact ⟨0, k, Nat.zero_le _, rfl, rfl, hk0, by simp, Mk.refl _ _ _ _⟩
  case round =>
    obtain ⟨jj, q, hjj, rfl, rfl, hq0, hq1, hM⟩ := hrel
    by_cases hlt : jj < ns.length
    · rcases HV.out.mk hM (by decide) with ⟨h0, _⟩ | ⟨g, c', cs, h1, h4, h6⟩
      · subst h0; simp at hlt
      · simp only [Value.slice.injEq] at h1
        obtain ⟨rfl, _, rfl⟩ := h1
        obtain ⟨m, hm⟩ := hid_of_lt hlt
        have hm2 := HM.out jj m hm.out
        obtain ⟨u, hu, hU⟩ := h6 jj m hm.out
        have hu' := (box_cell h4 jj).trans hu
        obtain ⟨A4, c4, rfl⟩ := hU.form
        have HU := Lib.hid hU; clear hU h6 hu
        have hlt2 := box_lt h4
        have HM0 := Lib.hid hM; clear hM
        go_wp2_with fail
        refine (markIntS_any (lo := lo) (hi := hi) HU.out hm2 _ (by omega) (by omega)).mono ?_
        rintro e w5 ⟨rfl, hM5⟩
        have hM6 := Lib.hid (HM0.out.trans hM5)
        go_wp2_with fail
        exact ⟨⟨jj + 1, q + m, by omega, by go_num, rfl, by omega, by omega, hM6.out⟩, (by simp [intOf]; omega)⟩
    · obtain rfl : jj = ns.length := by omega
      go_wp2_with fail
      go_ret
      exact ⟨q, rfl, hq0, hq1, hM⟩
def MPlan (lo hi : Nat) (w : World) (v : Value) (p : List (List Int)) : Prop := ∃ v0, v = .agg #[v0] ∧ MRows lo hi w v0 (p.map List.length)
theorem MPlan.mk {lo hi lo' hi' : Nat} {T : TypeId → Prop} {w w' : World} {v : Value} {p : List (List Int)} (h : MPlan lo hi w v p) (k : Mk lo' hi' T w w') (hT : ¬ T 23) : MPlan lo hi w' v p := by
  obtain ⟨v0, h1, h2⟩ := h
  exact ⟨v0, h1, h2.mk k hT⟩
theorem MPlan.ext {lo hi : Nat} {w w' : World} {v : Value} {p : List (List Int)} (h : MPlan lo hi w v p) (e : Ext w w') : MPlan lo hi w' v p := h.mk (Mk.of_ext (lo := lo) (hi := hi) (T := fun _ => False) e) (fun h => h)
theorem OwnRows.mrows {B : Nat} {w : World} {v : Value} {xs : List (List Int)} (h : OwnRows B w v xs) : MRows B w.heap.size w v (xs.map List.length) := by
  obtain ⟨g, vs, rfl, h1, h2, h3⟩ := h
  refine Or.inr ⟨g, xs.length, _, by simp, h2, fun j m hj => ?_⟩
  simp only [List.getElem?_map, Option.map_eq_some_iff] at hj
  obtain ⟨x, hx, rfl⟩ := hj
  obtain ⟨u, hr, ho⟩ := h3.row j x (lt_of_some hx) hx
  exact ⟨u, by rw [List.getElem?_toArray]; exact hr, ho.mrow⟩
theorem OwnPlan.mplan {B : Nat} {w : World} {v : Value} {p : List (List Int)} (h : OwnPlan B w v p) : MPlan B w.heap.size w v p := by
  obtain ⟨g, rfl, h1⟩ := h
  exact ⟨_, rfl, h1.mrows⟩
set_option maxRecDepth 100000 in
set_option maxHeartbeats 8000000 in
theorem markPlan_any {w : World} {lo hi : Nat} {v : Value} {p : List (List Int)} (hv : MPlan lo hi w v p) (hn : p.length ≤ 1048576) (hl : ∀ (i : Nat) (t : List Int), p[i]? = some t → t.length ≤ 1048576) (k : Int) (hk0 : 0 ≤ k) (hk1 : k ≤ 1099511627776000) :
    Calls Try.prog 50 #[v, .int .i64 k] w fun e w' => ∃ k', e = .returned (.int .i64 k') ∧ 0 ≤ k' ∧ k' ≤ k + 1099511627776 ∧ Mk lo hi (fun t => t = 3) w w' := by
  obtain ⟨v0, rfl, h0⟩ := hv
  have hlen : (p.map List.length).length = p.length := by simp
  obtain ⟨A0, c0, e0⟩ := h0.form
  rw [hlen] at e0
  subst e0
  have H0 := Lib.hid h0; clear h0
  have HL := Lib.hid hl; clear hl
  go_enter Try.func50, Try.ntmps50
  go_wp2_with fail
  refine (markIntSS_any (lo := lo) (hi := hi) (H0.out.ext (by repeat (first | (with_reducible assumption) | (with_reducible exact Ext.refl _) | apply Ext.alloc | apply Ext.drewN | apply Ext.drew))) (by omega) (fun j m hj => by simp only [List.getElem?_map, Option.map_eq_some_iff] at hj; obtain ⟨x, hx, rfl⟩ := hj; exact HL.out j x hx) _ hk0 hk1).mono ?_
  rintro e w1 ⟨k', rfl, hk2, hk3, hM⟩
  rw [hlen] at hk3
  go_wp2_with fail
  go_ret
  exact ⟨k', rfl, hk2, by omega, (Mk.of_ext (by repeat (first | (with_reducible assumption) | (with_reducible exact Ext.refl _) | apply Ext.alloc | apply Ext.drewN | apply Ext.drew))).trans hM⟩
end Go.Proofs.Ythhkbfjolmgloaa
namespace Go.Proofs.Ythhkbfjolmgloaa
open Go.RowKit
set_option linter.unusedVariables false
set_option linter.unusedSimpArgs false
/-- A row of n elements of so many cells each that holds k, k + 1 .. -/
def MSeq (lo hi : Nat) (w : World) (t : TypeId) (v : Value) (n size : Nat) (k : Int) : Prop := n = 0 ∧ (∃ A c, v = .slice A 0 c) ∨ ∃ g c cs, v = .slice (some ⟨g, 0, none⟩) n c ∧ lo ≤ g ∧ g < hi ∧ w.heap[g]? = some (.cells cs t (0, 0)) ∧ n * size ≤ cs.size ∧ ∀ j, j < n * size → cs[j]? = some (.int .i64 (k + j))
theorem MSeq.form {lo hi : Nat} {w : World} {t : TypeId} {v : Value} {n size : Nat} {k : Int} (h : MSeq lo hi w t v n size k) : ∃ A c, v = .slice A n c := by
  rcases h with ⟨rfl, A, c, rfl⟩ | ⟨g, c, cs, rfl, _⟩
  · exact ⟨A, c, rfl⟩
  · exact ⟨_, _, rfl⟩
theorem MSeq.box {lo hi : Nat} {w w' : World} {t : TypeId} {v : Value} {n size : Nat} {k : Int} (h : MSeq lo hi w t v n size k) (e : ∀ (g : Nat) (o : Obj), lo ≤ g → g < hi → w.heap[g]? = some o → w'.heap[g]? = some o) : MSeq lo hi w' t v n size k := by
  rcases h with h | ⟨g, c, cs, h1, h2, h3, h4, h5⟩
  · exact Or.inl h
  · exact Or.inr ⟨g, c, cs, h1, h2, h3, e g _ h2 h3 h4, h5⟩
theorem MSeq.ext {lo hi : Nat} {w w' : World} {t : TypeId} {v : Value} {n size : Nat} {k : Int} (h : MSeq lo hi w t v n size k) (e : Ext w w') : MSeq lo hi w' t v n size k := h.box fun g o _ _ hg => e.box hg
set_option maxRecDepth 100000 in
set_option maxHeartbeats 8000000 in
theorem markInts_seq {w : World} {lo hi : Nat} {v : Value} {n : Nat} (hv : MRow lo hi w 3 v n 1) (hn : n ≤ 1048576) (k : Int) (hk0 : 0 ≤ k) (hk1 : k ≤ 1048576) :
    Calls Try.prog 56 #[v, .int .i64 k] w fun e w' => e = .returned (.int .i64 (k + n)) ∧ Mk lo hi (fun t => t = 3) w w' ∧ MSeq lo hi w' 3 v n 1 k := by
  rcases hv with ⟨rfl, A, c, rfl⟩ | ⟨g, c, cs, rfl, h2, h3, h4, h5⟩
  · go_enter Try.func56, Try.ntmps56
    go_wp2_with fail
    go_loopw [1, 5] (fun a j wr => j = .int .i64 0 ∧ a = .int .i64 k ∧ wr = w) (fun _ _ _ => 0)
    case atStart => exact ⟨rfl, rfl, rfl⟩
    case round =>
      obtain ⟨rfl, rfl, rfl⟩ := hrel
      go_wp2_with fail
      go_ret
      exact ⟨by simp, Mk.refl _ _ _ _, Or.inl ⟨rfl, A, c, rfl⟩⟩
  · go_enter Try.func56, Try.ntmps56
    go_wp2_with fail
    go_loopw [1, 5] (fun a j wr => ∃ (jj : Nat), jj ≤ n ∧ j = .int .i64 jj ∧ a = .int .i64 (k + jj) ∧ Mk lo hi (fun t => t = 3) w wr ∧ ∃ cs' : Array Value, wr.heap[g]? = some (.cells cs' 3 (0, 0)) ∧ cs'.size = cs.size ∧ Hid (∀ j, j < jj → cs'[j]? = some (.int .i64 (k + j)))) (fun _ j _ => n - (intOf j).toNat)
    case atStart => exact ⟨0, Nat.zero_le _, rfl, by simp, Mk.refl _ _ _ _, cs, h4, rfl, fun j hj => by omega⟩
    case round =>
      obtain ⟨jj, hjj, rfl, rfl, hM, cs', q4, q5, HC⟩ := hrel
      by_cases hlt : jj < n
      · obtain ⟨x, hx⟩ := cell_of_lt q4 (j := jj) (by omega)
        have fr := box_frozen q4
        have hlt2 := box_lt q4
        have hM2 := Lib.hid (hM.trans (Mk.setCell q4 h2 h3 (T := fun t => t = 3) rfl jj (.int .i64 (k + jj))))
        have q6 := Lib.hid (box_set q4 jj (.int .i64 (k + jj)))
        clear hM
        go_wp2_with fail
        refine ⟨⟨jj + 1, by omega, by go_num, by simp only [Value.int.injEq, true_and]; omega, hM2.out, _, q6.out, by simp [q5], fun j hj => ?_⟩, (by simp [intOf]; omega)⟩
        by_cases e : j = jj
        · subst e; rw [Array.getElem?_setIfInBounds_self_of_lt (by omega)]
        · rw [Array.getElem?_setIfInBounds_ne (by omega)]; exact HC.out j (by omega)
      · obtain rfl : jj = n := by omega
        go_wp2_with fail
        go_ret
        exact ⟨rfl, hM, Or.inr ⟨g, c, cs', rfl, h2, h3, q4, by omega, fun j hj => HC.out j (by omega)⟩⟩
set_option maxRecDepth 100000 in
set_option maxHeartbeats 8000000 in
theorem heldInts_seq {w : World} {lo hi : Nat} {v : Value} {n : Nat} {k : Int} (hv : MSeq lo hi w 3 v n 1 k) (hn : n ≤ 1048576) (hk0 : 0 ≤ k) (hk1 : k ≤ 1048576) :
    Calls Try.prog 57 #[v, .int .i64 k] w fun e w' => e = .returned (.int .i64 (k + n)) ∧ Ext w w' := by
  rcases hv with ⟨rfl, A, c, rfl⟩ | ⟨g, c, cs, rfl, h2, h3, h4, h5, h6⟩
  · go_enter Try.func57, Try.ntmps57
    go_wp2_with fail
    go_loopw [1, 5] (fun a j wr => j = .int .i64 0 ∧ a = .int .i64 k ∧ wr = w) (fun _ _ _ => 0)
    case atStart => exact ⟨rfl, rfl, rfl⟩
    case round =>
      obtain ⟨rfl, rfl, rfl⟩ := hrel
      go_wp2_with fail
      go_ret
      exact ⟨by simp, (by repeat (first | (with_reducible assumption) | (with_reducible exact Ext.refl _) | apply Ext.alloc | apply Ext.drewN | apply Ext.drew))⟩
  · have H6 := Lib.hid h6; clear h6
    have hlt2 := box_lt h4
    have hc := box_cell h4
    go_enter Try.func57, Try.ntmps57
    go_wp2_with fail
    go_loopw [1, 5] (fun a j wr => ∃ (jj : Nat), jj ≤ n ∧ j = .int .i64 jj ∧ a = .int .i64 (k + jj) ∧ wr = w) (fun _ j _ => n - (intOf j).toNat)
    case atStart => exact ⟨0, Nat.zero_le _, rfl, by simp, rfl⟩
    case round =>
      obtain ⟨jj, hjj, rfl, rfl, rfl⟩ := hrel
      by_cases hlt : jj < n
      · have hx := (hc jj).trans (H6.out jj (by omega))
        have hne : ((k + (jj : Int)) != (k + (jj : Int))) = false := by simp
        clear hc
        go_wp2_with fail
        exact ⟨⟨jj + 1, by omega, by go_num, by simp only [Value.int.injEq, true_and]; omega, by first | rfl | trivial⟩, (by simp [intOf]; omega)⟩
      · obtain rfl : jj = n := by omega
        go_wp2_with fail
        go_ret
        exact ⟨rfl, (by repeat (first | (with_reducible assumption) | (with_reducible exact Ext.refl _) | apply Ext.alloc | apply Ext.drewN | apply Ext.drew))⟩
theorem seq5 {cs : Array Value} {k : Int} {jj : Nat} (hsz : jj * 5 + 4 < cs.size) (h : ∀ j, j < jj * 5 → cs[j]? = some (.int .i64 (k + j))) {j : Nat} (hj : j < jj * 5 + 5) :
    (((((cs.setIfInBounds (jj * 5) (.int .i64 (k + 5 * jj))).setIfInBounds (jj * 5 + 1) (.int .i64 (k + 5 * jj + 1))).setIfInBounds (jj * 5 + 2) (.int .i64 (k + 5 * jj + 1 + 1))).setIfInBounds (jj * 5 + 3) (.int .i64 (k + 5 * jj + 1 + 1 + 1))).setIfInBounds (jj * 5 + 4) (.int .i64 (k + 5 * jj + 1 + 1 + 1 + 1)))[j]? = some (.int .i64 (k + j)) := by
  have iv : ∀ a b : Int, a = b → some (Value.int .i64 a) = some (.int .i64 b) := fun a b e => by rw [e]
  simp only [Array.getElem?_setIfInBounds, Array.size_setIfInBounds]
  by_cases e4 : jj * 5 + 4 = j
  · rw [if_pos e4, if_pos (by omega)]; exact iv _ _ (by omega)
  · rw [if_neg e4]
    by_cases e3 : jj * 5 + 3 = j
    · rw [if_pos e3, if_pos (by omega)]; exact iv _ _ (by omega)
    · rw [if_neg e3]
      by_cases e2 : jj * 5 + 2 = j
      · rw [if_pos e2, if_pos (by omega)]; exact iv _ _ (by omega)
      · rw [if_neg e2]
        by_cases e1 : jj * 5 + 1 = j
        · rw [if_pos e1, if_pos (by omega)]; exact iv _ _ (by omega)
        · rw [if_neg e1]
          by_cases e0 : jj * 5 = j
          · rw [if_pos e0, if_pos (by omega)]; exact iv _ _ (by omega)
          · rw [if_neg e0]; exact h j (by omega)

set_option maxRecDepth 100000 in
set_option maxHeartbeats 8000000 in
theorem markMeetS_seq {w : World} {lo hi : Nat} {v : Value} {n : Nat} (hv : MRow lo hi w 92 v n 5) (hn : n ≤ 1048576) (k : Int) (hk0 : 0 ≤ k) (hk1 : k ≤ 1048576) :
    Calls Try.prog 51 #[v, .int .i64 k] w fun e w' => e = .returned (.int .i64 (k + 5 * n)) ∧ Mk lo hi (fun t => t = 92) w w' ∧ MSeq lo hi w' 92 v n 5 k := by
  rcases hv with ⟨rfl, A, c, rfl⟩ | ⟨g, c, cs, rfl, h2, h3, h4, h5⟩
  · go_enter Try.func51, Try.ntmps51
    go_wp2_with fail
    go_loopw [1, 5] (fun a j wr => j = .int .i64 0 ∧ a = .int .i64 k ∧ wr = w) (fun _ _ _ => 0)
    case atStart => exact ⟨rfl, rfl, rfl⟩
    case round =>
      obtain ⟨rfl, rfl, rfl⟩ := hrel
      go_wp2_with fail
      go_ret
      exact ⟨by simp, Mk.refl _ _ _ _, Or.inl ⟨rfl, A, c, rfl⟩⟩
  · go_enter Try.func51, Try.ntmps51
    go_wp2_with fail
    go_loopw [1, 5] (fun a j wr => ∃ (jj : Nat), jj ≤ n ∧ j = .int .i64 jj ∧ a = .int .i64 (k + 5 * jj) ∧ Mk lo hi (fun t => t = 92) w wr ∧ ∃ cs' : Array Value, wr.heap[g]? = some (.cells cs' 92 (0, 0)) ∧ cs'.size = cs.size ∧ Hid (∀ j, j < jj * 5 → cs'[j]? = some (.int .i64 (k + j)))) (fun _ j _ => n - (intOf j).toNat)
    case atStart => exact ⟨0, Nat.zero_le _, rfl, by simp, Mk.refl _ _ _ _, cs, h4, rfl, fun j hj => by omega⟩
    case round =>
      obtain ⟨jj, hjj, rfl, rfl, hM, cs', q4, q5, HC⟩ := hrel
      by_cases hlt : jj < n
      · have hsz : jj * 5 + 4 < cs'.size := by omega
        obtain ⟨x0, hx0⟩ := cell_of_lt q4 (j := jj * 5) (by omega)
        obtain ⟨x1, hx1⟩ := cell_of_lt q4 (j := jj * 5 + 1) (by omega)
        obtain ⟨x2, hx2⟩ := cell_of_lt q4 (j := jj * 5 + 2) (by omega)
        obtain ⟨x3, hx3⟩ := cell_of_lt q4 (j := jj * 5 + 3) (by omega)
        obtain ⟨x4, hx4⟩ := cell_of_lt q4 (j := jj * 5 + 4) (by omega)
        have fr := box_frozen q4
        have hlt2 := box_lt q4
        have p0 := box_set q4 (jj * 5) (.int .i64 (k + 5 * jj))
        have p1 := box_set p0 (jj * 5 + 1) (.int .i64 (k + 5 * jj + 1))
        have p2 := box_set p1 (jj * 5 + 2) (.int .i64 (k + 5 * jj + 1 + 1))
        have p3 := box_set p2 (jj * 5 + 3) (.int .i64 (k + 5 * jj + 1 + 1 + 1))
        have p4 := box_set p3 (jj * 5 + 4) (.int .i64 (k + 5 * jj + 1 + 1 + 1 + 1))
        have hM2 := Lib.hid (((((hM.trans (Mk.setCell q4 h2 h3 (T := fun t => t = 92) rfl (jj * 5) (.int .i64 (k + 5 * jj)))).trans (Mk.setCell p0 h2 h3 (T := fun t => t = 92) rfl (jj * 5 + 1) (.int .i64 (k + 5 * jj + 1)))).trans (Mk.setCell p1 h2 h3 (T := fun t => t = 92) rfl (jj * 5 + 2) (.int .i64 (k + 5 * jj + 1 + 1)))).trans (Mk.setCell p2 h2 h3 (T := fun t => t = 92) rfl (jj * 5 + 3) (.int .i64 (k + 5 * jj + 1 + 1 + 1)))).trans (Mk.setCell p3 h2 h3 (T := fun t => t = 92) rfl (jj * 5 + 4) (.int .i64 (k + 5 * jj + 1 + 1 + 1 + 1))))
        have q6 := Lib.hid p4
        clear hM p0 p1 p2 p3 p4
        go_wp2_with fail
        refine ⟨⟨jj + 1, by omega, by go_num, by simp only [Value.int.injEq, true_and]; omega, hM2.out, _, q6.out, by simp [q5], fun j hj => ?_⟩, (by simp [intOf]; omega)⟩
        exact seq5 hsz HC.out (by omega)
      · obtain rfl : jj = n := by omega
        go_wp2_with fail
        go_ret
        exact ⟨rfl, hM, Or.inr ⟨g, c, cs', rfl, h2, h3, q4, by omega, fun j hj => HC.out j hj⟩⟩

set_option maxRecDepth 100000 in
set_option maxHeartbeats 8000000 in
theorem heldMeetS_seq {w : World} {lo hi : Nat} {v : Value} {n : Nat} {k : Int} (hv : MSeq lo hi w 92 v n 5 k) (hn : n ≤ 1048576) (hk0 : 0 ≤ k) (hk1 : k ≤ 1048576) :
    Calls Try.prog 52 #[v, .int .i64 k] w fun e w' => e = .returned (.int .i64 (k + 5 * n)) ∧ Ext w w' := by
  rcases hv with ⟨rfl, A, c, rfl⟩ | ⟨g, c, cs, rfl, h2, h3, h4, h5, h6⟩
  · go_enter Try.func52, Try.ntmps52
    go_wp2_with fail
    go_loopw [1, 5] (fun a j wr => j = .int .i64 0 ∧ a = .int .i64 k ∧ wr = w) (fun _ _ _ => 0)
    case atStart => exact ⟨rfl, rfl, rfl⟩
    case round =>
      obtain ⟨rfl, rfl, rfl⟩ := hrel
      go_wp2_with fail
      go_ret
      exact ⟨by simp, (by repeat (first | (with_reducible assumption) | (with_reducible exact Ext.refl _) | apply Ext.alloc | apply Ext.drewN | apply Ext.drew))⟩
  · have H6 := Lib.hid h6; clear h6
    have hlt2 := box_lt h4
    have hc := box_cell h4
    go_enter Try.func52, Try.ntmps52
    go_wp2_with fail
    go_loopw [1, 5] (fun a j wr => ∃ (jj : Nat), jj ≤ n ∧ j = .int .i64 jj ∧ a = .int .i64 (k + 5 * jj) ∧ wr = w) (fun _ j _ => n - (intOf j).toNat)
    case atStart => exact ⟨0, Nat.zero_le _, rfl, by simp, rfl⟩
    case round =>
      obtain ⟨jj, hjj, rfl, rfl, rfl⟩ := hrel
      by_cases hlt : jj < n
      · skip
        have hx0 := (hc (jj * 5)).trans (H6.out (jj * 5) (by omega))
        have hx1 := (hc (jj * 5 + 1)).trans (H6.out (jj * 5 + 1) (by omega))
        have hx2 := (hc (jj * 5 + 2)).trans (H6.out (jj * 5 + 2) (by omega))
        have hx3 := (hc (jj * 5 + 3)).trans (H6.out (jj * 5 + 3) (by omega))
        have hx4 := (hc (jj * 5 + 4)).trans (H6.out (jj * 5 + 4) (by omega))
        rw [show (k + ((jj * 5 : Nat) : Int)) = k + 5 * (jj : Int) by omega] at hx0
        rw [show (k + ((jj * 5 + 1 : Nat) : Int)) = k + 5 * (jj : Int) + 1 by omega] at hx1
        rw [show (k + ((jj * 5 + 2 : Nat) : Int)) = k + 5 * (jj : Int) + 1 + 1 by omega] at hx2
        rw [show (k + ((jj * 5 + 3 : Nat) : Int)) = k + 5 * (jj : Int) + 1 + 1 + 1 by omega] at hx3
        rw [show (k + ((jj * 5 + 4 : Nat) : Int)) = k + 5 * (jj : Int) + 1 + 1 + 1 + 1 by omega] at hx4
        have hne0 : ((k + 5 * (jj : Int)) != (k + 5 * (jj : Int))) = false := by simp
        have hne1 : ((k + 5 * (jj : Int) + 1) != (k + 5 * (jj : Int) + 1)) = false := by simp
        have hne2 : ((k + 5 * (jj : Int) + 1 + 1) != (k + 5 * (jj : Int) + 1 + 1)) = false := by simp
        have hne3 : ((k + 5 * (jj : Int) + 1 + 1 + 1) != (k + 5 * (jj : Int) + 1 + 1 + 1)) = false := by simp
        have hne4 : ((k + 5 * (jj : Int) + 1 + 1 + 1 + 1) != (k + 5 * (jj : Int) + 1 + 1 + 1 + 1)) = false := by simp
        clear hc
        go_wp2_with fail
        exact ⟨⟨jj + 1, by omega, by go_num, by simp only [Value.int.injEq, true_and]; omega, by first | rfl | trivial⟩, (by simp [intOf]; omega)⟩
      · obtain rfl : jj = n := by omega
        go_wp2_with fail
        go_ret
        exact ⟨rfl, (by repeat (first | (with_reducible assumption) | (with_reducible exact Ext.refl _) | apply Ext.alloc | apply Ext.drewN | apply Ext.drew))⟩
end Go.Proofs.Ythhkbfjolmgloaa
