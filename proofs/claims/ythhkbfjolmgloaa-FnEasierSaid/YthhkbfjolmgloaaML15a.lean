/- laws.mark*, held* over a placing: the numbers written are found again; eqPlaced. Condition: some 2^20 values at most. -/
import Derived.Test.YthhkbfjolmgloaaML2a
import Derived.Test.YthhkbfjolmgloaaML10a
import Derived.Test.YthhkbfjolmgloaaMHPlaceX
namespace Go.Proofs.Ythhkbfjolmgloaa
open Go.RowKit
set_option linter.unusedVariables false
set_option linter.unusedSimpArgs false
def cntN (ns : Nat → Nat) : Nat → Nat
  | 0 => 0
  | i + 1 => cntN ns i + ns i
theorem cntN_mono (ns : Nat → Nat) {i j : Nat} (h : i ≤ j) : cntN ns i ≤ cntN ns j := by
  induction h with
  | refl => exact Nat.le_refl _
  | step _ ih => exact Nat.le_trans ih (Nat.le_add_right _ _)
theorem cntN_at (ns : Nat → Nat) {i n : Nat} (h : i < n) : cntN ns i + ns i ≤ cntN ns n := cntN_mono ns (i := i + 1) h
/-- The head of rows: a slice of slices. -/
def Hdr (w : World) (v0 : Value) (N : Nat) (vs : Nat → Value) : Prop := ∃ A c, v0 = .slice A N c ∧ (0 < N → ∃ gr cs, A = some ⟨gr, 0, none⟩ ∧ w.heap[gr]? = some (.cells cs 23 (0, 0)) ∧ ∀ i, i < N → cs[i]? = some (vs i))
theorem Hdr.mk {w w' : World} {v0 : Value} {N : Nat} {vs : Nat → Value} {lo hi : Nat} {T : TypeId → Prop} (h : Hdr w v0 N vs) (k : Mk lo hi T w w') (hT : ¬ T 23) : Hdr w' v0 N vs := by
  obtain ⟨A, c, h1, h2⟩ := h
  exact ⟨A, c, h1, fun hn => by obtain ⟨gr, cs, h3, h4, h5⟩ := h2 hn; exact ⟨gr, cs, h3, k.other h4 hT, h5⟩⟩
theorem Hdr.ext {w w' : World} {v0 : Value} {N : Nat} {vs : Nat → Value} (h : Hdr w v0 N vs) (e : Ext w w') : Hdr w' v0 N vs := h.mk (Mk.of_ext (lo := 0) (hi := 0) (T := fun _ => False) e) (fun h => h)
def Rows3 (w : World) (N : Nat) (vs : Nat → Value) (ns la lb : Nat → Nat) : Prop := ∀ i, i < N → MRow (la i) (lb i) w 3 (vs i) (ns i) 1
theorem Rows3.ext {w w' : World} {N : Nat} {vs : Nat → Value} {ns la lb : Nat → Nat} (h : Rows3 w N vs ns la lb) (e : Ext w w') : Rows3 w' N vs ns la lb := fun i hi => (h i hi).ext e
def Seqs (w : World) (N : Nat) (vs : Nat → Value) (ns la lb : Nat → Nat) (k : Int) : Prop := ∀ i, i < N → MSeq (la i) (lb i) w 3 (vs i) (ns i) 1 (k + cntN ns i)
theorem Seqs.ext {w w' : World} {N : Nat} {vs : Nat → Value} {ns la lb : Nat → Nat} {k : Int} (h : Seqs w N vs ns la lb k) (e : Ext w w') : Seqs w' N vs ns la lb k := fun i hi => (h i hi).ext e
def Apart (N : Nat) (la lb : Nat → Nat) : Prop := ∀ i j g, i < N → j < N → i ≠ j → la j ≤ g → g < lb j → g < la i ∨ lb i ≤ g
def Within (N : Nat) (la lb : Nat → Nat) (lo hi : Nat) : Prop := ∀ i, i < N → lo ≤ la i ∧ lb i ≤ hi
set_option maxRecDepth 100000 in
set_option maxHeartbeats 8000000 in
theorem markRows_seq {w : World} {lo hi N : Nat} {v0 : Value} {vs : Nat → Value} {ns la lb : Nat → Nat} (hh : Hdr w v0 N vs) (hr : Rows3 w N vs ns la lb) (ha : Apart N la lb) (hw : Within N la lb lo hi) (hN : N ≤ 1048576) (hs : cntN ns N ≤ 1000000) :
    Calls Try.prog 116 #[v0, .int .i64 1] w fun e w' => e = .returned (.int .i64 (1 + cntN ns N)) ∧ Mk lo hi (fun t => t = 3) w w' ∧ Seqs w' N vs ns la lb 1 := by
  have HH := Lib.hid hh
  obtain ⟨A, c, rfl, h0⟩ := hh
  have HR := Lib.hid hr
  have HA := Lib.hid ha
  have HW := Lib.hid hw
  clear hr ha hw h0
  go_enter Try.func116, Try.ntmps116
  go_wp2_with fail
  go_loopw [1, 5] (fun a j wr => ∃ (jj : Nat), jj ≤ N ∧ j = .int .i64 jj ∧ a = .int .i64 (1 + cntN ns jj) ∧ Hid (Mk lo hi (fun t => t = 3) w wr) ∧ Hid (Seqs wr jj vs ns la lb 1)) (fun _ j _ => N - (intOf j).toNat)
  case atStart => exact ⟨0, Nat.zero_le _, rfl, rfl, Mk.refl _ _ _ _, fun i hi => absurd hi (by omega)⟩
  case round =>
    obtain ⟨jj, hjj, rfl, rfl, HM, HS⟩ := hrel
    by_cases hlt : jj < N
    · obtain ⟨A', c', h1, h4⟩ := HH.out.mk HM.out (by decide)
      obtain ⟨gr, cs, rfl, h5, h6⟩ := h4 (by omega)
      simp only [Value.slice.injEq] at h1
      obtain ⟨rfl, _, rfl⟩ := h1
      have hu' := (box_cell h5 jj).trans (h6 jj hlt)
      have HU := Lib.hid ((HR.out jj hlt).mk HM.out)
      have hlt2 := box_lt h5
      have hsum := cntN_at ns hlt
      obtain ⟨A4, c4, hv4⟩ := HU.out.form
      have HV := Lib.hid hv4
      rw [hv4] at hu'
      clear h5 h6 h4 hv4
      go_wp2_with fail
      rw [← HV.out]
      refine (markInts_seq HU.out (by omega) _ (by omega) (by omega)).mono ?_
      rintro e w5 ⟨rfl, hM5, hS5⟩
      obtain ⟨q1, q2⟩ := HW.out jj hlt
      have HM6 := Lib.hid (HM.out.trans (hM5.wide q1 q2))
      have HS6 : Hid (Seqs w5 (jj + 1) vs ns la lb 1) := fun i hi => by
        by_cases e : i = jj
        · subst e; exact hS5
        · exact (HS.out i (by omega)).box fun g o hg1 hg2 hg => hM5.far hg (HA.out jj i g hlt (by omega) (fun h => e h.symm) hg1 hg2)
      clear hM5 hS5
      go_wp2_with fail
      exact ⟨⟨jj + 1, by omega, by go_num, by simp only [cntN, Value.int.injEq, true_and]; omega, HM6.out, HS6.out⟩, (by simp [intOf]; omega)⟩
    · obtain rfl : jj = N := by omega
      go_wp2_with fail
      go_ret
      exact ⟨rfl, HM.out, HS.out⟩
set_option maxRecDepth 100000 in
set_option maxHeartbeats 8000000 in
theorem heldRows_seq {w : World} {N : Nat} {v0 : Value} {vs : Nat → Value} {ns la lb : Nat → Nat} (hh : Hdr w v0 N vs) (hr : Seqs w N vs ns la lb 1) (hN : N ≤ 1048576) (hs : cntN ns N ≤ 1000000) :
    Calls Try.prog 137 #[v0, .int .i64 1] w fun e w' => e = .returned (.int .i64 (1 + cntN ns N)) ∧ Ext w w' := by
  have HH := Lib.hid hh
  obtain ⟨A, c, rfl, h0⟩ := hh
  have HR := Lib.hid hr
  clear hr h0
  go_enter Try.func137, Try.ntmps137
  go_wp2_with fail
  go_loopw [1, 5] (fun a j wr => ∃ (jj : Nat), jj ≤ N ∧ j = .int .i64 jj ∧ a = .int .i64 (1 + cntN ns jj) ∧ Hid (Ext w wr)) (fun _ j _ => N - (intOf j).toNat)
  case atStart => exact ⟨0, Nat.zero_le _, rfl, rfl, Ext.refl _⟩
  case round =>
    obtain ⟨jj, hjj, rfl, rfl, HM⟩ := hrel
    by_cases hlt : jj < N
    · obtain ⟨A', c', h1, h4⟩ := HH.out.ext HM.out
      obtain ⟨gr, cs, rfl, h5, h6⟩ := h4 (by omega)
      simp only [Value.slice.injEq] at h1
      obtain ⟨rfl, _, rfl⟩ := h1
      have hu' := (box_cell h5 jj).trans (h6 jj hlt)
      have HU := Lib.hid ((HR.out jj hlt).ext HM.out)
      have hlt2 := box_lt h5
      have hsum := cntN_at ns hlt
      obtain ⟨A4, c4, hv4⟩ := HU.out.form
      have HV := Lib.hid hv4
      rw [hv4] at hu'
      clear h5 h6 h4 hv4
      go_wp2_with fail
      rw [← HV.out]
      refine (heldInts_seq HU.out (by omega) (by omega) (by omega)).mono ?_
      rintro e w5 ⟨rfl, hM5⟩
      have HM6 := Lib.hid (HM.out.trans hM5)
      have hd : decide (1 + (cntN ns jj : Int) + (ns jj : Int) < 0) = false := by simp; omega
      clear hM5
      go_wp2_with fail
      exact ⟨⟨jj + 1, by omega, by go_num, by simp only [cntN, Value.int.injEq, true_and]; omega, HM6.out⟩, (by simp [intOf]; omega)⟩
    · obtain rfl : jj = N := by omega
      go_wp2_with fail
      go_ret
      exact ⟨rfl, HM.out⟩
set_option maxRecDepth 100000 in
set_option maxHeartbeats 8000000 in
theorem markPlan_seq {w : World} {lo hi N : Nat} {v0 : Value} {vs : Nat → Value} {ns la lb : Nat → Nat} (hh : Hdr w v0 N vs) (hr : Rows3 w N vs ns la lb) (ha : Apart N la lb) (hw : Within N la lb lo hi) (hN : N ≤ 1048576) (hs : cntN ns N ≤ 1000000) :
    Calls Try.prog 50 #[.agg #[v0], .int .i64 1] w fun e w' => e = .returned (.int .i64 (1 + cntN ns N)) ∧ Mk lo hi (fun t => t = 3) w w' ∧ Seqs w' N vs ns la lb 1 := by
  have HH := Lib.hid hh
  obtain ⟨A, c, rfl, h0⟩ := hh
  clear h0
  go_enter Try.func50, Try.ntmps50
  go_wp2_with fail
  refine (markRows_seq (HH.out.ext (by repeat (first | (with_reducible assumption) | (with_reducible exact Ext.refl _) | apply Ext.alloc | apply Ext.drewN | apply Ext.drew))) (hr.ext (by repeat (first | (with_reducible assumption) | (with_reducible exact Ext.refl _) | apply Ext.alloc | apply Ext.drewN | apply Ext.drew))) ha hw hN hs).mono ?_
  rintro e w1 ⟨rfl, hM, hS⟩
  go_wp2_with fail
  go_ret
  exact ⟨rfl, (Mk.of_ext (by repeat (first | (with_reducible assumption) | (with_reducible exact Ext.refl _) | apply Ext.alloc | apply Ext.drewN | apply Ext.drew))).trans hM, hS⟩
set_option maxRecDepth 100000 in
set_option maxHeartbeats 8000000 in
theorem heldPlan_seq {w : World} {N : Nat} {v0 : Value} {vs : Nat → Value} {ns la lb : Nat → Nat} (hh : Hdr w v0 N vs) (hr : Seqs w N vs ns la lb 1) (hN : N ≤ 1048576) (hs : cntN ns N ≤ 1000000) :
    Calls Try.prog 121 #[.agg #[v0], .int .i64 1] w fun e w' => e = .returned (.int .i64 (1 + cntN ns N)) ∧ Ext w w' := by
  have HH := Lib.hid hh
  obtain ⟨A, c, rfl, h0⟩ := hh
  clear h0
  have hd : decide (1 + (cntN ns N : Int) < 0) = false := by simp; omega
  go_enter Try.func121, Try.ntmps121
  go_wp2_with fail
  refine (heldRows_seq (HH.out.ext (by repeat (first | (with_reducible assumption) | (with_reducible exact Ext.refl _) | apply Ext.alloc | apply Ext.drewN | apply Ext.drew))) (hr.ext (by repeat (first | (with_reducible assumption) | (with_reducible exact Ext.refl _) | apply Ext.alloc | apply Ext.drewN | apply Ext.drew))) hN hs).mono ?_
  rintro e w1 ⟨rfl, hE⟩
  go_wp2_with fail
  go_ret
  exact ⟨rfl, Ext.trans (by repeat (first | (with_reducible assumption) | (with_reducible exact Ext.refl _) | apply Ext.alloc | apply Ext.drewN | apply Ext.drew)) hE⟩
set_option maxRecDepth 100000 in
set_option maxHeartbeats 8000000 in
theorem markPlaced_seq {w : World} {lo hi N : Nat} {a b : Int} {v0 : Value} {vs : Nat → Value} {ns la lb : Nat → Nat} (hh : Hdr w v0 N vs) (hr : Rows3 w N vs ns la lb) (ha : Apart N la lb) (hw : Within N la lb lo hi) (hN : N ≤ 1048576) (hs : cntN ns N ≤ 1000000) :
    Calls Try.prog 66 #[placedV a b v0, .int .i64 1] w fun e w' => e = .returned (.int .i64 (1 + cntN ns N)) ∧ Mk lo hi (fun t => t = 3) w w' ∧ Seqs w' N vs ns la lb 1 := by
  have HH := Lib.hid hh
  obtain ⟨A, c, rfl, h0⟩ := hh
  clear h0
  unfold placedV
  go_enter Try.func66, Try.ntmps66
  go_wp2_with fail
  refine (markPlan_seq (HH.out.ext (by repeat (first | (with_reducible assumption) | (with_reducible exact Ext.refl _) | apply Ext.alloc | apply Ext.drewN | apply Ext.drew))) (hr.ext (by repeat (first | (with_reducible assumption) | (with_reducible exact Ext.refl _) | apply Ext.alloc | apply Ext.drewN | apply Ext.drew))) ha hw hN hs).mono ?_
  rintro e w1 ⟨rfl, hM, hS⟩
  go_wp2_with fail
  go_ret
  exact ⟨rfl, (Mk.of_ext (by repeat (first | (with_reducible assumption) | (with_reducible exact Ext.refl _) | apply Ext.alloc | apply Ext.drewN | apply Ext.drew))).trans hM, hS⟩
set_option maxRecDepth 100000 in
set_option maxHeartbeats 8000000 in
theorem heldPlaced_seq {w : World} {N : Nat} {a b : Int} {v0 : Value} {vs : Nat → Value} {ns la lb : Nat → Nat} (hh : Hdr w v0 N vs) (hr : Seqs w N vs ns la lb 1) (hN : N ≤ 1048576) (hs : cntN ns N ≤ 1000000) :
    Calls Try.prog 67 #[placedV a b v0, .int .i64 1] w fun e w' => e = .returned (.int .i64 (1 + cntN ns N)) ∧ Ext w w' := by
  have HH := Lib.hid hh
  obtain ⟨A, c, rfl, h0⟩ := hh
  clear h0
  have hd : decide (1 + (cntN ns N : Int) < 0) = false := by simp; omega
  unfold placedV
  go_enter Try.func67, Try.ntmps67
  go_wp2_with fail
  refine (heldPlan_seq (HH.out.ext (by repeat (first | (with_reducible assumption) | (with_reducible exact Ext.refl _) | apply Ext.alloc | apply Ext.drewN | apply Ext.drew))) (hr.ext (by repeat (first | (with_reducible assumption) | (with_reducible exact Ext.refl _) | apply Ext.alloc | apply Ext.drewN | apply Ext.drew))) hN hs).mono ?_
  rintro e w1 ⟨rfl, hE⟩
  go_wp2_with fail
  go_ret
  exact ⟨rfl, Ext.trans (by repeat (first | (with_reducible assumption) | (with_reducible exact Ext.refl _) | apply Ext.alloc | apply Ext.drewN | apply Ext.drew)) hE⟩
set_option maxRecDepth 100000 in
set_option maxHeartbeats 8000000 in
theorem eqPlaced_same {w : World} {a b : Int} {p : List (List Int)} {A A' : Option Addr} {c c' : Nat} (hu : RdRows w A p) (hv : RdRows w A' p) (hn : p.length ≤ 1048576) (hl : ∀ (i : Nat) (t : List Int), p[i]? = some t → t.length ≤ 1048576) :
    Calls Try.prog 65 #[placedV a b (.slice A p.length c), placedV a b (.slice A' p.length c')] w fun e w' => e = .returned (.bool true) ∧ Ext w w' := by
  have HU : Hid (IsPlan w p (.agg #[.slice A p.length c])) := ⟨A, c, rfl, hu⟩
  have HV : Hid (IsPlan w p (.agg #[.slice A' p.length c'])) := ⟨A', c', rfl, hv⟩
  have HLL := Lib.hid hl
  have ha : (a != a) = false := by simp
  have hb : (b != b) = false := by simp
  clear hu hv hl
  unfold placedV
  go_enter Try.func65, Try.ntmps65
  go_wp2_with fail
  refine (eqPlan_same (HU.out.ext (by repeat (first | (with_reducible assumption) | (with_reducible exact Ext.refl _) | apply Ext.alloc | apply Ext.drewN | apply Ext.drew))) (HV.out.ext (by repeat (first | (with_reducible assumption) | (with_reducible exact Ext.refl _) | apply Ext.alloc | apply Ext.drewN | apply Ext.drew))) (by omega) (fun i t ht => by have := HLL.out i t ht; omega)).mono ?_
  rintro e w1 ⟨rfl, hE⟩
  go_wp2_with fail
  go_ret
  exact ⟨rfl, Ext.trans (by repeat (first | (with_reducible assumption) | (with_reducible exact Ext.refl _) | apply Ext.alloc | apply Ext.drewN | apply Ext.drew)) hE⟩
theorem placeS_rows (l : Line) : ∀ (is : List Int) (k : Nat) (p : List (List Int)) (last : Int), p.length = l.trains.length → (∀ i, i < l.trains.length → (p.getD i []).length ≤ (l.tr i).legs.length) →
    (placeS l k is p last).2 = [] ∨ ((placeS l k is p last).2.length = l.trains.length ∧ ∀ i, i < l.trains.length → ((placeS l k is p last).2.getD i []).length ≤ (l.tr i).legs.length) := by
  intro is
  induction is with
  | nil => intro k p last h1 h2; exact Or.inr ⟨h1, h2⟩
  | cons i is ih =>
    intro k p last h1 h2
    unfold placeS
    by_cases h : 0 ≤ i ∧ i.toNat < l.trains.length ∧ (p.getD i.toNat []).length < (l.tr i.toNat).legs.length
    · rw [if_pos h]
      rcases hst : stepT l p last i.toNat with _ | t
      · exact Or.inl rfl
      · refine ih (k + 1) (put p i.toNat t) t (by rw [put_length]; exact h1) (fun j hj => ?_)
        have e := put_len (t := t) (show i.toNat < p.length by omega) j
        rw [e]
        by_cases ej : j = i.toNat
        · rw [if_pos ej]; subst ej; omega
        · rw [if_neg ej]; exact h2 j hj
    · rw [if_neg h]; exact Or.inl rfl
theorem placeA_small (l : Line) (order : List Int) : (placeA l order).2.length ≤ 5 ∧ ∀ i, rl (placeA l order).2 i ≤ 10 := by
  have nil : ([] : List (List Int)).length ≤ 5 ∧ ∀ i, rl ([] : List (List Int)) i ≤ 10 := ⟨by simp, fun i => by simp [rl]⟩
  unfold placeA
  by_cases h : right l = true ∧ order.length ≤ 10
  · rw [if_pos h]
    have B := (right_iff.1 h.1).bd
    rcases placeS_rows l order 0 (List.replicate l.trains.length []) 0 (by simp) (fun i _ => by rw [getD_replicate_nil]; simp) with e | ⟨e1, e2⟩
    · split
      · split
        · rw [e]; exact nil
        · exact nil
      · exact nil
    · split
      · split
        · refine ⟨by have := B.n5; simp only []; omega, fun i => ?_⟩
          by_cases hi : i < l.trains.length
          · have := e2 i hi
            obtain ⟨_, _⟩ := B.nl1 i hi
            show ((placeS l 0 order (List.replicate l.trains.length []) 0).2.getD i []).length ≤ 10
            omega
          · unfold rl
            rw [List.getD_eq_getElem?_getD, List.getElem?_eq_none (by simp only []; omega)]
            simp
        · exact nil
      · exact nil
  · rw [if_neg h]; exact nil
theorem cntN_le {ns : Nat → Nat} {b : Nat} (h : ∀ i, ns i ≤ b) : ∀ n, cntN ns n ≤ b * n := by
  intro n
  induction n with
  | zero => simp [cntN]
  | succ n ih => have := h n; simp only [cntN]; rw [Nat.mul_succ]; omega
/-! ### Rows of a placing, for marking -/
def laV (lo : Nat) (v : Value) : Nat := v.ownBlock.getD lo
def lbV (lo : Nat) (v : Value) : Nat := (v.ownBlock.map (· + 1)).getD lo
theorem mrow_own {w : World} {B n : Nat} {v : Value} {xs : List Value} (lo : Nat) (h : w.ownsRow B 3 1 v n xs) : MRow (laV lo v) (lbV lo v) w 3 v n 1 := by
  rcases h.2 with ⟨rfl, rfl⟩ | ⟨g, cap, cur, rfl, _, h2, h3, _, h4, _⟩
  · exact Or.inl ⟨rfl, none, 0, rfl⟩
  · exact Or.inr ⟨g, cap, cur, rfl, Nat.le_refl _, Nat.lt_succ_self _, h2, by omega⟩
theorem PRows.hdr {w : World} {lo : Nat} {p : List (List Int)} {AR : Option Addr} {gr : Nat} {vs : Nat → Value} (h : PRows w lo p AR gr vs) (cR : Nat) : Hdr w (.slice AR p.length cR) p.length vs :=
  ⟨AR, cR, rfl, fun hn => by obtain ⟨h1, cs, h2, h3⟩ := h.base hn; exact ⟨gr, cs, h1, h2, h3⟩⟩
theorem PRows.rows3 {w : World} {lo : Nat} {p : List (List Int)} {AR : Option Addr} {gr : Nat} {vs : Nat → Value} (h : PRows w lo p AR gr vs) : Rows3 w p.length vs (rl p) (fun i => laV lo (vs i)) (fun i => lbV lo (vs i)) := fun i hi => mrow_own lo (h.own i hi)
theorem PRows.apartL {w : World} {lo : Nat} {p : List (List Int)} {AR : Option Addr} {gr : Nat} {vs : Nat → Value} (h : PRows w lo p AR gr vs) : Apart p.length (fun i => laV lo (vs i)) (fun i => lbV lo (vs i)) := by
  intro i j g hi hj hne h1 h2
  simp only [laV, lbV] at h1 h2 ⊢
  rcases hi' : (vs i).ownBlock with _ | a
  · rcases hj' : (vs j).ownBlock with _ | b
    · rw [hj'] at h1 h2; simp at h1 h2; omega
    · simp; omega
  · rcases hj' : (vs j).ownBlock with _ | b
    · rw [hj'] at h1 h2; simp at h1 h2; omega
    · rw [hj'] at h1 h2
      have := h.apart i j a hi hj hne hi'
      rw [hj'] at this
      simp at h1 h2 this ⊢
      omega
theorem PRows.within {w : World} {lo : Nat} {p : List (List Int)} {AR : Option Addr} {gr : Nat} {vs : Nat → Value} (h : PRows w lo p AR gr vs) (hl : lo ≤ w.heap.size) : Within p.length (fun i => laV lo (vs i)) (fun i => lbV lo (vs i)) lo w.heap.size := by
  intro i hi
  simp only [laV, lbV]
  rcases hi' : (vs i).ownBlock with _ | a
  · simp; omega
  · have := (h.own i hi).lt a hi'
    simp; omega
theorem PRows.marked {w w2 : World} {lo : Nat} {p : List (List Int)} {AR : Option Addr} {gr : Nat} {vs : Nat → Value} {lo' hi' : Nat} {T : TypeId → Prop} (h : PRows w lo p AR gr vs) (k : Mk lo' hi' T w w2) (hb : hi' ≤ lo) : PRows w2 lo p AR gr vs :=
  ⟨fun hn => by obtain ⟨h1, cs, h2, h3⟩ := h.base hn; exact ⟨h1, cs, k.far h2 (Or.inr (by have := h.lor; omega)), h3⟩, fun i hi => ownsRow_marked (h.own i hi) k (fun g hg => Or.inr (by have := ((h.own i hi).lt g hg).1; omega)), h.apart, h.far, h.lor⟩
end Go.Proofs.Ythhkbfjolmgloaa
