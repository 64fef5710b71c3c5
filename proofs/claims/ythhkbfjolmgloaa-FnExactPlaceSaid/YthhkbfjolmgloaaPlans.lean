/- Plans: laws.szIntSS, szPlan, toIntSS, toPlan; spec.l2shape and impl.shaped answer one plain function. Conditions: lists of at most 2^20. -/
import Derived.Test.YthhkbfjolmgloaaPlain
namespace Go.Proofs.Ythhkbfjolmgloaa
open Go.RowKit
set_option linter.unusedVariables false
set_option linter.unusedSimpArgs false
/-- How many numbers rows have in all. -/
def rowsN : List (List Int) → Nat
  | [] => 0
  | r :: rs => r.length + rowsN rs
theorem rowsN_at {rs : List (List Int)} {i : Nat} {r : List Int} (h : rs[i]? = some r) : rowsN (rs.drop i) = r.length + rowsN (rs.drop (i + 1)) := by
  rw [drop_some h]
  rfl
theorem rowsN_end {rs : List (List Int)} {i : Nat} (h : rs.length ≤ i) : rowsN (rs.drop i) = 0 := by
  rw [drop_end h]
  rfl
theorem rowsN_le {rs : List (List Int)} {i : Nat} {r : List Int} (h : rs[i]? = some r) : r.length ≤ rowsN rs := by
  induction rs generalizing i with
  | nil => simp at h
  | cons y ys ih =>
    cases i with
    | zero => simp at h; subst h; simp [rowsN]
    | succ i => simp at h; have := ih h; simp [rowsN]; omega
set_option maxRecDepth 100000 in
set_option maxHeartbeats 1000000 in
theorem szIntSS_any {w : World} {rs : List (List Int)} {A : Option Addr} (c : Nat) (hA : RdRows w A rs) (left : Int) (hn : rs.length ≤ 9223372036854775807) (hl : ∀ (i : Nat) (t : List Int), rs[i]? = some t → t.length ≤ 9223372036854775807) (h0 : 0 ≤ left) (h1 : left ≤ 1048576) :
    Calls Try.prog 104 #[.slice A rs.length c, .int .i64 left] w fun e w' => e = .returned (.int .i64 (cut left (rs.length + rowsN rs))) ∧ Ext w w' := by
  by_cases h : left < rs.length
  · have hc : cut left (rs.length + rowsN rs) = -1 := cut_neg (by omega)
    have HC := Lib.hid hc; clear hc
    go_enter Try.func104, Try.ntmps104
    go_wp2
    go_ret
    exact ⟨ret_i64 HC.out.symm, Ext.refl _⟩
  · go_enter Try.func104, Try.ntmps104
    go_wp2
    go_loopw [1, 5] (fun a j wr => ∃ (jj : Nat) (q : Int), jj ≤ rs.length ∧ j = .int .i64 jj ∧ a = .int .i64 q ∧ 0 ≤ q ∧ q ≤ 1048576 ∧ Hid (cut q (rowsN (rs.drop jj)) = cut left (rs.length + rowsN rs)) ∧ Ext w wr) (fun _ j _ => rs.length - (intOf j).toNat)
    case atStart => exact ⟨0, left - rs.length, Nat.zero_le _, rfl, rfl, by omega, by omega, by simp [Hid, cut]; omega, Ext.refl _⟩
    case round =>
      obtain ⟨jj, q, hjj, rfl, rfl, hq0, hq1, HS, hE0⟩ := hrel
      obtain ⟨hcl, hup⟩ := (Lp.of_ext hE0).open0
      by_cases hlt : jj < rs.length
      · obtain ⟨t, ht⟩ := hid_of_lt hlt
        obtain ⟨b, o, rfl, hb⟩ := hA.base hlt
        obtain ⟨A4, c4, e4, hR⟩ := hA.at_ ht.out
        have hN := hl _ _ ht.out
        by_cases hq : q < t.length
        · have hcq := cut_neg hq
          go_wp2_with (go_at_call 73; refine (szIntS_any _ _ _ _ _ hN hq0 hq1).mono ?_; rintro e w' ⟨rfl, hE⟩)
          go_ret
          exact ⟨ret_i64 (by rw [← HS.out, rowsN_at ht.out, cut_neg (by omega)]), hE0.trans hE⟩
        · have hcq := cut_ok hq
          have hq' : 0 ≤ q - t.length := by omega
          go_wp2_with (go_at_call 73; refine (szIntS_any _ _ _ _ _ hN hq0 hq1).mono ?_; rintro e w' ⟨rfl, hE⟩)
          exact ⟨⟨jj + 1, q - t.length, by omega, by go_num, rfl, by omega, by omega, by rw [← HS.out, rowsN_at ht.out]; unfold Hid cut; omega, hE0.trans hE⟩, (by simp [intOf]; omega)⟩
      · have he : rowsN (rs.drop jj) = 0 := rowsN_end (by omega)
        have HE := Lib.hid he; clear he
        go_wp2
        go_ret
        exact ⟨ret_i64 (by rw [← HS.out, HE.out]; unfold cut; omega), hE0⟩
def planSize (p : List (List Int)) : Nat := p.length + rowsN p
set_option maxRecDepth 100000 in
set_option maxHeartbeats 1000000 in
theorem szPlan_any {w : World} {p : List (List Int)} {v : Value} (hp : IsPlan w p v) (hn : p.length ≤ 9223372036854775807) (hl : ∀ (i : Nat) (t : List Int), p[i]? = some t → t.length ≤ 9223372036854775807) (left : Int) (h0 : 0 ≤ left) (h1 : left ≤ 1048576) :
    Calls Try.prog 38 #[v, .int .i64 left] w fun e w' => e = .returned (.int .i64 (cut left (planSize p))) ∧ Ext w w' := by
  obtain ⟨A0, c0, rfl, hR0⟩ := hp
  have HR := Lib.hid hR0; clear hR0
  by_cases h : left < (planSize p : Nat)
  · have hc : cut left (p.length + rowsN p) = -1 := cut_neg h
    have hc2 : cut left (planSize p) = -1 := cut_neg h
    have HC := Lib.hid hc2; clear hc2
    go_enter Try.func38, Try.ntmps38
    go_wp2_with (go_at_call 104; refine (szIntSS_any c0 (HR.out.ext (by repeat (first | (with_reducible assumption) | (with_reducible exact Ext.refl _) | apply Ext.alloc | apply Ext.drewN | apply Ext.drew))) _ hn hl h0 h1).mono ?_; rintro e w1 ⟨rfl, hE⟩)
    go_ret
    exact ⟨ret_i64 HC.out.symm, Ext.trans (by repeat (first | (with_reducible assumption) | (with_reducible exact Ext.refl _) | apply Ext.alloc | apply Ext.drewN | apply Ext.drew)) hE⟩
  · have hc : cut left (p.length + rowsN p) = left - (p.length + rowsN p : Nat) := cut_ok h
    have hc2 : cut left (planSize p) = left - (p.length + rowsN p : Nat) := cut_ok h
    have hc3 : 0 ≤ left - (p.length + rowsN p : Nat) := by unfold planSize at h; omega
    have HC := Lib.hid hc2; clear hc2
    go_enter Try.func38, Try.ntmps38
    go_wp2_with (go_at_call 104; refine (szIntSS_any c0 (HR.out.ext (by repeat (first | (with_reducible assumption) | (with_reducible exact Ext.refl _) | apply Ext.alloc | apply Ext.drewN | apply Ext.drew))) _ hn hl h0 h1).mono ?_; rintro e w1 ⟨rfl, hE⟩)
    go_ret
    exact ⟨ret_i64 HC.out.symm, Ext.trans (by repeat (first | (with_reducible assumption) | (with_reducible exact Ext.refl _) | apply Ext.alloc | apply Ext.drewN | apply Ext.drew)) hE⟩

/-! ### Rows of the call's own -/
/-- Slices' values, of which the first k are rows of the call's own, each in a block of its own. -/
structure RowVals (B : Nat) (w : World) (k : Nat) (vs : List Value) (xs : List (List Int)) : Prop where
  len : vs.length = xs.length
  row : ∀ (j : Nat) (x : List Int), j < k → xs[j]? = some x → ∃ u, vs[j]? = some u ∧ OwnInts B w u x
theorem RowVals.map {B B' k : Nat} {w w' : World} {vs : List Value} {xs : List (List Int)} (h : RowVals B w k vs xs) (f : ∀ u x, OwnInts B w u x → OwnInts B' w' u x) : RowVals B' w' k vs xs :=
  ⟨h.len, fun j x hj hx => by
    obtain ⟨u, h1, h2⟩ := h.row j x hj hx
    exact ⟨u, h1, f _ _ h2⟩⟩
theorem RowVals.set {B k : Nat} {w : World} {vs : List Value} {xs : List (List Int)} (h : RowVals B w k vs xs) {x : List Int} (hx : xs[k]? = some x) {u : Value} (hu : OwnInts B w u x) : RowVals B w (k + 1) (vs.set k u) xs :=
  ⟨by simpa using h.len, fun j y hj hy => by
    by_cases e : k = j
    · subst e
      obtain rfl : x = y := by rw [hx] at hy; injection hy
      exact ⟨u, by rw [List.getElem?_set_self (by rw [h.len]; exact lt_of_some hx)], hu⟩
    · obtain ⟨v, h1, h2⟩ := h.row j y (by omega) hy
      exact ⟨v, by rw [List.getElem?_set_ne e]; exact h1, h2⟩⟩
def OwnRows (B : Nat) (w : World) (v : Value) (xs : List (List Int)) : Prop := ∃ g vs, v = .slice (some ⟨g, 0, none⟩) xs.length xs.length ∧ B ≤ g ∧ w.heap[g]? = some (.cells vs.toArray 23 (0, 0)) ∧ RowVals B w xs.length vs xs
theorem OwnRows.ext {B : Nat} {w w' : World} {v : Value} {xs : List (List Int)} (h : OwnRows B w v xs) (e : Ext w w') : OwnRows B w' v xs := by
  obtain ⟨g, vs, h1, h2, h3, h4⟩ := h
  exact ⟨g, vs, h1, h2, e.box h3, h4.map (fun _ _ h => h.ext e)⟩
theorem OwnRows.far {B : Nat} {w : World} {v : Value} {xs : List (List Int)} (h : OwnRows B w v xs) {g : Nat} (hg : g < B) (j : Nat) (u : Value) : OwnRows B (w.setCell ⟨g, j, none⟩ u) v xs := by
  obtain ⟨g', vs, h1, h2, h3, h4⟩ := h
  exact ⟨g', vs, h1, h2, box_set_far h3 j u (by omega), h4.map (fun _ _ h => h.far hg j u)⟩
theorem OwnRows.mono {B B' : Nat} {w : World} {v : Value} {xs : List (List Int)} (h : OwnRows B w v xs) (hB : B' ≤ B) : OwnRows B' w v xs := by
  obtain ⟨g', vs, h1, h2, h3, h4⟩ := h
  exact ⟨g', vs, h1, by omega, h3, h4.map (fun _ _ h => h.mono hB)⟩
theorem OwnRows.rd {B : Nat} {w : World} {v : Value} {xs : List (List Int)} (h : OwnRows B w v xs) : ∃ A c, v = .slice A xs.length c ∧ RdRows w A xs := by
  obtain ⟨g, vs, h1, h2, h3, h4⟩ := h
  refine ⟨_, _, h1, fun j x hx => ⟨g, 0, rfl, box_lt h3, ?_⟩⟩
  obtain ⟨u, hr, ho⟩ := h4.row j x (lt_of_some hx) hx
  obtain ⟨A, c, rfl, hR⟩ := ho.rd
  refine ⟨A, c, ?_, hR⟩
  rw [box_cell h3, List.getElem?_toArray, Nat.zero_add, Nat.mul_one, hr]
set_option maxRecDepth 100000 in
set_option maxHeartbeats 1000000 in
theorem toIntSS_any {w : World} {xs : List (List Int)} {A : Option Addr} (c : Nat) (hA : RdRows w A xs) (hn : xs.length ≤ 1048576) (hl : ∀ (i : Nat) (t : List Int), xs[i]? = some t → t.length ≤ 1048576) :
    Calls Try.prog 106 #[.slice A xs.length c] w fun e w' => ∃ v, e = .returned v ∧ OwnRows w.heap.size w' v xs ∧ Ext w w' := by
  have hmk := make_any 40 23 _ 1 24 Try.underlying40 info23 rfl xs.length (by omega) (by omega)
  have hz : (List.replicate xs.length (Value.slice none 0 0).cells.toList).flatten = List.replicate xs.length (Value.slice none 0 0) := by
    rw [show (Value.slice none 0 0).cells.toList = [Value.slice none 0 0] from rfl]
    generalize xs.length = n
    induction n with
    | zero => rfl
    | succ n ih => rw [List.replicate_succ, List.flatten_cons, ih, List.replicate_succ]; rfl
  rw [hz] at hmk
  go_enter Try.func106, Try.ntmps106
  go_wp2
  clear hmk hz
  go_loopw [4] (fun j wr => ∃ (jj : Nat) (vs : List Value), jj ≤ xs.length ∧ j = .int .i64 jj ∧ Ext w wr ∧ wr.heap[w.heap.size]? = some (.cells vs.toArray 23 (0, 0)) ∧ RowVals (w.heap.size + 1) wr jj vs xs) (fun j _ => xs.length - (intOf j).toNat)
  case atStart => exact ⟨0, List.replicate xs.length (Value.slice none 0 0), Nat.zero_le _, rfl, (by repeat (first | (with_reducible assumption) | (with_reducible exact Ext.refl _) | apply Ext.alloc | apply Ext.drewN | apply Ext.drew)), by simpa using box_new w _, by simp, fun j x hj _ => absurd hj (by omega)⟩
  case round =>
    obtain ⟨jj, vs, hjj, rfl, hE0, hB, hT⟩ := hrel
    obtain ⟨hcl, hup⟩ := (Lp.of_ext hE0).open0
    have HB := Lib.hid hB; clear hB
    have HT := Lib.hid hT; clear hT
    have hlt0 : w.heap.size < wr.heap.size := box_lt HB.out
    by_cases hlt : jj < xs.length
    · obtain ⟨x, hx⟩ := hid_of_lt hlt
      obtain ⟨b, o, rfl, hb⟩ := hA.base hlt
      obtain ⟨A4, c4, e4, hR⟩ := hA.at_ hx.out
      have HR := Lib.hid (RdInt.ext hR hE0); clear hR
      have hN := hl _ _ hx.out
      obtain ⟨r, hr⟩ := hid_of_lt (l := vs) (i := jj) (by rw [HT.out.len]; exact hlt)
      go_wp2_with (go_at_call 64; refine (toIntS_any c4 HR.out hN).mono ?_; rintro e w1 ⟨rfl, hU, hE⟩; have HU : Hid (OwnInts wr.heap.size w1 (.slice (some ⟨wr.heap.size, 0, none⟩) x.length x.length) x) := ⟨_, rfl, Nat.le_refl _, hU⟩; clear hU; have HB1 := Lib.hid (hE.box HB.out); have fr := box_frozen HB1.out; have g0 : w1.cell? ⟨w.heap.size, jj, none⟩ = some r := (box_cell HB1.out _).trans ((List.getElem?_toArray ..).trans hr.out))
      refine ⟨⟨jj + 1, vs.set jj (.slice (some ⟨wr.heap.size, 0, none⟩) x.length x.length), by omega, by go_num, Ext.setCell (hE0.trans hE) (Nat.le_refl _) _, ?_, ?_⟩, (by simp [intOf]; omega)⟩
      · rw [box_set HB1.out _ _]
        simp
      · have h1 := (HT.out.map (fun _ _ h => h.ext hE)).set hx.out (HU.out.mono (by omega))
        exact h1.map (fun _ _ h => h.far (by omega) _ _)
    · have he : jj = xs.length := by omega
      have HE := Lib.hid he; clear he
      go_wp2
      go_ret
      exact ⟨_, rfl, ⟨_, vs, rfl, Nat.le_refl _, HB.out, ⟨HT.out.len, fun j x hj hx => by
        obtain ⟨u, h1, h2⟩ := HT.out.row j x (by rw [HE.out]; exact hj) hx
        exact ⟨u, h1, h2.mono (by omega)⟩⟩⟩, hE0⟩
def OwnPlan (B : Nat) (w : World) (v : Value) (p : List (List Int)) : Prop := ∃ g, v = .agg #[.slice (some ⟨g, 0, none⟩) p.length p.length] ∧ OwnRows B w (.slice (some ⟨g, 0, none⟩) p.length p.length) p
theorem OwnPlan.rd {B : Nat} {w : World} {v : Value} {p : List (List Int)} (h : OwnPlan B w v p) : IsPlan w p v := by
  obtain ⟨g, rfl, h1⟩ := h
  obtain ⟨A, c, e, hR⟩ := h1.rd
  rw [e]
  exact ⟨A, c, rfl, hR⟩
theorem OwnPlan.ext {B : Nat} {w w' : World} {v : Value} {p : List (List Int)} (h : OwnPlan B w v p) (e : Ext w w') : OwnPlan B w' v p := by
  obtain ⟨g, rfl, h1⟩ := h
  exact ⟨g, rfl, h1.ext e⟩
set_option maxRecDepth 100000 in
set_option maxHeartbeats 1000000 in
theorem toPlan_any {w : World} {p : List (List Int)} {v : Value} (hp : IsPlan w p v) (hn : p.length ≤ 1048576) (hl : ∀ (i : Nat) (t : List Int), p[i]? = some t → t.length ≤ 1048576) :
    Calls Try.prog 40 #[v] w fun e w' => ∃ u, e = .returned u ∧ OwnPlan w.heap.size w' u p ∧ Ext w w' := by
  obtain ⟨A0, c0, rfl, hR⟩ := hp
  have HR := Lib.hid hR; clear hR
  go_enter Try.func40, Try.ntmps40
  go_wp2_with (go_at_call 106; refine (toIntSS_any c0 (HR.out.ext (by repeat (first | (with_reducible assumption) | (with_reducible exact Ext.refl _) | apply Ext.alloc | apply Ext.drewN | apply Ext.drew))) hn hl).mono ?_; rintro e w1 ⟨u, rfl, ⟨gu, vs, rfl, hgu, hU1, hU2⟩, hE⟩; simp only [alloc_size] at hgu;  have HU : Hid (OwnRows (w.heap.size + 1 + 1 + 1) w1 (.slice (some ⟨gu, 0, none⟩) p.length p.length) p) := ⟨gu, vs, rfl, by omega, hU1, hU2.map (fun _ _ h => h.mono (by simp))⟩; clear hU1 hU2;  have hS := Lp.trans (bs := [(w.heap.size + 1 + 1, #[.slice none 0 0], 42), (w.heap.size + 1, #[.slice none 0 0], 42)]) ((((Lp.nil w).alloc _).newAt _ _ (by simp)).newAt _ _ (by simp)) hE; obtain ⟨k1, k2, k3, k4, k5, k6⟩ := hS.open2; have fr1 := box_frozen (hS.box _ List.mem_cons_self); have fr2 := box_frozen (hS.box _ (List.mem_cons_of_mem _ List.mem_cons_self)))
  refine bodyPost_ret (v := .agg #[.slice (some ⟨gu, 0, none⟩) p.length p.length]) (by simp [results, Try.results40, go_sem, k1, k2, k3, k4, k5, k6]) rfl ⟨_, rfl, ⟨gu, rfl, ?_⟩, (by repeat (first | (with_reducible exact hS.ext) | (with_reducible assumption) | (with_reducible exact Ext.refl _) | with_reducible apply Ext.alloc | with_reducible apply Ext.drewN | with_reducible apply Ext.drew | with_reducible refine Ext.setCell ?_ (by simp only []; omega) _))⟩
  exact ((HU.out.far (by omega) _ _).far (by omega) _ _).mono (by omega)

/-! ### Shape -/
def rowOk (l : Line) (i : Nat) (r : List Int) : Bool := (r.length == (l.trains.getD i default).legs.length) && (findI (fun _ x => if inB x 0 1000000 then none else some ()) 0 r).isNone
def shapeOk (l : Line) (p : List (List Int)) : Bool := (p.length == l.trains.length) && (findI (fun i r => if rowOk l i r then none else some ()) 0 p).isNone
set_option maxRecDepth 100000 in
set_option maxHeartbeats 1000000 in
theorem l2shape_any {w : World} {l : Line} {p : List (List Int)} {u v : Value} (hl : IsLine w l u) (hp : IsPlan w p v) (hpn : p.length ≤ 1048576) (hln : l.trains.length ≤ 1048576) (hpl : ∀ (i : Nat) (t : List Int), p[i]? = some t → t.length ≤ 1048576) :
    Calls Try.prog 105 #[u, v] w fun e w' => e = .returned (.bool (shapeOk l p)) ∧ Ext w w' := by
  obtain ⟨A0, c0, A2, c2, rfl, h0, h2⟩ := hl
  obtain ⟨A3, c3, rfl, h3⟩ := hp
  clear h0
  by_cases hP : p.length = l.trains.length
  · have HP := Lib.hid hP
    have hP' : ((p.length : Int) != l.trains.length) = false := by rw [hP]; simp
    clear hP
    go_enter Try.func105, Try.ntmps105
    go_wp2_with fail
    clear hP'
    go_loopw [19] (fun j wr => ∃ (jj : Nat), jj ≤ p.length ∧ j = .int .i64 jj ∧ Hid (findI (fun i r => if rowOk l i r then none else some ()) jj (p.drop jj) = findI (fun i r => if rowOk l i r then none else some ()) 0 p) ∧ Lp w wr [(w.heap.size + 1, #[.slice A3 p.length c3], 42), (w.heap.size, #[.slice A0 l.tracks.length c0, .int .i64 l.gap, .slice A2 l.trains.length c2], 33)]) (fun j _ => p.length - (intOf j).toNat)
    case atStart => exact ⟨0, Nat.zero_le _, rfl, by simp [Hid], (by repeat (first | (with_reducible exact hS) | (with_reducible exact Lp.start2 _ _ _ _ _) | apply Lp.alloc | apply Lp.drewN | apply Lp.drew))⟩
    case round =>
      obtain ⟨jj, hjj, rfl, HS, hS⟩ := hrel
      obtain ⟨k1, k2, k3, k4, k5, k6⟩ := hS.open2
      by_cases hlt : jj < p.length
      · obtain ⟨r, hr⟩ := hid_of_lt hlt
        have hlt' : jj < l.trains.length := by rw [← HP.out]; exact hlt
        obtain ⟨t, ht⟩ := hid_of_lt hlt'
        obtain ⟨b, o, rfl, hb⟩ := h3.base hlt
        obtain ⟨A6, c6, f0, hR6⟩ := h3.at_ hr.out
        obtain ⟨b', o', rfl, hb'⟩ := h2.base hlt'
        obtain ⟨e0, e1, e2, e3, A4, c4, e4, hR⟩ := h2.at_ ht.out
        have HN := Lib.hid (findI_at (fun i r => if rowOk l i r then none else some ()) hr.out)
        have hrl := hpl _ _ hr.out
        by_cases hq : r.length = t.legs.length
        · have HQ := Lib.hid hq
          have hq' : ((r.length : Int) != t.legs.length) = false := by rw [hq]; simp
          clear hq
          go_wp2_with fail
          clear k1 k2 k3 k4 k5 k6 hq' f0 e0 e1 e2 e3 e4
          go_loopw [36] (fun j wi => ∃ (m : Nat), m ≤ r.length ∧ j = .int .i64 m ∧ Hid (findI (fun _ x => if inB x 0 1000000 then none else some ()) m (r.drop m) = findI (fun _ x => if inB x 0 1000000 then none else some ()) 0 r) ∧ Lp w wi [(w.heap.size + 1, #[.slice (some ⟨b, o, none⟩) p.length c3], 42), (w.heap.size, #[.slice A0 l.tracks.length c0, .int .i64 l.gap, .slice (some ⟨b', o', none⟩) l.trains.length c2], 33)]) (fun j _ => r.length - (intOf j).toNat)
          case atStart => exact ⟨0, Nat.zero_le _, rfl, by simp [Hid], (by repeat (first | (with_reducible exact hS) | apply Lp.alloc | apply Lp.drewN | apply Lp.drew))⟩
          case round =>
            clear hS
            obtain ⟨m, hm, rfl, HS2, hS⟩ := hrel
            obtain ⟨k1, k2, k3, k4, k5, k6⟩ := hS.open2
            by_cases hlm : m < r.length
            · obtain ⟨x, hx⟩ := hid_of_lt hlm
              obtain ⟨b6, o6, rfl, hb6⟩ := hR6.base hlm
              have g0 := hR6.at_ hx.out
              have HN2 := Lib.hid (findI_at (fun _ x => if inB x 0 1000000 then none else some ()) hx.out)
              cases r1 : inB x 0 1000000 with
              | false =>
                go_wp2_with (go_at_call 75; refine (l1in_any _ _ _ _).mono ?_; rintro e w' ⟨rfl, rfl⟩)
                go_ret
                have hro : rowOk l jj r = false := by rw [rowOk, ← HS2.out, HN2.out, r1]; simp
                have hf : shapeOk l p = false := by rw [shapeOk, ← HS.out, HN.out, hro]; simp
                exact ⟨ret_bool (by rw [hf]), (by repeat (first | (with_reducible exact hS.ext) | (with_reducible assumption) | (with_reducible exact Ext.refl _) | with_reducible apply Ext.alloc | with_reducible apply Ext.drewN | with_reducible apply Ext.drew | with_reducible refine Ext.setCell ?_ (by simp only []; omega) _))⟩
              | true =>
                go_wp2_with (go_at_call 75; refine (l1in_any _ _ _ _).mono ?_; rintro e w' ⟨rfl, rfl⟩)
                exact ⟨⟨m + 1, by omega, by go_num, by rw [← HS2.out, HN2.out, r1]; simp [Hid], (by repeat (first | (with_reducible exact hS) | apply Lp.alloc | apply Lp.drewN | apply Lp.drew))⟩, (by simp [intOf]; omega)⟩
            · have he := findI_end (fun (_ : Nat) (x : Int) => if inB x 0 1000000 then none else some ()) (l := r) (i := m) (by omega)
              have hro : Hid (rowOk l jj r = true) := by rw [Hid, rowOk, getD_some ht.out, HQ.out, ← HS2.out, he]; simp
              clear he
              go_wp2_with fail
              exact ⟨⟨jj + 1, by omega, by go_num, by rw [← HS.out, HN.out, hro.out]; simp [Hid], (by repeat (first | (with_reducible exact hS) | apply Lp.alloc | apply Lp.drewN | apply Lp.drew))⟩, (by simp [intOf]; omega)⟩
        · have hro : Hid (rowOk l jj r = false) := by rw [Hid, rowOk, getD_some ht.out]; simp [hq]
          have hq' : ((r.length : Int) != t.legs.length) = true := by simp; omega
          clear hq
          go_wp2_with fail
          go_ret
          have hf : shapeOk l p = false := by rw [shapeOk, ← HS.out, HN.out, hro.out]; simp
          exact ⟨ret_bool (by rw [hf]), (by repeat (first | (with_reducible exact hS.ext) | (with_reducible assumption) | (with_reducible exact Ext.refl _) | with_reducible apply Ext.alloc | with_reducible apply Ext.drewN | with_reducible apply Ext.drew | with_reducible refine Ext.setCell ?_ (by simp only []; omega) _))⟩
      · have he := findI_end (fun i r => if rowOk l i r then none else some ()) (l := p) (i := jj) (by omega)
        have hf : Hid (shapeOk l p = true) := by rw [Hid, shapeOk, HP.out, ← HS.out, he]; simp
        clear he
        go_wp2_with fail
        go_ret
        exact ⟨ret_bool (by rw [hf.out]), (by repeat (first | (with_reducible exact hS.ext) | (with_reducible assumption) | (with_reducible exact Ext.refl _) | with_reducible apply Ext.alloc | with_reducible apply Ext.drewN | with_reducible apply Ext.drew | with_reducible refine Ext.setCell ?_ (by simp only []; omega) _))⟩
  · have hf : Hid (shapeOk l p = false) := by simp [Hid, shapeOk, hP]
    have hP' : ((p.length : Int) != l.trains.length) = true := by simp; omega
    clear hP
    go_enter Try.func105, Try.ntmps105
    go_wp2_with fail
    go_ret
    exact ⟨ret_bool hf.out.symm, (by repeat (first | (with_reducible assumption) | (with_reducible exact Ext.refl _) | apply Ext.alloc | apply Ext.drewN | apply Ext.drew))⟩
set_option maxRecDepth 100000 in
set_option maxHeartbeats 1000000 in
theorem shaped_any {w : World} {l : Line} {p : List (List Int)} {u v : Value} (hl : IsLine w l u) (hp : IsPlan w p v) (hs : l.size ≤ 1048576) (hpn : p.length ≤ 1048576) (hpl : ∀ (i : Nat) (t : List Int), p[i]? = some t → t.length ≤ 1048576) :
    Calls Try.prog 92 #[u, v] w fun e w' => e = .returned (.bool (right l && shapeOk l p)) ∧ Ext w w' := by
  have HL := Lib.hid (fun (W : World) (e : Ext w W) => hl.ext e)
  obtain ⟨A0, c0, A2, c2, rfl, h0, h2⟩ := hl
  obtain ⟨A3, c3, rfl, h3⟩ := hp
  clear h0
  have hln : l.trains.length ≤ 1048576 := by unfold Line.size at hs; omega
  have hs0 := Lib.hid hs; clear hs
  cases h : right l with
  | false =>
    go_enter Try.func92, Try.ntmps92
    go_wp2_with fail
    refine (right_any (HL.out _ (by repeat (first | (with_reducible assumption) | (with_reducible exact Ext.refl _) | apply Ext.alloc | apply Ext.drewN | apply Ext.drew))) hs0.out).mono ?_
    rintro e w1 ⟨rfl, hE⟩
    rw [h]
    go_wp2_with fail
    go_ret
    exact ⟨rfl, Ext.trans (by repeat (first | (with_reducible assumption) | (with_reducible exact Ext.refl _) | apply Ext.alloc | apply Ext.drewN | apply Ext.drew)) hE⟩
  | true =>
    by_cases hP : p.length = l.trains.length
    · have HP := Lib.hid hP
      have hP' : ((p.length : Int) != l.trains.length) = false := by rw [hP]; simp
      clear hP
      go_enter Try.func92, Try.ntmps92
      go_wp2_with fail
      refine (right_any (HL.out _ (by repeat (first | (with_reducible assumption) | (with_reducible exact Ext.refl _) | apply Ext.alloc | apply Ext.drewN | apply Ext.drew))) hs0.out).mono ?_
      rintro e w1 ⟨rfl, hE⟩
      rw [h]
      have hS := (Lp.start2 w _ _ _ _).trans hE
      obtain ⟨k1, k2, k3, k4, k5, k6⟩ := hS.open2
      go_wp2_with fail
      clear hP' k1 k2 k3 k4 k5 k6
      go_loopw [24] (fun j wr => ∃ (jj : Nat), jj ≤ p.length ∧ j = .int .i64 jj ∧ Hid (findI (fun i r => if rowOk l i r then none else some ()) jj (p.drop jj) = findI (fun i r => if rowOk l i r then none else some ()) 0 p) ∧ Lp w wr [(w.heap.size + 1, #[.slice A3 p.length c3], 42), (w.heap.size, #[.slice A0 l.tracks.length c0, .int .i64 l.gap, .slice A2 l.trains.length c2], 33)]) (fun j _ => p.length - (intOf j).toNat)
      case atStart => exact ⟨0, Nat.zero_le _, rfl, by simp [Hid], (by repeat (first | (with_reducible exact hS) | apply Lp.alloc | apply Lp.drewN | apply Lp.drew))⟩
      case round =>
        clear hS
        obtain ⟨jj, hjj, rfl, HS, hS⟩ := hrel
        obtain ⟨k1, k2, k3, k4, k5, k6⟩ := hS.open2
        by_cases hlt : jj < p.length
        · obtain ⟨r, hr⟩ := hid_of_lt hlt
          have hlt' : jj < l.trains.length := by rw [← HP.out]; exact hlt
          obtain ⟨t, ht⟩ := hid_of_lt hlt'
          obtain ⟨b, o, rfl, hb⟩ := h3.base hlt
          obtain ⟨A6, c6, f0, hR6⟩ := h3.at_ hr.out
          obtain ⟨b', o', rfl, hb'⟩ := h2.base hlt'
          obtain ⟨e0, e1, e2, e3, A4, c4, e4, hR⟩ := h2.at_ ht.out
          have HN := Lib.hid (findI_at (fun i r => if rowOk l i r then none else some ()) hr.out)
          have hrl := hpl _ _ hr.out
          by_cases hq : r.length = t.legs.length
          · have HQ := Lib.hid hq
            have hq' : ((r.length : Int) != t.legs.length) = false := by rw [hq]; simp
            clear hq
            go_wp2_with fail
            clear k1 k2 k3 k4 k5 k6 hq' f0 e0 e1 e2 e3 e4
            go_loopw [41] (fun j wi => ∃ (m : Nat), m ≤ r.length ∧ j = .int .i64 m ∧ Hid (findI (fun _ x => if inB x 0 1000000 then none else some ()) m (r.drop m) = findI (fun _ x => if inB x 0 1000000 then none else some ()) 0 r) ∧ Lp w wi [(w.heap.size + 1, #[.slice (some ⟨b, o, none⟩) p.length c3], 42), (w.heap.size, #[.slice A0 l.tracks.length c0, .int .i64 l.gap, .slice (some ⟨b', o', none⟩) l.trains.length c2], 33)]) (fun j _ => r.length - (intOf j).toNat)
            case atStart => exact ⟨0, Nat.zero_le _, rfl, by simp [Hid], (by repeat (first | (with_reducible exact hS) | apply Lp.alloc | apply Lp.drewN | apply Lp.drew))⟩
            case round =>
              clear hS
              obtain ⟨m, hm, rfl, HS2, hS⟩ := hrel
              obtain ⟨k1, k2, k3, k4, k5, k6⟩ := hS.open2
              by_cases hlm : m < r.length
              · obtain ⟨x, hx⟩ := hid_of_lt hlm
                obtain ⟨b6, o6, rfl, hb6⟩ := hR6.base hlm
                have g0 := hR6.at_ hx.out
                have HN2 := Lib.hid (findI_at (fun _ x => if inB x 0 1000000 then none else some ()) hx.out)
                cases r1 : inB x 0 1000000 with
                | false =>
                  go_wp2_with (go_at_call 79; refine (in_any _ _ _ _).mono ?_; rintro e w' ⟨rfl, rfl⟩)
                  go_ret
                  have hro : rowOk l jj r = false := by rw [rowOk, ← HS2.out, HN2.out, r1]; simp
                  have hf : shapeOk l p = false := by rw [shapeOk, ← HS.out, HN.out, hro]; simp
                  exact ⟨ret_bool (by rw [hf]; simp), (by repeat (first | (with_reducible exact hS.ext) | (with_reducible assumption) | (with_reducible exact Ext.refl _) | with_reducible apply Ext.alloc | with_reducible apply Ext.drewN | with_reducible apply Ext.drew | with_reducible refine Ext.setCell ?_ (by simp only []; omega) _))⟩
                | true =>
                  go_wp2_with (go_at_call 79; refine (in_any _ _ _ _).mono ?_; rintro e w' ⟨rfl, rfl⟩)
                  exact ⟨⟨m + 1, by omega, by go_num, by rw [← HS2.out, HN2.out, r1]; simp [Hid], (by repeat (first | (with_reducible exact hS) | apply Lp.alloc | apply Lp.drewN | apply Lp.drew))⟩, (by simp [intOf]; omega)⟩
              · have he := findI_end (fun (_ : Nat) (x : Int) => if inB x 0 1000000 then none else some ()) (l := r) (i := m) (by omega)
                have hro : Hid (rowOk l jj r = true) := by rw [Hid, rowOk, getD_some ht.out, HQ.out, ← HS2.out, he]; simp
                clear he
                go_wp2_with fail
                exact ⟨⟨jj + 1, by omega, by go_num, by rw [← HS.out, HN.out, hro.out]; simp [Hid], (by repeat (first | (with_reducible exact hS) | apply Lp.alloc | apply Lp.drewN | apply Lp.drew))⟩, (by simp [intOf]; omega)⟩
          · have hro : Hid (rowOk l jj r = false) := by rw [Hid, rowOk, getD_some ht.out]; simp [hq]
            have hq' : ((r.length : Int) != t.legs.length) = true := by simp; omega
            clear hq
            go_wp2_with fail
            go_ret
            have hf : shapeOk l p = false := by rw [shapeOk, ← HS.out, HN.out, hro.out]; simp
            exact ⟨ret_bool (by rw [hf]; simp), (by repeat (first | (with_reducible exact hS.ext) | (with_reducible assumption) | (with_reducible exact Ext.refl _) | with_reducible apply Ext.alloc | with_reducible apply Ext.drewN | with_reducible apply Ext.drew | with_reducible refine Ext.setCell ?_ (by simp only []; omega) _))⟩
        · have he := findI_end (fun i r => if rowOk l i r then none else some ()) (l := p) (i := jj) (by omega)
          have hf : Hid (shapeOk l p = true) := by rw [Hid, shapeOk, HP.out, ← HS.out, he]; simp
          clear he
          go_wp2_with fail
          go_ret
          exact ⟨ret_bool (by rw [hf.out]; simp), (by repeat (first | (with_reducible exact hS.ext) | (with_reducible assumption) | (with_reducible exact Ext.refl _) | with_reducible apply Ext.alloc | with_reducible apply Ext.drewN | with_reducible apply Ext.drew | with_reducible refine Ext.setCell ?_ (by simp only []; omega) _))⟩
    · have hf : Hid (shapeOk l p = false) := by simp [Hid, shapeOk, hP]
      have hP' : ((p.length : Int) != l.trains.length) = true := by simp; omega
      clear hP
      go_enter Try.func92, Try.ntmps92
      go_wp2_with fail
      refine (right_any (HL.out _ (by repeat (first | (with_reducible assumption) | (with_reducible exact Ext.refl _) | apply Ext.alloc | apply Ext.drewN | apply Ext.drew))) hs0.out).mono ?_
      rintro e w1 ⟨rfl, hE⟩
      rw [h]
      have hS := (Lp.start2 w _ _ _ _).trans hE
      obtain ⟨k1, k2, k3, k4, k5, k6⟩ := hS.open2
      go_wp2_with fail
      go_ret
      exact ⟨ret_bool (by rw [hf.out]; simp), hS.ext⟩
end Go.Proofs.Ythhkbfjolmgloaa
