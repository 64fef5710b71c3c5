/- laws.mark* over rows of one's own: what they write. Condition: the rows hold at most 5000 values each (numbers: 2^20). -/
import Derived.Test.YthhkbfjolmgloaaDoorGrow
import Derived.StillTailTactics
namespace Go.Proofs.YthhkbfjolmgloaaDoor
open Go.RowKit Go.Deep
set_option linter.unusedVariables false
set_option linter.unusedSimpArgs false
def SeqI (k : Int) (n : Nat) (xs : List Int) : Prop := xs.length = n ∧ ∀ i, i < n → xs[i]? = some (k + i)
def SeqG (k : Int) (n : Nat) (xs : List Leg) : Prop := xs.length = n ∧ ∀ i, i < n → xs[i]? = some (⟨k + 3 * i, k + 3 * i + 1, k + 3 * i + 1 + 1⟩ : Leg)
theorem own_cases {w : World} {B : Nat} {e : TypeId} {size : Nat} {v : Value} {n : Nat} {xs : List Value} (h : w.ownsRow B e size v n xs) : (v = .slice none 0 0 ∧ n = 0) ∨ ∃ g c, v = .slice (some ⟨g, 0, none⟩) n c := by
  rcases h.2 with h2 | ⟨g, cap, cur, k1, _⟩
  · exact Or.inl h2
  · exact Or.inr ⟨g, cap, k1⟩
theorem nums_set (xs : List Int) (j : Nat) (x : Int) : nums (xs.set j x) = (nums xs).set j (.int .i64 x) := by simp [nums, List.map_set]
theorem legCells_set3 : ∀ (xs : List Leg) (k : Nat) (a b c : Int), k < xs.length → (((legCells xs).set (k * 3) (.int .i64 a)).set (k * 3 + 1) (.int .i64 b)).set (k * 3 + 2) (.int .i64 c) = legCells (xs.set k ⟨a, b, c⟩)
  | [], k, a, b, c, h => by simp at h
  | y :: ys, 0, a, b, c, h => rfl
  | y :: ys, k + 1, a, b, c, h => by
    have ih := legCells_set3 ys k a b c (by simpa using h)
    have e : ∀ zs : List Leg, legCells (y :: zs) = .int .i64 y.to :: .int .i64 y.run :: .int .i64 y.stay :: legCells zs := fun _ => rfl
    have i0 : (k + 1) * 3 = (k * 3) + 1 + 1 + 1 := by omega
    have i1 : (k + 1) * 3 + 1 = (k * 3 + 1) + 1 + 1 + 1 := by omega
    have i2 : (k + 1) * 3 + 2 = (k * 3 + 2) + 1 + 1 + 1 := by omega
    rw [List.set_cons_succ, e, e, i1, i2, i0]
    simp only [List.set_cons_succ]
    rw [ih]
theorem trRows_set4 {ts : List Train} {vl : Nat → Value} {i : Nat} (hi : i < ts.length) (a b c d : Int) :
    (((((trRows ts vl).flatten.set (i * 5) (.int .i64 a)).set (i * 5 + 1) (.int .i64 b)).set (i * 5 + 2) (.int .i64 c)).set (i * 5 + 3) (.int .i64 d)) = (trRows (ts.set i ⟨a, b, c, d, (ts.getD i default).legs⟩) vl).flatten := by
  have hrow : (trRows ts vl)[i]? = some (trainRow (ts.getD i default) (vl i)) := by
    unfold trRows
    rw [List.getElem?_map, List.getElem?_range hi]; rfl
  have h5 : ∀ q, q ∈ trRows ts vl → q.length = 5 := fun r hr => by
    obtain ⟨y, _, rfl⟩ := List.mem_map.1 hr
    rfl
  have hlen : i < (trRows ts vl).length := lt_of_some hrow
  have hs5 : ∀ {r : List Value}, r.length = 5 → ∀ q, q ∈ (trRows ts vl).set i r → q.length = 5 := fun {r} hr q hq => by
    rcases List.mem_or_eq_of_mem_set hq with h | h
    · exact h5 q h
    · rw [h, hr]
  have hg : ∀ {r : List Value}, ((trRows ts vl).set i r)[i]? = some r := fun {r} => by rw [List.getElem?_set_self hlen]
  have e0 := flatten_set (s := 5) (j := 0) (u := .int .i64 a) (by omega) _ i _ hrow h5
  rw [Nat.add_zero] at e0
  rw [e0, flatten_set (s := 5) (j := 1) (u := .int .i64 b) (by omega) _ i _ hg (hs5 rfl), List.set_set, flatten_set (s := 5) (j := 2) (u := .int .i64 c) (by omega) _ i _ hg (hs5 rfl), List.set_set, flatten_set (s := 5) (j := 3) (u := .int .i64 d) (by omega) _ i _ hg (hs5 rfl), List.set_set]
  congr 1
  refine List.ext_getElem? fun k => ?_
  rw [List.getElem?_set]
  unfold trRows
  simp only [List.length_map, List.length_range, List.getElem?_map, List.length_set]
  by_cases e : i = k
  · subst e
    rw [if_pos rfl, if_pos hi, List.getElem?_range hi]
    simp [trainRow, List.getD_eq_getElem?_getD, hi]
  · rw [if_neg e]
    by_cases hk : k < ts.length
    · rw [List.getElem?_range hk]
      simp [List.getD_eq_getElem?_getD, List.getElem?_set, e]
    · rw [List.getElem?_eq_none (by simp; omega)]; rfl
theorem getD_set {ts : List Train} {i : Nat} (hi : i < ts.length) (t : Train) (m : Nat) : (ts.set i t).getD m default = if m = i then t else ts.getD m default := by
  by_cases e : m = i
  · subst e; rw [if_pos rfl]; simp [List.getD_eq_getElem?_getD, hi]
  · rw [if_neg e]; simp [List.getD_eq_getElem?_getD, List.getElem?_set, Ne.symm e]
theorem TrI.set4 {w : World} {B : Nat} {ts : List Train} {vl : Nat → Value} {g n cap i : Nat} (h : TrI w B ts (.slice (some ⟨g, 0, none⟩) n cap) vl) (hn : n = ts.length) (hi : i < ts.length) (a b c d : Int) :
    TrI ((((w.setCell ⟨g, i * 5, none⟩ (.int .i64 a)).setCell ⟨g, i * 5 + 1, none⟩ (.int .i64 b)).setCell ⟨g, i * 5 + 2, none⟩ (.int .i64 c)).setCell ⟨g, i * 5 + 3, none⟩ (.int .i64 d)) B (ts.set i ⟨a, b, c, d, (ts.getD i default).legs⟩) (.slice (some ⟨g, 0, none⟩) n cap) vl := by
  subst hn
  refine ⟨?_, fun m hm => ?_, fun m k hm hk => h.far m k (by simpa using hm) hk⟩
  · have := ownsRow_poke (ownsRow_poke (ownsRow_poke (ownsRow_poke h.own (i * 5) (.int .i64 a)) (i * 5 + 1) (.int .i64 b)) (i * 5 + 2) (.int .i64 c)) (i * 5 + 3) (.int .i64 d)
    rw [trRows_set4 hi] at this
    rw [List.length_set]
    exact this
  · rw [List.length_set] at hm
    have hf : (vl m).ownBlock ≠ some g := fun e => h.far m g hm e rfl
    have hr := ownsRow_set_far (ownsRow_set_far (ownsRow_set_far (ownsRow_set_far (h.legs m hm) hf (i * 5) (.int .i64 a)) hf (i * 5 + 1) (.int .i64 b)) hf (i * 5 + 2) (.int .i64 c)) hf (i * 5 + 3) (.int .i64 d)
    rw [getD_set hi]
    by_cases e : m = i
    · subst e; rw [if_pos rfl]; exact hr
    · rw [if_neg e]; exact hr
theorem TrI.legs_set {w w' : World} {B : Nat} {ts : List Train} {v : Value} {vl : Nat → Value} (h : TrI w B ts v vl) (A : ApL ts.length vl) {i : Nat} (hi : i < ts.length) (hc : Chg (fun g => (vl i).ownBlock = some g) w w') {xs : List Leg} {n : Nat} (hn : xs.length = n) (hx : (ts.getD i default).legs.length = n) (hr : w'.ownsRow B 50 3 (vl i) n (legCells xs)) : TrI w' B (ts.set i { ts.getD i default with legs := xs }) v vl := by
  have hrows : trRows (ts.set i { ts.getD i default with legs := xs }) vl = trRows ts vl := by
    unfold trRows
    rw [List.length_set]
    refine List.map_congr_left fun m _ => ?_
    rw [getD_set hi]
    by_cases e : m = i
    · subst e; rw [if_pos rfl]; rfl
    · rw [if_neg e]
  refine ⟨?_, fun m hm => ?_, fun m k hm hk => h.far m k (by simpa using hm) hk⟩
  · rw [List.length_set, hrows]
    exact ownsRow_keep h.own hc (fun g hg hs => h.far i g hi hs hg)
  · rw [List.length_set] at hm
    rw [getD_set hi]
    by_cases e : m = i
    · subst e
      rw [if_pos rfl]
      simp only [hn]
      exact hr
    · rw [if_neg e]
      exact ownsRow_keep (h.legs m hm) hc (fun g hg hs => A i m g hi hm (Ne.symm e) hs hg)
def offT (ts : List Train) : Nat → Nat
  | 0 => 0
  | i + 1 => offT ts i + 4 + 3 * (ts.getD i default).legs.length
theorem offT_le {ts : List Train} (h : ∀ i, (ts.getD i default).legs.length ≤ 5000) : ∀ i, offT ts i ≤ 15004 * i
  | 0 => Nat.le_refl _
  | i + 1 => by have := offT_le h i; have := h i; simp only [offT]; omega
structure IsMk (k : Int) (n : Nat) (t : Train) : Prop where
  frm : t.frm = k
  ready : t.ready = k + 1
  due : t.due = k + 1 + 1
  weight : t.weight = k + 1 + 1 + 1
  legs : SeqG (k + 1 + 1 + 1 + 1) n t.legs
structure MkT (ts ts' : List Train) (k : Int) (jj : Nat) : Prop where
  len : ts'.length = ts.length
  legs : ∀ i, (ts'.getD i default).legs.length = (ts.getD i default).legs.length
  at_ : ∀ i, i < jj → IsMk (k + offT ts i) (ts.getD i default).legs.length (ts'.getD i default)
set_option maxRecDepth 100000 in
set_option maxHeartbeats 8000000 in
theorem markInts_own {w : World} {B : Nat} {v : Value} {xs : List Int} {n : Nat} (h : w.ownsRow B 3 1 v n (nums xs)) (hn : n ≤ 1048576) (k : Int) (hk0 : 0 ≤ k) (hk1 : k ≤ 1048576) :
    Calls Tryd.prog 31 #[v, .int .i64 k] w fun e w' => e = .returned (.int .i64 (k + n)) ∧ Chg (fun g => v.ownBlock = some g) w w' ∧ ∃ xs', SeqI k n xs' ∧ w'.ownsRow B 3 1 v n (nums xs') := by
  have HN : Hid (xs.length = n) := by unfold Hid; have := h.1; simpa [nums_length] using this
  have HO := Lib.hid h
  rcases own_cases h with ⟨rfl, rfl⟩ | ⟨g, c, rfl⟩ <;> clear h
  · go_enter Tryd.func31, Tryd.ntmps31
    go_wp2_with fail
    go_loopw [1, 5] (fun a j wr => j = .int .i64 0 ∧ a = .int .i64 k ∧ wr = w) (fun _ _ _ => 0)
    case atStart => exact ⟨rfl, rfl, rfl⟩
    case round =>
      obtain ⟨rfl, rfl, rfl⟩ := hrel
      go_wp2_with fail
      go_ret
      exact ⟨by simp, Chg.of_ext (Ext.refl _), xs, ⟨HN.out, fun i hi => by omega⟩, HO.out⟩
  · go_enter Tryd.func31, Tryd.ntmps31
    go_wp2_with fail
    go_loopw [1, 5] (fun a j wr => ∃ (jj : Nat) (ys : List Int), jj ≤ n ∧ j = .int .i64 jj ∧ a = .int .i64 (k + jj) ∧ Hid (Chg (fun q => (Value.slice (some ⟨g, 0, none⟩) n c).ownBlock = some q) w wr) ∧ Hid (ys.length = n ∧ ∀ i, i < jj → ys[i]? = some (k + i)) ∧ Hid (wr.ownsRow B 3 1 (.slice (some ⟨g, 0, none⟩) n c) n (nums ys))) (fun _ j _ => n - (intOf j).toNat)
    case atStart => exact ⟨0, xs, Nat.zero_le _, rfl, by simp, Chg.of_ext (Ext.refl _), ⟨HN.out, fun i hi => by omega⟩, HO.out⟩
    case round =>
      clear HO HN
      obtain ⟨jj, ys, hjj, rfl, rfl, HC, HY, HO⟩ := hrel
      by_cases hlt : jj < n
      · obtain ⟨y, hy⟩ := hid_of_lt (show jj < ys.length by rw [HY.out.1]; exact hlt)
        have hx := ownsRow_cell HO.out (j := jj) (u := .int .i64 y) (by simp [nums, hy.out])
        have fr := ownsRow_fr HO.out
        have hlt2 := (HO.out.lt g rfl).2
        have HO2 := Lib.hid (ownsRow_poke HO.out jj (.int .i64 (k + jj)))
        have HC2 := Lib.hid (HC.out.setCell (Or.inl (ownBlock_slice g n c)) jj (.int .i64 (k + jj)))
        go_wp2_with fail
        refine ⟨⟨jj + 1, ys.set jj (k + jj), by omega, by go_num, by simp only [Value.int.injEq, true_and]; omega, HC2.out, ⟨by rw [List.length_set]; exact HY.out.1, fun i hi => ?_⟩, by unfold Hid; rw [nums_set]; exact HO2.out⟩, (by simp [intOf]; omega)⟩
        by_cases e : i = jj
        · subst e; rw [List.getElem?_set_self (by rw [HY.out.1]; exact hlt)]
        · rw [List.getElem?_set_ne (by omega)]; exact HY.out.2 i (by omega)
      · obtain rfl : jj = n := by omega
        go_wp2_with fail
        go_ret
        exact ⟨rfl, HC.out, ys, HY.out, HO.out⟩
set_option maxRecDepth 100000 in
set_option maxHeartbeats 8000000 in
theorem markLegs_own {w : World} {B : Nat} {v : Value} {xs : List Leg} {n : Nat} (h : w.ownsRow B 50 3 v n (legCells xs)) (hxn : xs.length = n) (hn : n ≤ 1048576) (k : Int) (hk0 : 0 ≤ k) (hk1 : k ≤ 1152921504606846976) :
    Calls Tryd.prog 42 #[v, .int .i64 k] w fun e w' => e = .returned (.int .i64 (k + 3 * n)) ∧ Chg (fun g => v.ownBlock = some g) w w' ∧ ∃ xs', SeqG k n xs' ∧ w'.ownsRow B 50 3 v n (legCells xs') := by
  have HN := Lib.hid hxn
  have HO := Lib.hid h
  clear hxn
  rcases own_cases h with ⟨rfl, rfl⟩ | ⟨g, c, rfl⟩ <;> clear h
  · go_enter Tryd.func42, Tryd.ntmps42
    go_wp2_with fail
    go_loopw [1, 5] (fun a j wr => j = .int .i64 0 ∧ a = .int .i64 k ∧ wr = w) (fun _ _ _ => 0)
    case atStart => exact ⟨rfl, rfl, rfl⟩
    case round =>
      obtain ⟨rfl, rfl, rfl⟩ := hrel
      go_wp2_with fail
      go_ret
      exact ⟨by simp, Chg.of_ext (Ext.refl _), xs, ⟨HN.out, fun i hi => by omega⟩, HO.out⟩
  · go_enter Tryd.func42, Tryd.ntmps42
    go_wp2_with fail
    go_loopw [1, 5] (fun a j wr => ∃ (jj : Nat) (ys : List Leg), jj ≤ n ∧ j = .int .i64 jj ∧ a = .int .i64 (k + 3 * jj) ∧ Hid (Chg (fun q => (Value.slice (some ⟨g, 0, none⟩) n c).ownBlock = some q) w wr) ∧ Hid (ys.length = n ∧ ∀ i, i < jj → ys[i]? = some (⟨k + 3 * i, k + 3 * i + 1, k + 3 * i + 1 + 1⟩ : Leg)) ∧ Hid (wr.ownsRow B 50 3 (.slice (some ⟨g, 0, none⟩) n c) n (legCells ys))) (fun _ j _ => n - (intOf j).toNat)
    case atStart => exact ⟨0, xs, Nat.zero_le _, rfl, by simp, Chg.of_ext (Ext.refl _), ⟨HN.out, fun i hi => by omega⟩, HO.out⟩
    case round =>
      clear HO HN
      obtain ⟨jj, ys, hjj, rfl, rfl, HC, HY, HO⟩ := hrel
      by_cases hlt : jj < n
      · have hly : jj < ys.length := by rw [HY.out.1]; exact hlt
        obtain ⟨y, hy⟩ := hid_of_lt hly
        obtain ⟨a0, a1, a2⟩ := legCells_at hy.out
        have hx0 := ownsRow_cell HO.out (j := jj * 3) a0
        have hx1 := ownsRow_cell HO.out (j := jj * 3 + 1) a1
        have hx2 := ownsRow_cell HO.out (j := jj * 3 + 2) a2
        have fr := ownsRow_fr HO.out
        have hlt2 := (HO.out.lt g rfl).2
        have HO2 : Hid ((((wr.setCell ⟨g, jj * 3, none⟩ (.int .i64 (k + 3 * jj))).setCell ⟨g, jj * 3 + 1, none⟩ (.int .i64 (k + 3 * jj + 1))).setCell ⟨g, jj * 3 + 2, none⟩ (.int .i64 (k + 3 * jj + 1 + 1))).ownsRow B 50 3 (.slice (some ⟨g, 0, none⟩) n c) n (legCells (ys.set jj ⟨k + 3 * jj, k + 3 * jj + 1, k + 3 * jj + 1 + 1⟩))) := by
          unfold Hid
          rw [← legCells_set3 ys jj _ _ _ hly]
          exact ownsRow_poke (ownsRow_poke (ownsRow_poke HO.out (jj * 3) (.int .i64 (k + 3 * jj))) (jj * 3 + 1) (.int .i64 (k + 3 * jj + 1))) (jj * 3 + 2) (.int .i64 (k + 3 * jj + 1 + 1))
        have HC2 := Lib.hid (((HC.out.setCell (Or.inl (ownBlock_slice g n c)) (jj * 3) (.int .i64 (k + 3 * jj))).setCell (Or.inl (ownBlock_slice g n c)) (jj * 3 + 1) (.int .i64 (k + 3 * jj + 1))).setCell (Or.inl (ownBlock_slice g n c)) (jj * 3 + 2) (.int .i64 (k + 3 * jj + 1 + 1)))
        clear a0 a1 a2
        have HLY := Lib.hid hly
        clear hly
        go_wp2_with fail
        refine ⟨⟨jj + 1, ys.set jj ⟨k + 3 * jj, k + 3 * jj + 1, k + 3 * jj + 1 + 1⟩, by omega, by go_num, by simp only [Value.int.injEq, true_and]; omega, HC2.out, ⟨by rw [List.length_set]; exact HY.out.1, fun i hi => ?_⟩, HO2.out⟩, (by simp [intOf]; omega)⟩
        by_cases e : i = jj
        · subst e; rw [List.getElem?_set_self HLY.out]
        · rw [List.getElem?_set_ne (by omega)]; exact HY.out.2 i (by omega)
      · obtain rfl : jj = n := by omega
        go_wp2_with fail
        go_ret
        exact ⟨rfl, HC.out, ys, HY.out, HO.out⟩
def TrB (n : Nat) (v : Value) (vl : Nat → Value) (g : Nat) : Prop := v.ownBlock = some g ∨ ∃ i, i < n ∧ (vl i).ownBlock = some g
set_option maxRecDepth 100000 in
set_option maxHeartbeats 8000000 in
theorem markTrains_own {w : World} {B : Nat} {v : Value} {vl : Nat → Value} {ts : List Train} (h : TrI w B ts v vl) (A : ApL ts.length vl) (hn : ts.length ≤ 5000) (hl : ∀ i, (ts.getD i default).legs.length ≤ 5000) (k : Int) (hk0 : 0 ≤ k) (hk1 : k ≤ 4194304) :
    Calls Tryd.prog 32 #[v, .int .i64 k] w fun e w' => e = .returned (.int .i64 (k + offT ts ts.length)) ∧ Chg (TrB ts.length v vl) w w' ∧ ∃ ts', MkT ts ts' k ts.length ∧ TrI w' B ts' v vl := by
  have HT := Lib.hid h
  have HA := Lib.hid A
  have HL := Lib.hid hl
  rcases own_cases h.own with ⟨rfl, hz⟩ | ⟨g, c, rfl⟩ <;> clear h A hl
  · have hts : ts = [] := List.eq_nil_of_length_eq_zero hz
    subst hts
    clear hz
    go_enter Tryd.func32, Tryd.ntmps32
    go_wp2_with fail
    go_loopw [1, 5] (fun a j wr => j = .int .i64 0 ∧ a = .int .i64 k ∧ wr = w) (fun _ _ _ => 0)
    case atStart => exact ⟨rfl, rfl, rfl⟩
    case round =>
      obtain ⟨rfl, rfl, rfl⟩ := hrel
      go_wp2_with fail
      go_ret
      exact ⟨by simp [offT], Chg.of_ext (Ext.refl _), [], ⟨rfl, fun _ => rfl, fun i hi => by simp at hi⟩, HT.out⟩
  · go_enter Tryd.func32, Tryd.ntmps32
    go_wp2_with fail
    go_loopw [1, 5] (fun a j wr => ∃ (jj : Nat) (q : Int) (us : List Train), jj ≤ ts.length ∧ j = .int .i64 jj ∧ a = .int .i64 q ∧ Hid (q = k + offT ts jj) ∧ Hid (Chg (TrB ts.length (.slice (some ⟨g, 0, none⟩) ts.length c) vl) w wr) ∧ Hid (MkT ts us k jj) ∧ Hid (TrI wr B us (.slice (some ⟨g, 0, none⟩) ts.length c) vl)) (fun _ j _ => ts.length - (intOf j).toNat)
    case atStart => exact ⟨0, k, ts, Nat.zero_le _, rfl, rfl, by unfold Hid; simp [offT], Chg.of_ext (Ext.refl _), ⟨rfl, fun _ => rfl, fun i hi => by omega⟩, HT.out⟩
    case round =>
      clear HT
      obtain ⟨jj, q, us, hjj, rfl, rfl, HQ, HC, HM, HT⟩ := hrel
      by_cases hlt : jj < ts.length
      · have hq0 : 0 ≤ q := by rw [HQ.out]; omega
        have hq1 : q ≤ 100000000 := by rw [HQ.out]; have := offT_le HL.out jj; omega
        have hju : jj < us.length := by rw [HM.out.len]; exact hlt
        have hus := some_getD hju
        obtain ⟨m, hm⟩ : ∃ m, Hid ((us.getD jj default).legs.length = m) := ⟨_, rfl⟩
        have hm2 : m ≤ 5000 := by rw [← hm.out, HM.out.legs]; exact HL.out jj
        have hr4 := HT.out.legs jj hju
        obtain ⟨A4, c4, hv4, _⟩ := rd_of_legs hr4 rfl
        rw [hm.out] at hv4
        have hown := HT.out.own
        rw [HM.out.len] at hown
        have hx0 : wr.cell? ⟨g, jj * 5, none⟩ = some (.int .i64 (us.getD jj default).frm) := ownsRow_cell hown (trRows_at (vl := vl) hus (i := 0) (by omega))
        have hx1 : wr.cell? ⟨g, jj * 5 + 1, none⟩ = some (.int .i64 (us.getD jj default).ready) := ownsRow_cell hown (trRows_at (vl := vl) hus (i := 1) (by omega))
        have hx2 : wr.cell? ⟨g, jj * 5 + 2, none⟩ = some (.int .i64 (us.getD jj default).due) := ownsRow_cell hown (trRows_at (vl := vl) hus (i := 2) (by omega))
        have hx3 : wr.cell? ⟨g, jj * 5 + 3, none⟩ = some (.int .i64 (us.getD jj default).weight) := ownsRow_cell hown (trRows_at (vl := vl) hus (i := 3) (by omega))
        have hx4 : wr.cell? ⟨g, jj * 5 + 4, none⟩ = some (vl jj) := ownsRow_cell hown (trRows_at (vl := vl) hus (i := 4) (by omega))
        rw [hv4] at hx4
        have fr := ownsRow_fr hown
        have hlt2 := (hown.lt g rfl).2
        have HT4 := Lib.hid (HT.out.set4 HM.out.len.symm hju q (q + 1) (q + 1 + 1) (q + 1 + 1 + 1))
        have hob : TrB ts.length (.slice (some ⟨g, 0, none⟩) ts.length c) vl g := Or.inl (ownBlock_slice _ _ _)
        have HC4 := Lib.hid ((((HC.out.setCell (Or.inl hob) (jj * 5) (.int .i64 q)).setCell (Or.inl hob) (jj * 5 + 1) (.int .i64 (q + 1))).setCell (Or.inl hob) (jj * 5 + 2) (.int .i64 (q + 1 + 1))).setCell (Or.inl hob) (jj * 5 + 3) (.int .i64 (q + 1 + 1 + 1)))
        have HV4 := Lib.hid hv4
        have HJU := Lib.hid hju
        clear hown hr4 hob hv4 hus hju HC HT
        go_wp2_with fail
        have hrL := HT4.out.legs jj (by rw [List.length_set]; exact HJU.out)
        rw [getD_set HJU.out, if_pos rfl] at hrL
        simp only [hm.out] at hrL
        rw [HV4.out] at hrL
        refine (markLegs_own hrL hm.out (by omega) _ (by omega) (by omega)).mono ?_
        rintro e w5 ⟨rfl, hC5, xs5, hS5, hr5⟩
        rw [← HV4.out] at hC5 hr5
        have HT6 := HT4.out.legs_set (by rw [List.length_set, HM.out.len]; exact HA.out) (by rw [List.length_set]; exact HJU.out) hC5 hS5.1 (by rw [getD_set HJU.out, if_pos rfl]; exact hm.out) hr5
        rw [getD_set HJU.out, if_pos rfl, List.set_set] at HT6
        have HC6 := Lib.hid (HC4.out.trans (hC5.mono (fun q _ hs => Or.inr ⟨jj, hlt, hs⟩)))
        have HT7 := Lib.hid HT6
        have HS5 := Lib.hid hS5
        clear HT6 hC5 hr5 hS5 hrL HT4 HC4 hx0 hx1 hx2 hx3 hx4 fr hlt2
        go_wp2_with fail
        have hml : (ts.getD jj default).legs.length = m := by rw [← HM.out.legs]; exact hm.out
        refine ⟨⟨jj + 1, q + 1 + 1 + 1 + 1 + 3 * m, _, by omega, by go_num, rfl, ?_, HC6.out, ⟨by rw [List.length_set]; exact HM.out.len, fun i => ?_, fun i hi => ?_⟩, HT7.out⟩, (by simp [intOf]; omega)⟩
        · unfold Hid
          rw [offT, hml, HQ.out]
          omega
        · rw [getD_set HJU.out]
          by_cases e : i = jj
          · subst e; rw [if_pos rfl, hml]; exact HS5.out.1
          · rw [if_neg e]; exact HM.out.legs i
        · rw [getD_set HJU.out]
          by_cases e : i = jj
          · subst e
            rw [if_pos rfl, hml, ← HQ.out]
            exact ⟨rfl, rfl, rfl, rfl, HS5.out⟩
          · rw [if_neg e]; exact HM.out.at_ i (by omega)
      · obtain rfl : jj = ts.length := by omega
        go_wp2_with fail
        go_ret
        exact ⟨ret_i64 HQ.out, HC.out, us, HM.out, HT.out⟩
theorem TrI.kept {S : Nat → Prop} {w w' : World} {B : Nat} {ts : List Train} {v : Value} {vl : Nat → Value} (h : TrI w B ts v vl) (C : Chg S w w') (h1 : ∀ g, v.ownBlock = some g → ¬ S g) (h2 : ∀ i g, i < ts.length → (vl i).ownBlock = some g → ¬ S g) : TrI w' B ts v vl :=
  ⟨ownsRow_keep h.own C h1, fun i hi => ownsRow_keep (h.legs i hi) C (fun g hg => h2 i g hi hg), h.far⟩
/-- What a line holds when numbers have been written over it. -/
structure MkL (l l' : Line) (k : Int) : Prop where
  gap : l'.gap = l.gap
  tracks : SeqI k l.tracks.length l'.tracks
  trains : MkT l.trains l'.trains (k + l.tracks.length) l.trains.length
def endM (l : Line) (k : Int) : Int := k + l.tracks.length + offT l.trains l.trains.length
def Few (l : Line) : Prop := l.tracks.length ≤ 5000 ∧ l.trains.length ≤ 5000 ∧ ∀ i, (l.trains.getD i default).legs.length ≤ 5000
theorem endM_bd {l : Line} (h : Few l) {k : Int} (hk0 : 0 ≤ k) (hk1 : k ≤ 100) : 0 ≤ endM l k ∧ endM l k ≤ 100000000 := by
  have := offT_le h.2.2 l.trains.length
  have := h.1; have := h.2.1
  unfold endM
  omega
/-- The blocks of a line's rows. -/
def OwnS (n : Nat) (v0 v2 : Value) (vl : Nat → Value) (g : Nat) : Prop := v0.ownBlock = some g ∨ TrB n v2 vl g
theorem OwnA.low {B : Nat} {w : World} {l : Line} {v0 v2 : Value} {vl : Nat → Value} (h : OwnA B w l v0 v2 vl) : ∀ g, OwnS l.trains.length v0 v2 vl g → B ≤ g := by
  rintro g (hs | hs | ⟨i, hi, hs⟩)
  · exact (h.1.lt g hs).1
  · exact (h.2.1.own.lt g hs).1
  · exact ((h.2.1.legs i hi).lt g hs).1
theorem OwnA.box_far {B : Nat} {w : World} {l : Line} {v0 v2 : Value} {vl : Nat → Value} (h : OwnA B w l v0 v2 vl) {g : Nat} {cs : Array Value} {t : TypeId} {fr : Nat × Nat} (hb : w.heap[g]? = some (.cells cs t fr)) (h3 : t ≠ 3) (h47 : t ≠ 47) (h50 : t ≠ 50) : ¬ OwnS l.trains.length v0 v2 vl g := by
  rintro (hs | hs | ⟨i, hi, hs⟩)
  · exact own_far h.1 hb h3 hs
  · exact own_far h.2.1.own hb h47 hs
  · exact own_far (h.2.1.legs i hi) hb h50 hs
set_option maxRecDepth 100000 in
set_option maxHeartbeats 8000000 in
theorem markLine_own {w : World} {B : Nat} {l : Line} {v0 v2 : Value} {vl : Nat → Value} (h : OwnA B w l v0 v2 vl) (hf : Few l) (k : Int) (hk0 : 0 ≤ k) (hk1 : k ≤ 100) :
    Calls Tryd.prog 17 #[.agg #[v0, .int .i64 l.gap, v2], .int .i64 k] w fun e w' => e = .returned (.int .i64 (endM l k)) ∧ Chg (OwnS l.trains.length v0 v2 vl) w w' ∧ ∃ l', MkL l l' k ∧ OwnA B w' l' v0 v2 vl := by
  obtain ⟨_, A0, c0, rfl, _⟩ := rd_of_ownsP h.1
  obtain ⟨A2, c2, rfl, _⟩ := h.2.1.rd
  have H := Lib.hid h
  have HF := Lib.hid hf
  have n0 := hf.1
  have n2 := hf.2.1
  clear h hf
  go_enter Tryd.func17, Tryd.ntmps17
  go_wp2_with fail
  have hE0 : Ext w (w.alloc (.cells #[.slice A0 l.tracks.length c0, .int .i64 l.gap, .slice A2 l.trains.length c2] 25)) := (Ext.refl w).alloc _
  have hA0 := Lib.hid (H.out.ext hE0)
  have hb0 := box_new w (.cells #[.slice A0 l.tracks.length c0, .int .i64 l.gap, .slice A2 l.trains.length c2] 25)
  refine (markInts_own hA0.out.1 (by omega) k hk0 (by omega)).mono ?_
  rintro e w1 ⟨rfl, C1, xs', hS, hr⟩
  have hb1 := C1.box hb0 (own_far hA0.out.1 hb0 (by decide))
  have g2 : w1.cell? ⟨w.heap.size, 2, none⟩ = some (.slice A2 l.trains.length c2) := box_cell hb1 2
  have gl := box_lt hb1
  have HT1 := Lib.hid (hA0.out.2.1.kept C1 (fun g hg => own_far2 hA0.out.1 hA0.out.2.1.own (by decide) g hg) (fun i g hi hg => own_far2 hA0.out.1 (hA0.out.2.1.legs i hi) (by decide) g hg))
  have HX1 : Hid (Chg (OwnS l.trains.length (.slice A0 l.tracks.length c0) (.slice A2 l.trains.length c2) vl) w w1) := (Chg.of_ext hE0).trans (C1.mono (fun g _ hg => Or.inl hg))
  have HR1 := Lib.hid hr
  have HS1 := Lib.hid hS
  clear C1 hr hS hb1 hb0 hE0
  go_wp2_with fail
  refine (markTrains_own HT1.out H.out.2.2 n2 HF.out.2.2 _ (by omega) (by omega)).mono ?_
  rintro e w2 ⟨rfl, C2, ts', hM, hT⟩
  have HR2 := ownsRow_keep HR1.out C2 (fun g hg hs => by
    rcases hs with hs | ⟨i, hi, hs⟩
    · exact own_far2 HR1.out HT1.out.own (by decide) g hs hg
    · exact own_far2 HR1.out (HT1.out.legs i hi) (by decide) g hs hg)
  have HX2 := Lib.hid (HX1.out.trans (C2.mono (fun g _ hg => Or.inr hg)))
  have HO := Lib.hid HR2
  have HM := Lib.hid hM
  have HT2 := Lib.hid hT
  clear C2 HR2 hM hT g2 gl
  go_wp2_with fail
  go_ret
  refine ⟨rfl, HX2.out, ⟨xs', l.gap, ts'⟩, ⟨rfl, HS1.out, HM.out⟩, ?_, HT2.out, ?_⟩
  · simp only [HS1.out.1]; exact HO.out
  · simp only [HM.out.len]; exact H.out.2.2
set_option maxRecDepth 100000 in
set_option maxHeartbeats 8000000 in
theorem markTold_own {w : World} {B : Nat} {l : Line} {v0 v2 : Value} {vl : Nat → Value} (h : OwnA B w l v0 v2 vl) (hf : Few l) (a b k : Int) (hk0 : 0 ≤ k) (hk1 : k ≤ 100) :
    Calls Tryd.prog 7 #[.agg #[.int .i64 a, .int .i64 b, v0, .int .i64 l.gap, v2], .int .i64 k] w fun e w' => e = .returned (.int .i64 (endM l k)) ∧ Chg (OwnS l.trains.length v0 v2 vl) w w' ∧ ∃ l', MkL l l' k ∧ OwnA B w' l' v0 v2 vl := by
  obtain ⟨_, A0, c0, rfl, _⟩ := rd_of_ownsP h.1
  obtain ⟨A2, c2, rfl, _⟩ := h.2.1.rd
  have H := Lib.hid h
  have HF := Lib.hid hf
  clear h hf
  go_enter Tryd.func7, Tryd.ntmps7
  go_wp2_with fail
  have hE0 : Ext w (w.alloc (.cells #[.int .i64 a, .int .i64 b, .slice A0 l.tracks.length c0, .int .i64 l.gap, .slice A2 l.trains.length c2] 27)) := (Ext.refl w).alloc _
  refine (markLine_own (H.out.ext hE0) HF.out k hk0 hk1).mono ?_
  rintro e w1 ⟨rfl, hX, l', hM, hO⟩
  have HX1 : Hid (Chg (OwnS l.trains.length (.slice A0 l.tracks.length c0) (.slice A2 l.trains.length c2) vl) w w1) := (Chg.of_ext hE0).trans hX
  have HM := Lib.hid hM
  have HO := Lib.hid hO
  clear hX hM hO
  go_wp2_with fail
  go_ret
  exact ⟨rfl, HX1.out, l', HM.out, HO.out⟩
end Go.Proofs.YthhkbfjolmgloaaDoor
