/- The laws' copies of an argument into the program's own types: laws.toLeg, toIntS, toLegS, toTrain, toTrainS, toLine, toIntSS, toPlan. Conditions: lengths at most 2^20. -/
import Derived.Test.YthhkbfjolmgloaaSz
import Derived.Deep.OwnRows
import Derived.Laws.OwnMore
import Derived.Laws.MakeOwn
namespace Go.Proofs.Ythhkbfjolmgloaa
open Go.RowKit Go.Deep
set_option linter.unusedVariables false
set_option linter.unusedSimpArgs false
theorem toLeg_any (x : Leg) (w : World) : Calls Try.prog 147 #[.agg #[.int .i64 x.to, .int .i64 x.run, .int .i64 x.stay]] w fun e w' => e = .returned (.agg #[.int .i64 x.to, .int .i64 x.run, .int .i64 x.stay]) ∧ Ext w w' := by
  go_enter Try.func147, Try.ntmps147
  go_wp2
  exact bodyPost_ret (v := .agg #[.int .i64 x.to, .int .i64 x.run, .int .i64 x.stay]) (by simp [results, Try.results147, go_sem]) rfl ⟨rfl, (by repeat (first | (with_reducible assumption) | (with_reducible exact Ext.refl _) | apply Ext.alloc | apply Ext.drewN | apply Ext.drew))⟩

/-! ### Blocks of a call's own -/
def nums (xs : List Int) : List Value := xs.map (Value.int .i64)
theorem nums_length (xs : List Int) : (nums xs).length = xs.length := by simp [nums]
theorem info3 : (Try.prog.info? 3).map (fun i => (i.zero, i.size, i.bytes)) = some (some (.int .i64 0), 1, 8) := by kernel_rfl
theorem info84 : (Try.prog.info? 84).map (fun i => (i.zero, i.size, i.bytes)) = some (some (.agg #[.int .i64 0, .int .i64 0, .int .i64 0]), 3, 24) := by kernel_rfl
theorem info80 : (Try.prog.info? 80).map (fun i => (i.zero, i.size, i.bytes)) = some (some (.agg #[.int .i64 0, .int .i64 0, .int .i64 0, .int .i64 0, .slice none 0 0]), 5, 56) := by kernel_rfl
theorem info23 : (Try.prog.info? 23).map (fun i => (i.zero, i.size, i.bytes)) = some (some (.slice none 0 0), 1, 24) := by kernel_rfl
theorem madeCells_int (n : Nat) : madeCells #[Value.int .i64 0] n = (nums (List.replicate n 0)).toArray := by
  apply Array.ext
  · simp [nums, madeCells]
  · intro i h1 h2
    simp [nums, madeCells, Nat.mod_one]
/-- Behind k steps of 'out[i] = a[i]'. -/
def upTo {α : Type} (d : α) : Nat → List α → List α
  | _, [] => []
  | 0, _ :: xs => d :: upTo d 0 xs
  | k + 1, x :: xs => x :: upTo d k xs
theorem upTo_zero {α : Type} (d : α) (xs : List α) : upTo d 0 xs = List.replicate xs.length d := by
  induction xs with
  | nil => rfl
  | cons x xs ih => simp [upTo, ih, List.replicate_succ]
theorem upTo_all {α : Type} (d : α) (xs : List α) : upTo d xs.length xs = xs := by
  induction xs with
  | nil => rfl
  | cons x xs ih => simp [upTo, ih]
theorem upTo_length {α : Type} (d : α) (k : Nat) (xs : List α) : (upTo d k xs).length = xs.length := by
  induction xs generalizing k with
  | nil => cases k <;> rfl
  | cons x xs ih => cases k <;> simp [upTo, ih]
theorem upTo_set {α : Type} (d : α) {k : Nat} {xs : List α} {x : α} (h : xs[k]? = some x) : (upTo d k xs).set k x = upTo d (k + 1) xs := by
  induction xs generalizing k with
  | nil => simp at h
  | cons y ys ih =>
    cases k with
    | zero => simp at h; subst h; simp [upTo]
    | succ k => simp at h; simp [upTo, ih h]
/-- What 'make([]T, n)' does, T of 's' cells. -/
theorem madeCells_flat (z : Array Value) (n : Nat) : madeCells z (n * z.size) = (List.replicate n z.toList).flatten.toArray := by
  have key : ∀ n i : Nat, i < n * z.size → (List.replicate n z.toList).flatten[i]? = z.toList[i % z.size]? := by
    intro n
    induction n with
    | zero => intro i h; simp at h
    | succ n ih =>
      intro i h
      rw [List.replicate_succ, List.flatten_cons, List.getElem?_append]
      by_cases hi : i < z.toList.length
      · rw [if_pos hi, Nat.mod_eq_of_lt (by simpa using hi)]
      · have hz : z.size ≤ i := by simpa using hi
        rw [if_neg hi, ih _ (by rw [Nat.succ_mul] at h; simp; omega)]
        simp only [Array.length_toList]
        rw [← Nat.mod_eq_sub_mod hz]
  apply Array.ext
  · simp [madeCells]
  · intro i h1 h2
    have hi : i < n * z.size := by simpa [madeCells] using h1
    have hz : 0 < z.size := Nat.pos_of_ne_zero (fun e => by rw [e] at hi; simp at hi)
    have hk := key n i hi
    rw [List.getElem?_eq_getElem (by simpa using h2), List.getElem?_eq_getElem (by simpa using Nat.mod_lt i hz)] at hk
    simp only [Option.some.injEq] at hk
    simp only [List.getElem_toArray, hk]
    simp [madeCells, Nat.mod_lt i hz]
theorem make_any (t e : TypeId) (z : Value) (size bytes : Nat) (ht : Try.prog.underlying t = some (.slice e)) (hinfo : (Try.prog.info? e).map (fun i => (i.zero, i.size, i.bytes)) = some (some z, size, bytes)) (hz : z.cells.size = size) (n : Nat) (hb : bytes * n ≤ 281474976710656) (h63 : n ≤ 9223372036854775807) :
    ∀ W : World, (Instr.makeSlice t (.int .i64 (n : Int)) (.int .i64 (n : Int))).run Try.prog W = .ok (.slice (some ⟨W.heap.size, 0, none⟩) n n) (W.alloc (.cells (List.replicate n z.cells.toList).flatten.toArray e)) := by
  intro W
  obtain ⟨i, hi, hzz⟩ := Option.map_eq_some_iff.1 hinfo
  simp only [Prod.mk.injEq] at hzz
  obtain ⟨hz0, hs, hby⟩ := hzz
  have h := run_make (P := Try.prog) W t e i z ht hi hz0 .i64 .i64 n n (by omega) (by omega) (by rw [hby]; have : ((bytes * n : Nat) : Int) ≤ (281474976710656 : Nat) := Int.ofNat_le.2 hb; rw [Int.natCast_mul] at this; exact this) (by omega)
  rw [Int.toNat_natCast, hs, ← hz, madeCells_flat] at h
  exact h
/-- Cells stored one behind the other. -/
def setFrom (l : List Value) (k : Nat) : List Value → List Value
  | [] => l
  | v :: vs => setFrom (l.set k v) (k + 1) vs
theorem setFrom_mid (a b c r : List Value) (h : b.length = r.length) : setFrom (a ++ (b ++ c)) a.length r = a ++ (r ++ c) := by
  induction r generalizing a b with
  | nil => cases b with
    | nil => rfl
    | cons x b => simp at h
  | cons v r ih =>
    cases b with
    | nil => simp at h
    | cons x b =>
      have h1 : (a ++ (x :: b ++ c)).set a.length v = (a ++ [v]) ++ (b ++ c) := by simp
      have h2 := ih (a ++ [v]) b (by simpa using h)
      rw [setFrom, h1]
      simp only [List.length_append, List.length_singleton] at h2
      rw [h2]
      simp
theorem flatten_len {rows : List (List Value)} {s : Nat} (hs : ∀ q, q ∈ rows → q.length = s) : rows.flatten.length = rows.length * s := by
  induction rows with
  | nil => simp
  | cons r rows ih => rw [List.flatten_cons, List.length_append, hs r (by simp), ih (fun q hq => hs q (by simp [hq])), List.length_cons, Nat.succ_mul, Nat.add_comm]
theorem flatten_set {rows : List (List Value)} {s i : Nat} {r0 r : List Value} (hs : ∀ q, q ∈ rows → q.length = s) (h : rows[i]? = some r0) (hr : r.length = s) : (rows.set i r).flatten = setFrom rows.flatten (i * s) r := by
  obtain ⟨hi, rfl⟩ := List.getElem?_eq_some_iff.1 h
  have e : rows = rows.take i ++ (rows[i] :: rows.drop (i + 1)) := by rw [← List.drop_eq_getElem_cons hi, List.take_append_drop]
  have hl : (rows.take i).flatten.length = i * s := by
    rw [flatten_len (s := s) (fun q hq => hs q (List.mem_of_mem_take hq)), List.length_take, Nat.min_eq_left (by omega)]
  have e1 : rows.flatten = (rows.take i).flatten ++ (rows[i] ++ (rows.drop (i + 1)).flatten) := by
    rw [show rows.flatten = (rows.take i ++ (rows[i] :: rows.drop (i + 1))).flatten from congrArg List.flatten e, List.flatten_append, List.flatten_cons]
  have e2 : (rows.set i r).flatten = (rows.take i).flatten ++ (r ++ (rows.drop (i + 1)).flatten) := by
    rw [List.set_eq_take_append_cons_drop, if_pos hi]
    simp
  rw [e1, e2, ← hl, setFrom_mid _ _ _ _ (by rw [hr]; exact hs _ (List.getElem_mem hi))]
theorem flatten_get {rows : List (List Value)} {s i j : Nat} {r : List Value} (hs : ∀ q, q ∈ rows → q.length = s) (h : rows[i]? = some r) (hj : j < s) : rows.flatten[i * s + j]? = r[j]? := by
  obtain ⟨hi, rfl⟩ := List.getElem?_eq_some_iff.1 h
  have e : rows = rows.take i ++ (rows[i] :: rows.drop (i + 1)) := by rw [← List.drop_eq_getElem_cons hi, List.take_append_drop]
  have hl : (rows.take i).flatten.length = i * s := by
    rw [flatten_len (s := s) (fun q hq => hs q (List.mem_of_mem_take hq)), List.length_take, Nat.min_eq_left (by omega)]
  have e1 : rows.flatten = (rows.take i).flatten ++ (rows[i] ++ (rows.drop (i + 1)).flatten) := by
    rw [show rows.flatten = (rows.take i ++ (rows[i] :: rows.drop (i + 1))).flatten from congrArg List.flatten e, List.flatten_append, List.flatten_cons]
  rw [e1, ← hl, List.getElem?_append_right (by omega), Nat.add_sub_cancel_left, List.getElem?_append_left (by rw [hs _ (List.getElem_mem hi)]; exact hj)]
def legRow (x : Leg) : List Value := [.int .i64 x.to, .int .i64 x.run, .int .i64 x.stay]
theorem legRow_len (xs : List Leg) : ∀ q, q ∈ xs.map legRow → q.length = 3 := by
  intro q hq
  obtain ⟨x, _, rfl⟩ := List.mem_map.1 hq
  rfl
theorem rdLeg_of_box {w : World} {g : Nat} {xs : List Leg} {t : TypeId} {fr : Nat × Nat} (h : w.heap[g]? = some (.cells (xs.map legRow).flatten.toArray t fr)) : RdLeg w (some ⟨g, 0, none⟩) xs := fun j x hx => by
  have hx' : (xs.map legRow)[j]? = some (legRow x) := by simp [hx]
  refine ⟨g, 0, rfl, box_lt h, ?_⟩
  unfold AtLeg
  rw [box_cell h, box_cell h, box_cell h]
  simp only [List.getElem?_toArray, Nat.zero_add]
  exact ⟨(flatten_get (legRow_len xs) hx' (show 0 < 3 by omega)).trans rfl, (flatten_get (legRow_len xs) hx' (show 1 < 3 by omega)).trans rfl, (flatten_get (legRow_len xs) hx' (show 2 < 3 by omega)).trans rfl⟩
theorem rdInt_of_box {w : World} {g : Nat} {xs : List Int} {fr : Nat × Nat} (h : w.heap[g]? = some (.cells (nums xs).toArray 3 fr)) : RdInt w (some ⟨g, 0, none⟩) xs := fun j x hx =>
  ⟨g, 0, rfl, box_lt h, by unfold AtInt; rw [box_cell h]; simp [nums, hx]⟩
set_option maxRecDepth 100000 in
set_option maxHeartbeats 1000000 in
theorem toIntS_any {w : World} {xs : List Int} {A : Option Addr} (c : Nat) (hA : RdInt w A xs) (hn : xs.length ≤ 1048576) :
    Calls Try.prog 64 #[.slice A xs.length c] w fun e w' => e = .returned (.slice (some ⟨w.heap.size, 0, none⟩) xs.length xs.length) ∧ w'.heap[w.heap.size]? = some (.cells (nums xs).toArray 3 (0, 0)) ∧ Ext w w' := by
  have hmk := fun W => run_make_row' (P := Try.prog) 23 3 (.int .i64 0) 8 Try.underlying23 info3 rfl .i64 .i64 xs.length (by omega) (by omega) W
  rw [madeCells_int, ← upTo_zero (0 : Int)] at hmk
  go_enter Try.func64, Try.ntmps64
  go_wp2
  clear hmk
  go_loopw [4] (fun j wr => ∃ (jj : Nat), jj ≤ xs.length ∧ j = .int .i64 jj ∧ Ext w wr ∧ wr.heap[w.heap.size]? = some (.cells (nums (upTo 0 jj xs)).toArray 3 (0, 0))) (fun j _ => xs.length - (intOf j).toNat)
  case atStart => exact ⟨0, Nat.zero_le _, rfl, (by repeat (first | (with_reducible assumption) | (with_reducible exact Ext.refl _) | apply Ext.alloc | apply Ext.drewN | apply Ext.drew)), box_new _ _⟩
  case round =>
    obtain ⟨jj, hjj, rfl, hE0, hB⟩ := hrel
    obtain ⟨hcl, hup⟩ := (Lp.of_ext hE0).open0
    by_cases hlt : jj < xs.length
    · obtain ⟨x, hx⟩ := hid_of_lt hlt
      obtain ⟨b, o, rfl, hb⟩ := hA.base hlt
      have hc := hA.at_ hx.out
      have hg1 := box_frozen hB jj
      have hg2 : ∃ u, wr.cell? ⟨w.heap.size, jj, none⟩ = some u := by rw [box_cell hB]; exact ⟨_, Array.getElem?_eq_getElem (by simp [nums_length, upTo_length]; exact hlt)⟩
      obtain ⟨u, hg2⟩ := hg2
      have HB := Lib.hid hB; clear hB
      go_wp2
      exact ⟨⟨jj + 1, by omega, by go_num, hE0.setCell (Nat.le_refl _) _, by rw [box_set HB.out]; rw [← upTo_set 0 hx.out]; simp [nums]⟩, (by simp [intOf]; omega)⟩
    · have he : jj = xs.length := by omega
      have HE := Lib.hid he; clear he
      have HB := Lib.hid hB; clear hB
      go_wp2
      go_ret
      exact ⟨rfl, by rw [HB.out, HE.out, upTo_all], hE0⟩
set_option maxRecDepth 100000 in
set_option maxHeartbeats 1000000 in
theorem toLegS_any {w : World} {xs : List Leg} {A : Option Addr} (c : Nat) (hA : RdLeg w A xs) (hn : xs.length ≤ 1048576) :
    Calls Try.prog 140 #[.slice A xs.length c] w fun e w' => e = .returned (.slice (some ⟨w.heap.size, 0, none⟩) xs.length xs.length) ∧ w'.heap[w.heap.size]? = some (.cells (xs.map legRow).flatten.toArray 84 (0, 0)) ∧ Ext w w' := by
  have hmk := make_any 78 84 _ 3 24 Try.underlying78 info84 rfl xs.length (by omega) (by omega)
  have hz : (Value.agg #[.int .i64 0, .int .i64 0, .int .i64 0]).cells.toList = legRow default := rfl
  rw [hz, ← List.map_replicate, ← upTo_zero] at hmk
  go_enter Try.func140, Try.ntmps140
  go_wp2
  clear hmk hz
  go_loopw [4] (fun j wr => ∃ (jj : Nat), jj ≤ xs.length ∧ j = .int .i64 jj ∧ Ext w wr ∧ wr.heap[w.heap.size]? = some (.cells ((upTo default jj xs).map legRow).flatten.toArray 84 (0, 0))) (fun j _ => xs.length - (intOf j).toNat)
  case atStart => exact ⟨0, Nat.zero_le _, rfl, (by repeat (first | (with_reducible assumption) | (with_reducible exact Ext.refl _) | apply Ext.alloc | apply Ext.drewN | apply Ext.drew)), box_new _ _⟩
  case round =>
    obtain ⟨jj, hjj, rfl, hE0, hB⟩ := hrel
    obtain ⟨hcl, hup⟩ := (Lp.of_ext hE0).open0
    have HB := Lib.hid hB; clear hB
    by_cases hlt : jj < xs.length
    · obtain ⟨x, hx⟩ := hid_of_lt hlt
      obtain ⟨b, o, rfl, hb⟩ := hA.base hlt
      obtain ⟨f0, f1, f2⟩ := hA.at_ hx.out
      obtain ⟨y, hy⟩ := hid_of_lt (l := upTo default jj xs) (i := jj) (by rw [upTo_length]; exact hlt)
      have hy' : Hid (((upTo default jj xs).map legRow)[jj]? = some (legRow y)) := by unfold Hid; rw [List.getElem?_map, hy.out]; rfl
      go_wp2_with (go_at_call 147; refine (toLeg_any x _).mono ?_; rintro e w1 ⟨rfl, hE⟩; have HB1 := Lib.hid (hE.box HB.out); have fr := box_frozen HB1.out; have g0 : w1.cell? ⟨w.heap.size, jj * 3 + 0, none⟩ = _ := (box_cell HB1.out _).trans ((List.getElem?_toArray ..).trans (flatten_get (legRow_len _) hy'.out (show 0 < 3 by omega))); have g1 : w1.cell? ⟨w.heap.size, jj * 3 + 1, none⟩ = _ := (box_cell HB1.out _).trans ((List.getElem?_toArray ..).trans (flatten_get (legRow_len _) hy'.out (show 1 < 3 by omega))); have g2 : w1.cell? ⟨w.heap.size, jj * 3 + 2, none⟩ = _ := (box_cell HB1.out _).trans ((List.getElem?_toArray ..).trans (flatten_get (legRow_len _) hy'.out (show 2 < 3 by omega))); simp only [legRow, Nat.add_zero, List.getElem?_cons_zero, List.getElem?_cons_succ] at g0 g1 g2)
      exact ⟨⟨jj + 1, by omega, by go_num, Ext.setCell (Ext.setCell (Ext.setCell (hE0.trans hE) (Nat.le_refl _) _) (Nat.le_refl _) _) (Nat.le_refl _) _, by
        rw [box_set (box_set (box_set HB1.out _ _) _ _) _ _, ← upTo_set default hx.out, List.map_set, flatten_set (legRow_len _) hy'.out (show (legRow x).length = 3 from rfl)]
        simp [setFrom, legRow]⟩, (by simp [intOf]; omega)⟩
    · have he : jj = xs.length := by omega
      have HE := Lib.hid he; clear he
      go_wp2
      go_ret
      exact ⟨rfl, by rw [HB.out, HE.out, upTo_all], hE0⟩
/-- A train's five cells, its legs at a value. -/
def trainRow (x : Train) (v : Value) : List Value := [.int .i64 x.frm, .int .i64 x.ready, .int .i64 x.due, .int .i64 x.weight, v]
/-- Legs of the call's own, from block B on. -/
def OwnLegs (B : Nat) (w : World) (v : Value) (xs : List Leg) : Prop := ∃ g, v = .slice (some ⟨g, 0, none⟩) xs.length xs.length ∧ B ≤ g ∧ w.heap[g]? = some (.cells (xs.map legRow).flatten.toArray 84 (0, 0))
theorem OwnLegs.ext {B : Nat} {w w' : World} {v : Value} {xs : List Leg} (h : OwnLegs B w v xs) (e : Ext w w') : OwnLegs B w' v xs := by
  obtain ⟨g, h1, h2, h3⟩ := h
  exact ⟨g, h1, h2, e.box h3⟩
set_option maxRecDepth 100000 in
set_option maxHeartbeats 1000000 in
theorem toTrain_any {w : World} {t : Train} {v : Value} (ht : IsTrain w t v) (hn : t.legs.length ≤ 1048576) :
    Calls Try.prog 125 #[v] w fun e w' => ∃ u, e = .returned (.agg #[.int .i64 t.frm, .int .i64 t.ready, .int .i64 t.due, .int .i64 t.weight, u]) ∧ OwnLegs w.heap.size w' u t.legs ∧ Ext w w' := by
  obtain ⟨A4, c4, rfl, hR⟩ := ht
  have HR := Lib.hid hR; clear hR
  go_enter Try.func125, Try.ntmps125
  go_wp2_with (go_at_call 140; refine (toLegS_any c4 (HR.out.ext (by repeat (first | (with_reducible assumption) | (with_reducible exact Ext.refl _) | apply Ext.alloc | apply Ext.drewN | apply Ext.drew))) hn).mono ?_; rintro e w1 ⟨rfl, hB, hE⟩; have hS := Lp.trans (bs := [(w.heap.size + 1 + 1, #[.int .i64 t.frm, .int .i64 t.ready, .int .i64 t.due, .int .i64 t.weight, .slice none 0 0], 80), (w.heap.size + 1, #[.int .i64 0, .int .i64 0, .int .i64 0, .int .i64 0, .slice none 0 0], 80)]) ((((Lp.nil w).alloc _).newAt _ _ (by simp)).newAt _ _ (by simp)) hE; obtain ⟨k1, k2, k3, k4, k5, k6⟩ := hS.open2; simp only [alloc_size] at hB; have fr1 := box_frozen (hS.box _ (List.mem_cons_self)); have fr2 := box_frozen (hS.box _ (List.mem_cons_of_mem _ List.mem_cons_self)))
  refine bodyPost_ret (v := .agg #[.int .i64 t.frm, .int .i64 t.ready, .int .i64 t.due, .int .i64 t.weight, .slice (some ⟨w.heap.size + 1 + 1 + 1, 0, none⟩) t.legs.length t.legs.length]) (by simp [results, Try.results125, go_sem, k1, k2, k3, k4, k5, k6]) rfl ⟨_, rfl, ⟨_, rfl, by omega, (by repeat (first | (with_reducible assumption) | with_reducible refine box_set_far ?_ _ _ (by omega)))⟩, (by repeat (first | (with_reducible exact hS.ext) | (with_reducible assumption) | (with_reducible exact Ext.refl _) | with_reducible apply Ext.alloc | with_reducible apply Ext.drewN | with_reducible apply Ext.drew | with_reducible refine Ext.setCell ?_ (by simp only []; omega) _))⟩
theorem OwnLegs.far {B : Nat} {w : World} {v : Value} {xs : List Leg} (h : OwnLegs B w v xs) {g : Nat} (hg : g < B) (j : Nat) (u : Value) : OwnLegs B (w.setCell ⟨g, j, none⟩ u) v xs := by
  obtain ⟨g', h1, h2, h3⟩ := h
  exact ⟨g', h1, h2, box_set_far h3 j u (by omega)⟩
theorem OwnLegs.mono {B B' : Nat} {w : World} {v : Value} {xs : List Leg} (h : OwnLegs B w v xs) (hB : B' ≤ B) : OwnLegs B' w v xs := by
  obtain ⟨g, h1, h2, h3⟩ := h
  exact ⟨g, h1, by omega, h3⟩
/-- Rows of five cells, of which the first k are the trains', their legs owned. -/
structure TrainRows (B : Nat) (w : World) (k : Nat) (rows : List (List Value)) (xs : List Train) : Prop where
  len : rows.length = xs.length
  five : ∀ q, q ∈ rows → q.length = 5
  row : ∀ (j : Nat) (x : Train), j < k → xs[j]? = some x → ∃ u, rows[j]? = some (trainRow x u) ∧ OwnLegs B w u x.legs
theorem TrainRows.map {B B' k : Nat} {w w' : World} {rows : List (List Value)} {xs : List Train} (h : TrainRows B w k rows xs) (f : ∀ u x, OwnLegs B w u x → OwnLegs B' w' u x) : TrainRows B' w' k rows xs :=
  ⟨h.len, h.five, fun j x hj hx => by
    obtain ⟨u, h1, h2⟩ := h.row j x hj hx
    exact ⟨u, h1, f _ _ h2⟩⟩
theorem TrainRows.set {B k : Nat} {w : World} {rows : List (List Value)} {xs : List Train} (h : TrainRows B w k rows xs) {x : Train} (hx : xs[k]? = some x) {u : Value} (hu : OwnLegs B w u x.legs) : TrainRows B w (k + 1) (rows.set k (trainRow x u)) xs :=
  ⟨by simpa using h.len, fun q hq => by
    rcases List.mem_or_eq_of_mem_set hq with hq | rfl
    · exact h.five q hq
    · rfl, fun j y hj hy => by
    by_cases e : k = j
    · subst e
      obtain rfl : x = y := by rw [hx] at hy; injection hy
      exact ⟨u, by rw [List.getElem?_set_self (by rw [h.len]; exact lt_of_some hx)], hu⟩
    · obtain ⟨v, h1, h2⟩ := h.row j y (by omega) hy
      exact ⟨v, by rw [List.getElem?_set_ne e]; exact h1, h2⟩⟩
/-- Trains of the call's own, from block B on. -/
def OwnTrains (B : Nat) (w : World) (v : Value) (xs : List Train) : Prop := ∃ g rows, v = .slice (some ⟨g, 0, none⟩) xs.length xs.length ∧ B ≤ g ∧ w.heap[g]? = some (.cells rows.flatten.toArray 80 (0, 0)) ∧ TrainRows B w xs.length rows xs
theorem OwnTrains.ext {B : Nat} {w w' : World} {v : Value} {xs : List Train} (h : OwnTrains B w v xs) (e : Ext w w') : OwnTrains B w' v xs := by
  obtain ⟨g, rows, h1, h2, h3, h4⟩ := h
  exact ⟨g, rows, h1, h2, e.box h3, h4.map (fun _ _ h => h.ext e)⟩
theorem OwnLegs.rd {B : Nat} {w : World} {v : Value} {xs : List Leg} (h : OwnLegs B w v xs) : ∃ A c, v = .slice A xs.length c ∧ RdLeg w A xs := by
  obtain ⟨g, h1, h2, h3⟩ := h
  exact ⟨_, _, h1, rdLeg_of_box h3⟩
theorem OwnTrains.rd {B : Nat} {w : World} {v : Value} {xs : List Train} (h : OwnTrains B w v xs) : ∃ A c, v = .slice A xs.length c ∧ RdTrain w A xs := by
  obtain ⟨g, rows, h1, h2, h3, h4⟩ := h
  refine ⟨_, _, h1, fun j x hx => ⟨g, 0, rfl, box_lt h3, ?_⟩⟩
  obtain ⟨u, hr, ho⟩ := h4.row j x (lt_of_some hx) hx
  obtain ⟨A, c, rfl, hR⟩ := ho.rd
  have hc : ∀ i, i < 5 → w.cell? ⟨g, 0 + j * 5 + i, none⟩ = (trainRow x (.slice A x.legs.length c))[i]? := fun i hi => by
    rw [box_cell h3, List.getElem?_toArray, Nat.zero_add, flatten_get h4.five hr hi]
  exact ⟨hc 0 (by omega), hc 1 (by omega), hc 2 (by omega), hc 3 (by omega), A, c, hc 4 (by omega), hR⟩
set_option maxRecDepth 100000 in
set_option maxHeartbeats 1000000 in
theorem toTrainS_any {w : World} {xs : List Train} {A : Option Addr} (c : Nat) (hA : RdTrain w A xs) (hn : xs.length ≤ 1048576) (hl : ∀ (i : Nat) (t : Train), xs[i]? = some t → t.legs.length ≤ 1048576) :
    Calls Try.prog 78 #[.slice A xs.length c] w fun e w' => ∃ v, e = .returned v ∧ OwnTrains w.heap.size w' v xs ∧ Ext w w' := by
  have hmk := make_any 31 80 _ 5 56 Try.underlying31 info80 rfl xs.length (by omega) (by omega)
  have hz : (Value.agg #[.int .i64 0, .int .i64 0, .int .i64 0, .int .i64 0, .slice none 0 0]).cells.toList = trainRow default (.slice none 0 0) := rfl
  rw [hz] at hmk
  go_enter Try.func78, Try.ntmps78
  go_wp2
  clear hmk hz
  go_loopw [4] (fun j wr => ∃ (jj : Nat) (rows : List (List Value)), jj ≤ xs.length ∧ j = .int .i64 jj ∧ Ext w wr ∧ wr.heap[w.heap.size]? = some (.cells rows.flatten.toArray 80 (0, 0)) ∧ TrainRows (w.heap.size + 1) wr jj rows xs) (fun j _ => xs.length - (intOf j).toNat)
  case atStart => exact ⟨0, _, Nat.zero_le _, rfl, (by repeat (first | (with_reducible assumption) | (with_reducible exact Ext.refl _) | apply Ext.alloc | apply Ext.drewN | apply Ext.drew)), box_new _ _, by simp, fun q hq => by rw [List.eq_of_mem_replicate hq]; rfl, fun j x hj _ => absurd hj (by omega)⟩
  case round =>
    obtain ⟨jj, rows, hjj, rfl, hE0, hB, hT⟩ := hrel
    obtain ⟨hcl, hup⟩ := (Lp.of_ext hE0).open0
    have HB := Lib.hid hB; clear hB
    have HT := Lib.hid hT; clear hT
    have hlt0 : w.heap.size < wr.heap.size := box_lt HB.out
    by_cases hlt : jj < xs.length
    · obtain ⟨x, hx⟩ := hid_of_lt hlt
      obtain ⟨b, o, rfl, hb⟩ := hA.base hlt
      obtain ⟨e0, e1, e2, e3, A4, c4, e4, hR⟩ := hA.at_ hx.out
      have hI := Lib.hid (isTrain_mk (c4 := c4) (hR.ext hE0))
      have hN := hl _ _ hx.out
      obtain ⟨r, hr⟩ := hid_of_lt (l := rows) (i := jj) (by rw [HT.out.len]; exact hlt)
      have h5 := Lib.hid (HT.out.five r (List.mem_of_getElem? hr.out))
      go_wp2_with (go_at_call 125; refine (toTrain_any hI.out hN).mono ?_; rintro e w1 ⟨u, rfl, ⟨gu, rfl, hgu, hBu⟩, hE⟩; have HU : Hid (OwnLegs wr.heap.size w1 (.slice (some ⟨gu, 0, none⟩) x.legs.length x.legs.length) x.legs) := ⟨gu, rfl, hgu, hBu⟩; clear hBu; have HB1 := Lib.hid (hE.box HB.out); have fr := box_frozen HB1.out; have hc : ∀ i, i < 5 → w1.cell? ⟨w.heap.size, jj * 5 + i, none⟩ = r[i]? := (fun i hi => (box_cell HB1.out _).trans ((List.getElem?_toArray ..).trans (flatten_get HT.out.five hr.out hi))); obtain ⟨y0, g0⟩ : ∃ y, w1.cell? ⟨w.heap.size, jj * 5, none⟩ = some y := ⟨_, (hc 0 (by omega)).trans (List.getElem?_eq_getElem (by rw [h5.out]; omega))⟩; obtain ⟨y1, g1⟩ : ∃ y, w1.cell? ⟨w.heap.size, jj * 5 + 1, none⟩ = some y := ⟨_, (hc 1 (by omega)).trans (List.getElem?_eq_getElem (by rw [h5.out]; omega))⟩; obtain ⟨y2, g2⟩ : ∃ y, w1.cell? ⟨w.heap.size, jj * 5 + 2, none⟩ = some y := ⟨_, (hc 2 (by omega)).trans (List.getElem?_eq_getElem (by rw [h5.out]; omega))⟩; obtain ⟨y3, g3⟩ : ∃ y, w1.cell? ⟨w.heap.size, jj * 5 + 3, none⟩ = some y := ⟨_, (hc 3 (by omega)).trans (List.getElem?_eq_getElem (by rw [h5.out]; omega))⟩; obtain ⟨y4, g4⟩ : ∃ y, w1.cell? ⟨w.heap.size, jj * 5 + 4, none⟩ = some y := ⟨_, (hc 4 (by omega)).trans (List.getElem?_eq_getElem (by rw [h5.out]; omega))⟩; clear hc)
      refine ⟨⟨jj + 1, rows.set jj (trainRow x (.slice (some ⟨gu, 0, none⟩) x.legs.length x.legs.length)), by omega, by go_num, Ext.setCell (Ext.setCell (Ext.setCell (Ext.setCell (Ext.setCell (hE0.trans hE) (Nat.le_refl _) _) (Nat.le_refl _) _) (Nat.le_refl _) _) (Nat.le_refl _) _) (Nat.le_refl _) _, ?_, ?_⟩, (by simp [intOf]; omega)⟩
      · rw [box_set (box_set (box_set (box_set (box_set HB1.out _ _) _ _) _ _) _ _) _ _, flatten_set HT.out.five hr.out (show (trainRow x (.slice (some ⟨gu, 0, none⟩) x.legs.length x.legs.length)).length = 5 from rfl)]
        simp [setFrom, trainRow]
      · have h1 := (HT.out.map (fun _ _ h => h.ext hE)).set hx.out (HU.out.mono (by omega))
        exact h1.map (fun _ _ h => ((((h.far (by omega) _ _).far (by omega) _ _).far (by omega) _ _).far (by omega) _ _).far (by omega) _ _)
    · have he : jj = xs.length := by omega
      have HE := Lib.hid he; clear he
      go_wp2
      go_ret
      exact ⟨_, rfl, ⟨_, rows, rfl, Nat.le_refl _, HB.out, ⟨HT.out.len, HT.out.five, fun j x hj hx => by
        obtain ⟨u, h1, h2⟩ := HT.out.row j x (by rw [HE.out]; exact hj) hx
        exact ⟨u, h1, h2.mono (by omega)⟩⟩⟩, hE0⟩
/-- Numbers of the call's own, from block B on. -/
def OwnInts (B : Nat) (w : World) (v : Value) (xs : List Int) : Prop := ∃ g, v = .slice (some ⟨g, 0, none⟩) xs.length xs.length ∧ B ≤ g ∧ w.heap[g]? = some (.cells (nums xs).toArray 3 (0, 0))
theorem OwnInts.ext {B : Nat} {w w' : World} {v : Value} {xs : List Int} (h : OwnInts B w v xs) (e : Ext w w') : OwnInts B w' v xs := by
  obtain ⟨g, h1, h2, h3⟩ := h
  exact ⟨g, h1, h2, e.box h3⟩
theorem OwnInts.rd {B : Nat} {w : World} {v : Value} {xs : List Int} (h : OwnInts B w v xs) : ∃ A c, v = .slice A xs.length c ∧ RdInt w A xs := by
  obtain ⟨g, h1, h2, h3⟩ := h
  exact ⟨_, _, h1, rdInt_of_box h3⟩
theorem OwnInts.far {B : Nat} {w : World} {v : Value} {xs : List Int} (h : OwnInts B w v xs) {g : Nat} (hg : g < B) (j : Nat) (u : Value) : OwnInts B (w.setCell ⟨g, j, none⟩ u) v xs := by
  obtain ⟨g', h1, h2, h3⟩ := h
  exact ⟨g', h1, h2, box_set_far h3 j u (by omega)⟩
theorem OwnInts.mono {B B' : Nat} {w : World} {v : Value} {xs : List Int} (h : OwnInts B w v xs) (hB : B' ≤ B) : OwnInts B' w v xs := by
  obtain ⟨g, h1, h2, h3⟩ := h
  exact ⟨g, h1, by omega, h3⟩
theorem OwnTrains.far {B : Nat} {w : World} {v : Value} {xs : List Train} (h : OwnTrains B w v xs) {g : Nat} (hg : g < B) (j : Nat) (u : Value) : OwnTrains B (w.setCell ⟨g, j, none⟩ u) v xs := by
  obtain ⟨g', rows, h1, h2, h3, h4⟩ := h
  exact ⟨g', rows, h1, h2, box_set_far h3 j u (by omega), h4.map (fun _ _ h => h.far hg j u)⟩
theorem OwnTrains.mono {B B' : Nat} {w : World} {v : Value} {xs : List Train} (h : OwnTrains B w v xs) (hB : B' ≤ B) : OwnTrains B' w v xs := by
  obtain ⟨g', rows, h1, h2, h3, h4⟩ := h
  exact ⟨g', rows, h1, by omega, h3, h4.map (fun _ _ h => h.mono hB)⟩
/-- A line of the call's own, from block B on. -/
def OwnLine (B : Nat) (w : World) (v : Value) (l : Line) : Prop := ∃ v0 v2, v = .agg #[v0, .int .i64 l.gap, v2] ∧ OwnInts B w v0 l.tracks ∧ OwnTrains B w v2 l.trains
theorem OwnLine.ext {B : Nat} {w w' : World} {v : Value} {l : Line} (h : OwnLine B w v l) (e : Ext w w') : OwnLine B w' v l := by
  obtain ⟨v0, v2, h1, h2, h3⟩ := h
  exact ⟨v0, v2, h1, h2.ext e, h3.ext e⟩
theorem OwnLine.rd {B : Nat} {w : World} {v : Value} {l : Line} (h : OwnLine B w v l) : IsLine w l v := by
  obtain ⟨v0, v2, rfl, h2, h3⟩ := h
  obtain ⟨A0, c0, rfl, k2⟩ := h2.rd
  obtain ⟨A2, c2, rfl, k3⟩ := h3.rd
  exact ⟨A0, c0, A2, c2, rfl, k2, k3⟩
/-- What the copies ask of an argument: its lists are no longer than 2^20. -/
structure Line.Small (l : Line) : Prop where
  tracks : l.tracks.length ≤ 1048576
  trains : l.trains.length ≤ 1048576
  legs : ∀ (i : Nat) (t : Train), l.trains[i]? = some t → t.legs.length ≤ 1048576
set_option maxRecDepth 100000 in
set_option maxHeartbeats 1000000 in
theorem toLine_any {w : World} {l : Line} {v : Value} (hl : IsLine w l v) (S : l.Small) :
    Calls Try.prog 23 #[v] w fun e w' => ∃ u, e = .returned u ∧ OwnLine w.heap.size w' u l ∧ Ext w w' := by
  obtain ⟨A0, c0, A2, c2, rfl, hR0, hR2⟩ := hl
  have HR0 := Lib.hid hR0; have HR2 := Lib.hid hR2; clear hR0 hR2
  have s0 := S.tracks; have s2 := S.trains
  go_enter Try.func23, Try.ntmps23
  go_wp2_with (first  | (go_at_call 64; refine (toIntS_any c0 (HR0.out.ext (by repeat (first | (with_reducible assumption) | (with_reducible exact Ext.refl _) | apply Ext.alloc | apply Ext.drewN | apply Ext.drew))) s0).mono ?_; rintro e w1 ⟨rfl, hB, hE⟩; simp only [alloc_size] at hB; have HB := Lib.hid hB; clear hB;  have hS := Lp.trans (bs := [(w.heap.size + 1 + 1, #[.slice none 0 0, .int .i64 0, .slice none 0 0], 33), (w.heap.size + 1, #[.slice none 0 0, .int .i64 0, .slice none 0 0], 33), (w.heap.size, #[.slice A0 l.tracks.length c0, .int .i64 l.gap, .slice A2 l.trains.length c2], 26)]) ((((Lp.nil w).newAt _ _ rfl).newAt _ _ (by simp)).newAt _ _ (by simp)) hE;  obtain ⟨k1, k2, k3, k4, k5, k6, k7, k8⟩ := hS.open3; have fr1 := box_frozen (hS.box _ (List.mem_cons_self)))  | (go_at_call 78; refine (toTrainS_any c2 (HR2.out.ext (by repeat (first | (with_reducible exact hS.ext) | (with_reducible assumption) | (with_reducible exact Ext.refl _) | with_reducible apply Ext.alloc | with_reducible apply Ext.drewN | with_reducible apply Ext.drew | with_reducible refine Ext.setCell ?_ (by simp only []; omega) _))) s2 S.legs).mono ?_; rintro e w2 ⟨u, rfl, ⟨gu, rows, rfl, hgu, hU1, hU2⟩, hE2⟩;  have HU : Hid (OwnTrains _ w2 (.slice (some ⟨gu, 0, none⟩) l.trains.length l.trains.length) l.trains) := ⟨gu, rows, rfl, hgu, hU1, hU2⟩; clear hU1 hU2;  have hT := Lp.trans ((hS.set (by omega) (by simp <;> omega) 0 (.slice (some ⟨w.heap.size + 1 + 1 + 1, 0, none⟩) l.tracks.length l.tracks.length)).set (by omega) (by simp <;> omega) 1 (.int .i64 l.gap)) hE2; simp only [List.setIfInBounds_toArray, List.set_cons_zero, List.set_cons_succ] at hT; clear hS k1 k2 k3 k4 k5 k6 k7 k8 fr1; obtain ⟨k1, k2, k3, k4, k5, k6, k7, k8⟩ := hT.open3; have fr1 := box_frozen (hT.box _ (List.mem_cons_self)); have fr2 := box_frozen (hT.box _ (List.mem_cons_of_mem _ List.mem_cons_self))))
  have HB2 := hE2.box (box_set_far (box_set_far HB.out 0 (.slice (some ⟨w.heap.size + 1 + 1 + 1, 0, none⟩) l.tracks.length l.tracks.length) (g' := w.heap.size + 1 + 1) (by omega)) 1 (.int .i64 l.gap) (g' := w.heap.size + 1 + 1) (by omega))
  have hq : w.heap.size + 1 + 1 < ((w1.setCell ⟨w.heap.size + 1 + 1, 0, none⟩ (.slice (some ⟨w.heap.size + 1 + 1 + 1, 0, none⟩) l.tracks.length l.tracks.length)).setCell ⟨w.heap.size + 1 + 1, 1, none⟩ (.int .i64 l.gap)).heap.size := by
    have := hE.size
    simp [World.setCell] at this ⊢
    omega
  have hX := hT.ext
  refine bodyPost_ret (v := .agg #[.slice (some ⟨w.heap.size + 1 + 1 + 1, 0, none⟩) l.tracks.length l.tracks.length, .int .i64 l.gap, .slice (some ⟨gu, 0, none⟩) l.trains.length l.trains.length]) (by simp [results, Try.results23, go_sem, k1, k2, k3, k4, k5, k6]) rfl ⟨_, rfl, ⟨_, _, rfl, ⟨_, rfl, by omega, (by repeat (first | (with_reducible assumption) | with_reducible refine box_set_far ?_ _ _ (by omega)))⟩, ?_⟩, (by repeat (first | (with_reducible exact hS.ext) | (with_reducible assumption) | (with_reducible exact Ext.refl _) | with_reducible apply Ext.alloc | with_reducible apply Ext.drewN | with_reducible apply Ext.drew | with_reducible refine Ext.setCell ?_ (by simp only []; omega) _))⟩
  exact ((((HU.out.far (by omega) _ _).far (by omega) _ _).far (by omega) _ _).far (by omega) _ _).mono (by omega)
end Go.Proofs.Ythhkbfjolmgloaa
