/- Plain laws on lines that are moved, eased, or cut to one train. Condition: the line is a drawn one.
   append([]Leg{}, legs...): a copy of a train's legs in a block of its own. Condition: 1 to 1000 legs.
   A cell of a row of one's own is overwritten: tracks, legs, trains of a line of one's own. Plain memory alone.
   laws.wLater answers a fresh line, every train's times moved. Condition: the line is right, moved by 0 to 1000.
   laws.wByte answers the byte at a number, the row taken round and round; 0 of an empty row. -/
import Derived.Test.YthhkbfjolmgloaaML9a
import Derived.Test.YthhkbfjolmgloaaM2L9a
import Derived.Test.YthhkbfjolmgloaaM2L16a
import Derived.Test.YthhkbfjolmgloaaML0a
import Derived.Deep.Upon
import Derived.Test.YthhkbfjolmgloaaM2HDrawX
import Derived.Deep.DeepCutAuto
import Derived.Deep.RegionHeld3
import Derived.Test.YthhkbfjolmgloaaM2L13a
namespace Go.Proofs.Ythhkbfjolmgloaa
open Go.RowKit
set_option linter.unusedVariables false
set_option linter.unusedSimpArgs false
theorem set_cases {α : Type} {xs : List α} {k m : Nat} {x y : α} (h : (xs.set k x)[m]? = some y) : (k = m ∧ y = x) ∨ xs[m]? = some y := by
  by_cases e : k = m
  · subst e
    left
    have hl := lt_of_some h
    simp only [List.length_set] at hl
    rw [List.getElem?_set_self hl] at h
    simp only [Option.some.injEq] at h
    exact ⟨rfl, h.symm⟩
  · right
    rwa [List.getElem?_set_ne e] at h
theorem legsN_map (f : Train → Train) (hf : ∀ t, (f t).legs = t.legs) : ∀ ts : List Train, legsN (ts.map f) = legsN ts
  | [] => rfl
  | t :: ts => by simp only [List.map_cons, legsN, hf, legsN_map f hf ts]
theorem later_ok {most : Int} {l : Line} {d : Int} (D : LineD most l) (h0 : 0 ≤ d) (h1 : d ≤ 1000) : Ok (laterL l d) where
  n2 := D.ok.n2
  n12 := D.ok.n12
  gap0 := D.ok.gap0
  gap1 := D.ok.gap1
  ntr := by rw [laterL_n]; exact D.ok.ntr
  nlegs := by
    show legsN (l.trains.map (laterT d)) ≤ 10
    rw [legsN_map (laterT d) (fun _ => rfl)]
    exact D.ok.nlegs
  track := D.ok.track
  train := fun i t ht => by
    simp only [laterL, List.getElem?_map, Option.map_eq_some_iff] at ht
    obtain ⟨t0, ht0, rfl⟩ := ht
    have T := D.ok.train i t0 ht0
    have R := D.tr t0 (List.mem_of_getElem? ht0)
    have r1 := R.ready; have r2 := R.due; have r3 := T.ready0; have r4 := T.due0
    exact ⟨T.frm0, T.frm1, by show 0 ≤ t0.ready + d; omega, by show t0.ready + d ≤ 100000; omega, by show 0 ≤ t0.due + d; omega, by show t0.due + d ≤ 100000; omega, T.weight0, T.weight1, T.some_, T.leg, T.adj⟩
theorem laterL_zero (l : Line) : laterL l 0 = l := by
  obtain ⟨a, b, ts⟩ := l
  simp only [laterL, Line.mk.injEq, true_and]
  induction ts with
  | nil => rfl
  | cons t ts ih => simp only [List.map_cons, ih]; simp [laterT]
theorem Ok.size_le4 {l : Line} (O : Ok l) : l.size ≤ 1048576 := by
  have h1 := O.ntr; have h2 := O.nlegs; have h3 := O.bd.tracks
  unfold Line.size
  omega
theorem laterP_length (p : List (List Int)) (d : Int) : (laterP p d).length = p.length := by simp [laterP]
theorem laterP_at {p : List (List Int)} {d : Int} {i : Nat} {x : List Int} (h : p[i]? = some x) : (laterP p d)[i]? = some (x.map (· + d)) := by simp [laterP, h]
/-! ### Easier lines -/
def setTk (l : Line) (j : Nat) (x : Int) : Line := { l with tracks := l.tracks.set j x }
def setGap (l : Line) (x : Int) : Line := { l with gap := x }
def cutTr (l : Line) (n : Nat) : Line := { l with trains := l.trains.take n }
def setLeg (l : Line) (i k : Nat) (x : Leg) : Line := { l with trains := l.trains.set i { l.tr i with legs := (l.tr i).legs.set k x } }
theorem easier_tk {l : Line} (O : Ok l) {j : Nat} {x : Int} (h : l.tk j ≤ x) (h1 : 1 ≤ x) (h10 : x ≤ 10) : Easier l (setTk l j x) where
  ok := ⟨by simp only [setTk, List.length_set]; exact O.n2, by simp only [setTk, List.length_set]; exact O.n12, O.gap0, O.gap1, O.ntr, O.nlegs, fun s k hk => by
      rcases set_cases (xs := l.tracks) hk with ⟨_, e⟩ | e
      · omega
      · exact O.track s k e, fun i t ht => by
      have := O.train i t ht
      simp only [setTk, List.length_set]
      exact this⟩
  n := Nat.le_refl _
  len := fun _ _ => rfl
  frm := fun _ _ => rfl
  ready := fun _ _ => rfl
  due := fun _ _ => rfl
  weight := fun _ _ => rfl
  leg := fun _ _ _ _ => ⟨rfl, Int.le_refl _, Int.le_refl _⟩
  gap := Int.le_refl _
  tk := fun s hs => by
    by_cases e : s = j
    · subst e
      have : (setTk l s x).tk s = x := by simp [Line.tk, setTk, List.getD_eq_getElem?_getD, hs]
      rw [this]; exact h
    · have : (setTk l j x).tk s = l.tk s := by simp [Line.tk, setTk, List.getD_eq_getElem?_getD, List.getElem?_set, Ne.symm e]
      rw [this]; exact Int.le_refl _
theorem easier_gap {l : Line} (O : Ok l) {x : Int} (h0 : 0 ≤ x) (h : x ≤ l.gap) : Easier l (setGap l x) where
  ok := ⟨O.n2, O.n12, h0, by have := O.gap1; show x ≤ 10000; omega, O.ntr, O.nlegs, O.track, O.train⟩
  n := Nat.le_refl _
  len := fun _ _ => rfl
  frm := fun _ _ => rfl
  ready := fun _ _ => rfl
  due := fun _ _ => rfl
  weight := fun _ _ => rfl
  leg := fun _ _ _ _ => ⟨rfl, Int.le_refl _, Int.le_refl _⟩
  gap := h
  tk := fun _ _ => Int.le_refl _
theorem legsN_take : ∀ (ts : List Train) (n : Nat), legsN (ts.take n) ≤ legsN ts
  | [], n => by simp
  | t :: ts, 0 => by simp [legsN]
  | t :: ts, n + 1 => by simp only [List.take_succ_cons, legsN]; have := legsN_take ts n; omega
theorem cut_tr {l : Line} {n i : Nat} (h : i < (cutTr l n).trains.length) : (cutTr l n).tr i = l.tr i := by
  simp only [cutTr, List.length_take] at h
  simp [Line.tr, cutTr, List.getD_eq_getElem?_getD, List.getElem?_take, show i < n by omega]
theorem cutTr_ok {l : Line} (O : Ok l) (n : Nat) : Ok (cutTr l n) := ⟨O.n2, O.n12, O.gap0, O.gap1, by simp only [cutTr, List.length_take]; have := O.ntr; omega, Nat.le_trans (legsN_take l.trains n) O.nlegs, O.track, fun i t ht => by
    simp only [cutTr, List.getElem?_take] at ht
    split at ht
    · exact O.train i t ht
    · cases ht⟩
theorem easier_cut {l : Line} (O : Ok l) (n : Nat) : Easier l (cutTr l n) where
  ok := cutTr_ok O n
  n := by simp only [cutTr, List.length_take]; omega
  len := fun i hi => by rw [cut_tr hi]
  frm := fun i hi => by rw [cut_tr hi]
  ready := fun i hi => by rw [cut_tr hi]
  due := fun i hi => by rw [cut_tr hi]
  weight := fun i hi => by rw [cut_tr hi]
  leg := fun i k hi _ => by simp only [Line.leg, cut_tr hi]; exact ⟨trivial, Int.le_refl _, Int.le_refl _⟩
  gap := Int.le_refl _
  tk := fun _ _ => Int.le_refl _
theorem setLeg_n (l : Line) (i k : Nat) (x : Leg) : (setLeg l i k x).trains.length = l.trains.length := by simp [setLeg]
theorem setLeg_tr {l : Line} {i k : Nat} {x : Leg} (hi : i < l.trains.length) (j : Nat) : (setLeg l i k x).tr j = if j = i then { l.tr i with legs := (l.tr i).legs.set k x } else l.tr j := by
  by_cases e : j = i
  · subst e; rw [if_pos rfl]; simp [Line.tr, setLeg, List.getD_eq_getElem?_getD, hi]
  · rw [if_neg e]; simp [Line.tr, setLeg, List.getD_eq_getElem?_getD, List.getElem?_set, Ne.symm e]
theorem legsN_set : ∀ (ts : List Train) (i : Nat) (t : Train), t.legs.length = (ts.getD i default).legs.length → legsN (ts.set i t) = legsN ts
  | [], i, t, h => rfl
  | u :: ts, 0, t, h => by
    have h : t.legs.length = u.legs.length := by simpa using h
    simp only [List.set_cons_zero, legsN, h]
  | u :: ts, i + 1, t, h => by
    have h : t.legs.length = (ts.getD i default).legs.length := by simpa using h
    simp only [List.set_cons_succ, legsN, legsN_set ts i t h]
theorem easier_leg {l : Line} (O : Ok l) {i k : Nat} {x : Leg} (hi : i < l.trains.length) (hk : k < (l.tr i).legs.length) (hto : x.to = (l.leg i k).to) (hr1 : 1 ≤ x.run) (hr : x.run ≤ (l.leg i k).run) (hs0 : 0 ≤ x.stay) (hs : x.stay ≤ (l.leg i k).stay) : Easier l (setLeg l i k x) := by
  have B := O.bd.leg i k hi hk
  have hTr : TrOk l.tracks.length { l.tr i with legs := (l.tr i).legs.set k x } := by
    have T := O.train i _ (Line.tr_at hi)
    have hat : ∀ m, Train.at_ { l.tr i with legs := (l.tr i).legs.set k x } m = (l.tr i).at_ m := fun m => by
      unfold Train.at_
      by_cases e : m = 0
      · rw [if_pos e, if_pos e]
      · rw [if_neg e, if_neg e]
        simp only [List.getD_eq_getElem?_getD, List.getElem?_set]
        by_cases e2 : k = m - 1
        · subst e2
          rw [if_pos rfl, if_pos hk]
          have : (l.leg i (m - 1)).to = ((l.tr i).legs[m - 1]?.getD default).to := by simp [Line.leg, List.getD_eq_getElem?_getD]
          rw [← this, ← hto]; rfl
        · rw [if_neg e2]
    refine ⟨T.frm0, T.frm1, T.ready0, T.ready1, T.due0, T.due1, T.weight0, T.weight1, by simp only [List.length_set]; exact T.some_, fun m y hy => ?_, fun m y hy => ?_⟩
    · rcases set_cases (xs := (l.tr i).legs) hy with ⟨_, e⟩ | e
      · subst e
        have := T.leg k _ (Line.leg_at hk)
        omega
      · exact T.leg m y e
    · rw [hat]
      rcases set_cases (xs := (l.tr i).legs) hy with ⟨e2, e⟩ | e
      · subst e; subst e2
        have := T.adj k _ (Line.leg_at hk)
        rw [hto]; exact this
      · exact T.adj m y e
  have hlen : ∀ j, ((setLeg l i k x).tr j).legs.length = (l.tr j).legs.length := fun j => by
    rw [setLeg_tr hi]
    by_cases e : j = i
    · rw [if_pos e, e]; simp
    · rw [if_neg e]
  refine ⟨⟨O.n2, O.n12, O.gap0, O.gap1, by rw [setLeg_n]; exact O.ntr, ?_, O.track, fun j t ht => ?_⟩, by rw [setLeg_n]; exact Nat.le_refl _, fun j _ => hlen j, fun j _ => ?_, fun j _ => ?_, fun j _ => ?_, fun j _ => ?_, fun j m hj hm => ?_, Int.le_refl _, fun _ _ => Int.le_refl _⟩
  · have : legsN (setLeg l i k x).trains = legsN l.trains := legsN_set _ _ _ (by simp [Line.tr])
    rw [this]; exact O.nlegs
  · rcases set_cases (xs := l.trains) ht with ⟨_, e⟩ | e
    · subst e; exact hTr
    · exact O.train j t e
  · rw [setLeg_tr hi]; by_cases e : j = i
    · rw [if_pos e, e]
    · rw [if_neg e]
  · rw [setLeg_tr hi]; by_cases e : j = i
    · rw [if_pos e, e]
    · rw [if_neg e]
  · rw [setLeg_tr hi]; by_cases e : j = i
    · rw [if_pos e, e]
    · rw [if_neg e]
  · rw [setLeg_tr hi]; by_cases e : j = i
    · rw [if_pos e, e]
    · rw [if_neg e]
  · by_cases e : j = i
    · subst e
      by_cases e2 : m = k
      · subst e2
        have : (setLeg l j m x).leg j m = x := by simp [Line.leg, setLeg_tr hi, List.getD_eq_getElem?_getD, hk]
        rw [this]; exact ⟨hto, hr, hs⟩
      · have : (setLeg l j k x).leg j m = l.leg j m := by simp [Line.leg, setLeg_tr hi, List.getD_eq_getElem?_getD, List.getElem?_set, Ne.symm e2]
        rw [this]; exact ⟨rfl, Int.le_refl _, Int.le_refl _⟩
    · have : (setLeg l i k x).leg j m = l.leg j m := by simp [Line.leg, setLeg_tr hi, e]
      rw [this]; exact ⟨rfl, Int.le_refl _, Int.le_refl _⟩
/-- A drawn line has few tracks. -/
theorem drawLine_tk {code : List Int} (B : Bytes code) {most : Int} (s : Nat) (hs : s < (drawLine code most).tracks.length) : (drawLine code most).tk s ≤ 3 := by
  obtain ⟨t1, _, _⟩ := tracksC_ok B (2 + (pickC code 4 (pickC code 5 ⟨0, 0⟩).2).1).toNat [] (pickC code 4 (pickC code 5 ⟨0, 0⟩).2).2 (fun x hx => by cases hx)
  have h := Line.tk_at hs
  have := t1 _ (List.mem_of_getElem? h)
  omega
end Go.Proofs.Ythhkbfjolmgloaa
namespace Go.Proofs.Ythhkbfjolmgloaa
open Go.RowKit Go.Deep
set_option linter.unusedVariables false
set_option linter.unusedSimpArgs false
theorem legCells_length (xs : List Leg) : (legCells xs).length = xs.length * 3 := by
  induction xs with
  | nil => rfl
  | cons x xs ih => simp only [legCells, List.map_cons, List.flatten_cons, List.length_append] at ih ⊢; rw [ih]; simp [legRow]; omega
theorem legCells_one (xs : List Leg) : ∀ u ∈ legCells xs, u.oneCell' = true := by
  intro u hu
  simp only [legCells, List.mem_flatten, List.mem_map] at hu
  obtain ⟨r, ⟨x, _, rfl⟩, hr⟩ := hu
  simp only [legRow, List.mem_cons, List.not_mem_nil, or_false] at hr
  rcases hr with rfl | rfl | rfl <;> rfl
theorem legCells_cell {w : World} {b off : Nat} {xs : List Leg} (hA : RdLeg w (some ⟨b, off, none⟩) xs) {j : Nat} {u : Value} (hu : (legCells xs)[j]? = some u) : w.cell? ((⟨b, off, none⟩ : Addr).add j) = some u := by
  have hj := lt_of_some hu
  rw [legCells_length] at hj
  obtain ⟨x, hx⟩ := some_of_lt (l := xs) (i := j / 3) (by omega)
  have hr : j % 3 < 3 := Nat.mod_lt _ (by decide)
  have e : j = j / 3 * 3 + j % 3 := by omega
  have hg := flatten_get (rows := xs.map legRow) (s := 3) (i := j / 3) (j := j % 3) (r := legRow x) (legRow_len xs) (by simp [hx]) hr
  rw [← e] at hg
  have hu' : (legRow x)[j % 3]? = some u := by rw [← hg]; exact hu
  obtain ⟨f0, f1, f2⟩ := hA.at_ hx
  have key : w.cell? ⟨b, off + (j / 3) * 3 + j % 3, none⟩ = some u := by
    have h3 : j % 3 = 0 ∨ j % 3 = 1 ∨ j % 3 = 2 := by omega
    rcases h3 with h | h | h
    · rw [h] at hu' ⊢
      simp only [legRow, List.getElem?_cons_zero, Option.some.injEq] at hu'
      rw [← hu']; exact f0
    · rw [h] at hu' ⊢
      simp only [legRow, List.getElem?_cons_succ, List.getElem?_cons_zero, Option.some.injEq] at hu'
      rw [← hu']; exact f1
    · rw [h] at hu' ⊢
      simp only [legRow, List.getElem?_cons_succ, List.getElem?_cons_zero, Option.some.injEq] at hu'
      rw [← hu']; exact f2
  rw [Addr.add_lit]
  rw [show off + j = off + j / 3 * 3 + j % 3 by omega]
  exact key
theorem legs_copy {ops : Array Oper} {rest : List Oper} {o : Oper} {a : Act} {w : World} {Q : Exit → Act → World → Prop} (hgd : o.guard = none) (s x : Operand)
    (ho : o.op = .call { callee := .builtin .append, args := #[s, x], argTypes := #[78, 78] }) (H0 : Nat) (hs : a.eval s = .slice (some ⟨H0, 0, none⟩) 0 0) (hb : w.heap[H0]? = some (.cells #[] 84 (0, 0)))
    (A : Option Addr) (c : Nat) (xs : List Leg) (hx : a.eval x = .slice A xs.length c) (hA : RdLeg w A xs) (hn : xs.length ≤ 1000) (hne : 0 < xs.length)
    (h : ∀ g cap w', w'.ownsRow H0 84 3 (.slice (some ⟨g, 0, none⟩) xs.length cap) xs.length (legCells xs) → w.grownBy w' (some H0) → H0 ≤ g → g < w'.heap.size → wpList Try.prog ops Q rest (a.put o.dst (.slice (some ⟨g, 0, none⟩) xs.length cap)) w') : wpList Try.prog ops Q (o :: rest) a w := by
  obtain ⟨i, hi, hzz⟩ := Option.map_eq_some_iff.1 info84
  simp only [Prod.mk.injEq] at hzz
  obtain ⟨hz0, hz1, hz2⟩ := hzz
  have hown : w.ownsRow H0 84 3 (.slice (some ⟨H0, 0, none⟩) 0 0) 0 [] := ⟨rfl, Or.inr ⟨H0, 0, #[], rfl, Nat.le_refl _, hb, Nat.le_refl _, by simp [maxLen], rfl, rfl⟩⟩
  have hlt := box_lt hb
  obtain ⟨b, off, rfl, hbl⟩ := hA.base hne
  refine wpList_append_lies w hgd s x 78 ho H0 84 i _ 3 24 Try.underlying78 hi hz0 hz1 hz2 rfl (by decide) _ 0 [] hs hown ⟨b, off, none⟩ xs.length c (legCells xs) hx (legCells_length xs) (fun j u hu => legCells_cell hA hu) (legCells_one xs) hne (by unfold maxLen; omega) (by omega) (by omega) _ rfl ?_
  intro g cap w' h2 h3 h4 h5
  have hle : H0 ≤ g := by
    rcases h4 with h4 | h4
    · rw [show (Value.slice (some ⟨H0, 0, none⟩) 0 0).ownBlock = some H0 from rfl] at h4
      simp only [Option.some.injEq] at h4; omega
    · omega
  rw [List.nil_append, Nat.zero_add] at h2
  rw [Nat.zero_add]
  exact h g cap w' h2 h3 hle h5
end Go.Proofs.Ythhkbfjolmgloaa
namespace Go.Proofs.Ythhkbfjolmgloaa
open Go.RowKit Go.Deep
set_option linter.unusedVariables false
set_option linter.unusedSimpArgs false
/-- The rows of legs lie apart. -/
def ApL (n : Nat) (vl : Nat → Value) : Prop := ∀ i k g, i < n → k < n → i ≠ k → (vl i).ownBlock = some g → (vl k).ownBlock ≠ some g
/-- A line of one's own whose rows lie apart. -/
def OwnA (B : Nat) (w : World) (l : Line) (v0 v2 : Value) (vl : Nat → Value) : Prop := w.ownsRow B 3 1 v0 l.tracks.length (nums l.tracks) ∧ TrI w B l.trains v2 vl ∧ ApL l.trains.length vl
theorem OwnA.ownL {B : Nat} {w : World} {l : Line} {v0 v2 : Value} {vl : Nat → Value} (h : OwnA B w l v0 v2 vl) : OwnL B w (.agg #[v0, .int .i64 l.gap, v2]) l := ⟨v0, v2, vl, rfl, h.1, h.2.1⟩
theorem OwnA.ext {B : Nat} {w w' : World} {l : Line} {v0 v2 : Value} {vl : Nat → Value} (h : OwnA B w l v0 v2 vl) (e : Ext w w') : OwnA B w' l v0 v2 vl := ⟨ownsRow_ext h.1 e, h.2.1.ext e, h.2.2⟩
/-- Blocks of two types are two blocks. -/
theorem own_ne {w : World} {B : Nat} {e : TypeId} {size : Nat} {v : Value} {n : Nat} {xs : List Value} (h : w.ownsRow B e size v n xs) {g k : Nat} {cs : Array Value} {t : TypeId} {fr : Nat × Nat} (hb : w.heap[g]? = some (.cells cs t fr)) (ht : t ≠ e) (hk : v.ownBlock = some k) : g ≠ k := by
  rintro rfl
  rcases h.2 with ⟨h1, _⟩ | ⟨g', cap, cur, h1, _, h3, _⟩
  · rw [h1] at hk; cases hk
  · rw [h1, ownBlock_slice] at hk
    simp only [Option.some.injEq] at hk
    subst hk
    rw [h3] at hb
    simp only [Option.some.injEq, Obj.cells.injEq] at hb
    exact ht hb.2.1.symm
theorem own_box {w : World} {B : Nat} {e : TypeId} {size : Nat} {v : Value} {n : Nat} {xs : List Value} (h : w.ownsRow B e size v n xs) {g : Nat} (hk : v.ownBlock = some g) : ∃ cur, w.heap[g]? = some (.cells cur e (0, 0)) := by
  rcases h.2 with ⟨h1, _⟩ | ⟨g', cap, cur, h1, _, h3, _⟩
  · rw [h1] at hk; cases hk
  · rw [h1, ownBlock_slice] at hk
    simp only [Option.some.injEq] at hk
    subst hk
    exact ⟨cur, h3⟩
theorem ownsRow_poke {w : World} {B : Nat} {e : TypeId} {size g cap n : Nat} {xs : List Value} (h : w.ownsRow B e size (.slice (some ⟨g, 0, none⟩) n cap) n xs) (j : Nat) (u : Value) :
    (w.setCell ⟨g, j, none⟩ u).ownsRow B e size (.slice (some ⟨g, 0, none⟩) n cap) n (xs.set j u) := by
  have hl := h.1
  rcases h.2 with ⟨h1, _⟩ | ⟨g', cap', cur, h1, h2, h3, h4, h5, h6, h7⟩
  · cases h1
  · simp only [Value.slice.injEq, Option.some.injEq, Addr.mk.injEq, and_true, true_and] at h1
    obtain ⟨rfl, rfl⟩ := h1
    refine ⟨by simp [hl], Or.inr ⟨g, cap, cur.setIfInBounds j u, rfl, h2, box_set h3 j u, h4, h5, by simp [h6], ?_⟩⟩
    rw [← h7]
    simp [List.take_set]
theorem ownsRow_cell {w : World} {B : Nat} {e : TypeId} {size g cap n : Nat} {xs : List Value} (h : w.ownsRow B e size (.slice (some ⟨g, 0, none⟩) n cap) n xs) {j : Nat} {u : Value} (hj : xs[j]? = some u) : w.cell? ⟨g, j, none⟩ = some u := by
  have hl := h.1
  have hlt := lt_of_some hj
  rcases h.2 with ⟨h1, _⟩ | ⟨g', cap', cur, h1, h2, h3, h4, h5, h6, h7⟩
  · cases h1
  · simp only [Value.slice.injEq, Option.some.injEq, Addr.mk.injEq, and_true, true_and] at h1
    obtain ⟨rfl, rfl⟩ := h1
    rw [box_cell h3, ← hj, ← h7, List.getElem?_take_of_lt (by omega)]
    simp
theorem ownsRow_fr {w : World} {B : Nat} {e : TypeId} {size g cap n : Nat} {xs : List Value} (h : w.ownsRow B e size (.slice (some ⟨g, 0, none⟩) n cap) n xs) (j : Nat) : w.frozen? ⟨g, j, none⟩ = false := by
  obtain ⟨cur, hc⟩ := own_box h (ownBlock_slice g n cap)
  exact box_frozen hc j
theorem legCells_set : ∀ (xs : List Leg) (k : Nat) (x : Leg), xs[k]? = some x → ∀ r : Int, (legCells xs).set (k * 3 + 1) (.int .i64 r) = legCells (xs.set k { x with run := r }) ∧ (legCells xs).set (k * 3 + 2) (.int .i64 r) = legCells (xs.set k { x with stay := r })
  | [], k, x, h, r => by simp at h
  | y :: ys, 0, x, h, r => by
    simp only [List.getElem?_cons_zero, Option.some.injEq] at h
    subst h
    exact ⟨rfl, rfl⟩
  | y :: ys, k + 1, x, h, r => by
    simp only [List.getElem?_cons_succ] at h
    obtain ⟨h1, h2⟩ := legCells_set ys k x h r
    have e : ∀ zs : List Leg, legCells (y :: zs) = .int .i64 y.to :: .int .i64 y.run :: .int .i64 y.stay :: legCells zs := fun _ => rfl
    have i1 : (k + 1) * 3 + 1 = (k * 3 + 1) + 1 + 1 + 1 := by omega
    have i2 : (k + 1) * 3 + 2 = (k * 3 + 2) + 1 + 1 + 1 := by omega
    rw [List.set_cons_succ, List.set_cons_succ, e, e, e, i1, i2, List.set_cons_succ, List.set_cons_succ, List.set_cons_succ, List.set_cons_succ, List.set_cons_succ, List.set_cons_succ, h1, h2]
    exact ⟨rfl, rfl⟩
theorem TrI.poke {w : World} {B : Nat} {ts : List Train} {v : Value} {vl : Nat → Value} (h : TrI w B ts v vl) (A : ApL ts.length vl) {i g cap n j : Nat} {u : Value} {legs' : List Leg} (hi : i < ts.length) (hv : vl i = .slice (some ⟨g, 0, none⟩) n cap) (hn : n = (ts.getD i default).legs.length)
    (hset : (legCells (ts.getD i default).legs).set j u = legCells legs') (hlen : legs'.length = (ts.getD i default).legs.length) : TrI (w.setCell ⟨g, j, none⟩ u) B (ts.set i { ts.getD i default with legs := legs' }) v vl := by
  have hob : (vl i).ownBlock = some g := by rw [hv, ownBlock_slice]
  have hget : ∀ m, (ts.set i { ts.getD i default with legs := legs' }).getD m default = if m = i then { ts.getD i default with legs := legs' } else ts.getD m default := fun m => by
    by_cases e : m = i
    · subst e; rw [if_pos rfl]; simp [List.getD_eq_getElem?_getD, hi]
    · rw [if_neg e]; simp [List.getD_eq_getElem?_getD, List.getElem?_set, Ne.symm e]
  have hrows : trRows (ts.set i { ts.getD i default with legs := legs' }) vl = trRows ts vl := by
    unfold trRows
    rw [List.length_set]
    refine List.map_congr_left fun m _ => ?_
    rw [hget]
    by_cases e : m = i
    · subst e; rw [if_pos rfl]; rfl
    · rw [if_neg e]
  refine ⟨?_, fun m hm => ?_, fun m k hm hk => h.far m k (by simpa using hm) hk⟩
  · rw [List.length_set, hrows]
    exact ownsRow_set_far h.own (h.far i g hi hob) j u
  · rw [List.length_set] at hm
    rw [hget]
    by_cases e : m = i
    · subst e
      rw [if_pos rfl]
      simp only []
      have h1 := h.legs m hi
      rw [hv, ← hn] at h1
      have h2 := ownsRow_poke h1 j u
      rw [hset] at h2
      rw [hlen, hv, ← hn]
      exact h2
    · rw [if_neg e]
      exact ownsRow_set_far (h.legs m hm) (A i m g hi hm (Ne.symm e) hob) j u
/-- One track more. -/
theorem OwnA.tk {B : Nat} {w : World} {l : Line} {v2 : Value} {vl : Nat → Value} {g n cap : Nat} (h : OwnA B w l (.slice (some ⟨g, 0, none⟩) n cap) v2 vl) (hn : n = l.tracks.length) (j : Nat) (x : Int) : OwnA B (w.setCell ⟨g, j, none⟩ (.int .i64 x)) (setTk l j x) (.slice (some ⟨g, 0, none⟩) n cap) v2 vl := by
  subst hn
  obtain ⟨h1, h2, h3⟩ := h
  obtain ⟨cur, hc⟩ := own_box h1 (ownBlock_slice _ _ _)
  refine ⟨?_, ⟨?_, fun i hi => ?_, h2.far⟩, h3⟩
  · have := ownsRow_poke h1 j (.int .i64 x)
    have e : nums (setTk l j x).tracks = (nums l.tracks).set j (.int .i64 x) := by simp [setTk, nums, List.map_set]
    rw [e]
    simp only [setTk, List.length_set]
    exact this
  · exact ownsRow_set_far h2.own (fun e => own_ne h2.own hc (by decide) e rfl) j _
  · exact ownsRow_set_far (h2.legs i hi) (fun e => own_ne (h2.legs i hi) hc (by decide) e rfl) j _
theorem OwnA.leg {B : Nat} {w : World} {l : Line} {v0 v2 : Value} {vl : Nat → Value} (h : OwnA B w l v0 v2 vl) {i k g n cap : Nat} {x : Leg} {u : Value} {j : Nat} (hi : i < l.trains.length) (hv : vl i = .slice (some ⟨g, 0, none⟩) n cap) (hn : n = (l.tr i).legs.length)
    (hset : (legCells (l.tr i).legs).set j u = legCells ((l.tr i).legs.set k x)) : OwnA B (w.setCell ⟨g, j, none⟩ u) (setLeg l i k x) v0 v2 vl := by
  obtain ⟨h1, h2, h3⟩ := h
  have hob : (vl i).ownBlock = some g := by rw [hv, ownBlock_slice]
  obtain ⟨cur, hc⟩ := own_box (h2.legs i hi) hob
  refine ⟨ownsRow_set_far h1 (fun e => own_ne h1 hc (by decide) e rfl) j u, h2.poke h3 hi hv hn hset (by rw [List.length_set]; rfl), by rw [setLeg_n]; exact h3⟩
/-- Fewer trains, read. -/
theorem OwnA.cut {B : Nat} {w : World} {l : Line} {v0 v2 : Value} {vl : Nat → Value} (h : OwnA B w l v0 v2 vl) {A : Option Addr} {c m c' : Nat} (hv : v2 = .slice A l.trains.length c) (hm : m ≤ l.trains.length) : IsLine w (cutTr l m) (.agg #[v0, .int .i64 l.gap, .slice A m c']) := by
  obtain ⟨A0, c0, A2, c2, e, r0, r2⟩ := h.ownL.rd
  simp only [Value.agg.injEq, Array.mk.injEq, List.cons.injEq, and_true, true_and] at e
  obtain ⟨rfl, e2⟩ := e
  rw [hv] at e2
  simp only [Value.slice.injEq, true_and] at e2
  obtain ⟨rfl, rfl⟩ := e2
  have hlen : (cutTr l m).trains.length = m := by simp only [cutTr, List.length_take]; omega
  refine ⟨A0, c0, A, c', by rw [hlen]; rfl, r0, fun j x hx => ?_⟩
  simp only [cutTr, List.getElem?_take] at hx
  split at hx
  · exact r2 j x hx
  · cases hx
theorem OwnA.gap {B : Nat} {w : World} {l : Line} {v0 v2 : Value} {vl : Nat → Value} (h : OwnA B w l v0 v2 vl) (x : Int) : OwnA B w (setGap l x) v0 v2 vl := h
end Go.Proofs.Ythhkbfjolmgloaa
namespace Go.Proofs.Ythhkbfjolmgloaa
open Go.RowKit Go.Deep
set_option linter.unusedVariables false
set_option linter.unusedSimpArgs false
def Cells3 (g : Nat) (a b c : Value) (W : World) : Prop := W.cell? ⟨g, 0, none⟩ = some a ∧ W.cell? ⟨g, 1, none⟩ = some b ∧ W.cell? ⟨g, 2, none⟩ = some c ∧ g < W.heap.size
theorem lp_c3 {w W : World} {bs : List (Nat × Array Value × TypeId)} {g : Nat} {a b c : Value} (h : Lp w W bs) (hm : (g, #[a, b, c], (33 : TypeId)) ∈ bs) : Cells3 g a b c W := by
  obtain ⟨h1, h2⟩ := h.at_ hm
  exact ⟨h1 0, h1 1, h1 2, h2⟩
theorem far4' {b1 b2 b3 b4 k : Nat} {c1 c2 c3 c4 : Array Value} {t1 t2 t3 t4 : TypeId} (h1 : b1 ≠ k) (h2 : b2 ≠ k) (h3 : b3 ≠ k) (h4 : b4 ≠ k) : ∀ x, x ∈ [(b1, c1, t1), (b2, c2, t2), (b3, c3, t3), (b4, c4, t4)] → x.1 ≠ k := by
  intro x hx
  simp only [List.mem_cons, List.not_mem_nil, or_false] at hx
  rcases hx with rfl | rfl | rfl | rfl
  · exact h1
  · exact h2
  · exact h3
  · exact h4
set_option maxRecDepth 100000 in
set_option maxHeartbeats 8000000 in
theorem wLater_any {w : World} {l : Line} {u : Value} {d : Int} (hl : IsLine w l u) (O : Ok l) (hd0 : 0 ≤ d) (hd1 : d ≤ 1000) :
    Calls Try.prog 62 #[u, .int .i64 d] w fun e w' => ∃ v0 v2 vl, e = .returned (.agg #[v0, .int .i64 l.gap, v2]) ∧ OwnA w.heap.size w' (laterL l d) v0 v2 vl ∧ Ext w w' := by
  obtain ⟨A0, c0, A2, c2, rfl, h0, h2⟩ := hl
  have H0 := Lib.hid h0
  have H2 := Lib.hid h2
  clear h0 h2
  go_enter Try.func62, Try.ntmps62
  have hS := Lp.start2 w #[.slice A0 l.tracks.length c0, .int .i64 l.gap, .slice A2 l.trains.length c2] #[.slice none 0 0, .int .i64 0, .slice none 0 0] 33 33
  have n12 := O.bd.tracks
  go_upto_region 1 with fail
  have sz2 : ((w.alloc (.cells #[.slice A0 l.tracks.length c0, .int .i64 l.gap, .slice A2 l.trains.length c2] 33)).alloc (.cells #[.slice none 0 0, .int .i64 0, .slice none 0 0] 33)).heap.size = w.heap.size + 2 := by rw [alloc_size, alloc_size]
  generalize (w.alloc (.cells #[.slice A0 l.tracks.length c0, .int .i64 l.gap, .slice A2 l.trains.length c2] 33)).alloc (.cells #[.slice none 0 0, .int .i64 0, .slice none 0 0] 33) = w2 at hS sz2 ⊢
  go_cut [5] (fun s wx => ∃ g5 gT cap, s = .pointer (some ⟨g5, 0, none⟩) ∧ w.heap.size + 2 ≤ g5 ∧ wx.ownsRow (w.heap.size + 2) 3 1 (.slice (some ⟨gT, 0, none⟩) l.tracks.length cap) l.tracks.length (nums l.tracks) ∧ Lp w wx [(g5, #[.slice (some ⟨gT, 0, none⟩) l.tracks.length cap, .int .i64 l.gap, .slice none 0 0], 33), (w.heap.size + 1, #[.slice none 0 0, .int .i64 0, .slice none 0 0], 33), (w.heap.size, #[.slice A0 l.tracks.length c0, .int .i64 l.gap, .slice A2 l.trains.length c2], 33)])
  case first =>
    have LP := hS.drew
    have szd : w.heap.size + 2 ≤ w2.drew.heap.size := Nat.le_of_eq sz2.symm
    clear hS sz2
    refine wp_region_held_drew (S := Cells3 w.heap.size (.slice A0 l.tracks.length c0) (.int .i64 l.gap) (.slice A2 l.trains.length c2)) (by kernel_rfl) (lp_c3 LP (by simp)) (fun hS0 => ?_)
    generalize w2.drew = wd at LP szd hS0 ⊢
    refine wpAnyH_take (i := 1) (oi := _) (v := ?_) rfl (by kernel_rfl) (by kernel_rfl) (by kernel_rfl) (fun _ _ _ h => h) (Or.inl ⟨by rfl, ?_⟩) (by assumption) ?_
    rotate_left 1
    · intro w hSw
      obtain ⟨hs1, hs2, hs3, hs4⟩ := hSw
      go_simp
      try with_reducible rfl
    try simp only [Act.put, List.setIfInBounds_toArray, List.set_cons_zero, List.set_cons_succ]
    refine wpAnyH_take (i := 2) (oi := _) (v := ?_) rfl (by kernel_rfl) (by kernel_rfl) (by kernel_rfl) (fun _ _ _ h => h) (Or.inl ⟨by rfl, ?_⟩) (by assumption) ?_
    rotate_left 1
    · intro w hSw
      obtain ⟨hs1, hs2, hs3, hs4⟩ := hSw
      go_simp
      try with_reducible rfl
    try simp only [Act.put, List.setIfInBounds_toArray, List.set_cons_zero, List.set_cons_succ]
    refine wpAnyH_take (i := 4) (oi := _) (v := ?_) rfl (by kernel_rfl) (by kernel_rfl) (by kernel_rfl) (fun _ _ _ h => h) (Or.inl ⟨by rfl, ?_⟩) (by assumption) ?_
    rotate_left 1
    · intro w hSw
      obtain ⟨hs1, hs2, hs3, hs4⟩ := hSw
      go_simp
      try with_reducible rfl
    try simp only [Act.put, List.setIfInBounds_toArray, List.set_cons_zero, List.set_cons_succ]
    refine wpAnyH_take (i := 5) (oi := _) (v := ?_) rfl (by kernel_rfl) (by kernel_rfl) (by kernel_rfl) (fun _ _ _ h => h) (Or.inl ⟨by rfl, ?_⟩) (by assumption) ?_
    rotate_left 1
    · intro w hSw
      obtain ⟨hs1, hs2, hs3, hs4⟩ := hSw
      go_simp
      try with_reducible rfl
    try simp only [Act.put, List.setIfInBounds_toArray, List.set_cons_zero, List.set_cons_succ]
    refine wpAnyH_ready (rs := [0, 7]) (by kernel_rfl) (by simp) ?_
    refine AllReadyH.cons rfl (fun K hK => ?_) ?_
    · go_simp
      have LP := LP.alloc (.cells #[] 3)
      have bE := box_new wd (.cells #[] 3)
      have szE : w.heap.size + 2 ≤ (wd.alloc (.cells #[] 3)).heap.size := by rw [alloc_size]; omega
      obtain ⟨hE, hhE⟩ : ∃ h, h = wd.heap.size := ⟨_, rfl⟩
      have hloE : w.heap.size + 2 ≤ hE := by omega
      rw [← hhE] at bE ⊢
      clear hhE
      generalize wd.alloc (.cells #[] 3) = WE at LP bE szE ⊢
      refine hK.out _ _ (lp_c3 LP (by simp)) (fun _ => ?_)
      clear hK K
      refine wpAnyH_ready (rs := [3, 7]) (by kernel_rfl) (by simp) ?_
      refine AllReadyH.cons rfl (fun K hK => ?_) ?_
      · refine copy_step rfl (.tmp 9) (.tmp 11) rfl hE rfl bE A0 c0 l.tracks rfl (H0.out.ext LP.ext) (by omega) ?_
        intro g cap wb hown hgb hgle hglt
        have LP := LP.grown hgb (fun k hk => by simp only [Option.some.injEq] at hk; subst hk; exact ⟨by omega, far2 (by omega) (by omega)⟩)
        have szP : w.heap.size + 2 ≤ wb.heap.size := by have := hgb.size; omega
        have hown := ownsRow_mono hown hloE
        refine hK.out _ _ (lp_c3 LP (by simp)) (fun _ => ?_)
        clear hK K
        refine wpAnyH_take (i := 6) (oi := _) (v := ?_) rfl (by kernel_rfl) (by kernel_rfl) (by kernel_rfl) (fun _ _ _ h => h) (Or.inl ⟨by rfl, ?_⟩) (by assumption) ?_
        rotate_left 1
        · intro w hSw
          obtain ⟨hs1, hs2, hs3, hs4⟩ := hSw
          go_simp
          try with_reducible rfl
        try simp only [Act.put, List.setIfInBounds_toArray, List.set_cons_zero, List.set_cons_succ]
        refine wpAnyH_ready (rs := [7]) (by kernel_rfl) (by simp) ?_
        refine AllReadyH.cons rfl (fun K hK => ?_) AllReadyH.nil
        go_simp
        have LP := LP.alloc (.cells #[.slice none 0 0, .int .i64 0, .slice none 0 0] 33)
        have bL := box_new wb (.cells #[.slice none 0 0, .int .i64 0, .slice none 0 0] 33)
        have szL : w.heap.size + 2 ≤ (wb.alloc (.cells #[.slice none 0 0, .int .i64 0, .slice none 0 0] 33)).heap.size := by rw [alloc_size]; omega
        have hneT : wb.heap.size ≠ g := by have := (hown.lt g rfl).2; omega
        have hown := hown.alloc (.cells #[.slice none 0 0, .int .i64 0, .slice none 0 0] 33)
        obtain ⟨g5, hg5⟩ : ∃ h, h = wb.heap.size := ⟨_, rfl⟩
        have hlo5 : w.heap.size + 2 ≤ g5 := by omega
        rw [← hg5] at bL hneT ⊢
        clear hg5
        generalize wb.alloc (.cells #[.slice none 0 0, .int .i64 0, .slice none 0 0] 33) = WL at LP bL szL hown ⊢
        refine hK.out _ _ (lp_c3 LP (by simp)) (fun _ => ?_)
        clear hK K
        refine wpAnyH_ready (rs := [8]) (by kernel_rfl) (by simp) ?_
        refine AllReadyH.cons rfl (fun K hK => ?_) AllReadyH.nil
        have e50 := box_cell bL 0
        have e51 := box_cell bL 1
        have e52 := box_cell bL 2
        have e5f := box_frozen bL
        have e5l := box_lt bL
        have LP := (((LP.add bL).set (by omega) (far2 (by omega) (by omega)) 0 (.slice (some ⟨g, 0, none⟩) l.tracks.length cap)).set (by omega) (far2 (by omega) (by omega)) 1 (.int .i64 l.gap)).set (by omega) (far2 (by omega) (by omega)) 2 (.slice none 0 0)
        have hown := ownsRow_set_far (ownsRow_set_far (ownsRow_set_far hown (g := g5) (fun e => hneT (by simpa [Value.ownBlock] using e.symm)) 0 (.slice (some ⟨g, 0, none⟩) l.tracks.length cap)) (g := g5) (fun e => hneT (by simpa [Value.ownBlock] using e.symm)) 1 (.int .i64 l.gap)) (g := g5) (fun e => hneT (by simpa [Value.ownBlock] using e.symm)) 2 (.slice none 0 0)
        go_simp
        refine hK.out _ _ (lp_c3 LP (by simp)) (fun _ => ?_)
        clear hK K
        refine wpAnyH_done (by kernel_rfl) ?_ _
        go_wp2_with fail
        go_meet
        exact ⟨g5, g, cap, rfl, hlo5, hown, LP⟩
      refine AllReadyH.cons rfl (fun K hK => ?_) AllReadyH.nil
      go_simp
      have LP := LP.alloc (.cells #[.slice none 0 0, .int .i64 0, .slice none 0 0] 33)
      have bL := box_new WE (.cells #[.slice none 0 0, .int .i64 0, .slice none 0 0] 33)
      have szL : w.heap.size + 2 ≤ (WE.alloc (.cells #[.slice none 0 0, .int .i64 0, .slice none 0 0] 33)).heap.size := by rw [alloc_size]; omega
      have hlE := box_lt bE
      have bE := box_old bE (.cells #[.slice none 0 0, .int .i64 0, .slice none 0 0] 33)
      obtain ⟨g5, hg5⟩ : ∃ h, h = WE.heap.size := ⟨_, rfl⟩
      have hlo5 : w.heap.size + 2 ≤ g5 := by omega
      rw [← hg5] at bL ⊢
      have hEL : hE ≠ g5 := by omega
      clear hg5
      generalize WE.alloc (.cells #[.slice none 0 0, .int .i64 0, .slice none 0 0] 33) = WL at LP bL szL bE ⊢
      refine hK.out _ _ (lp_c3 LP (by simp)) (fun _ => ?_)
      clear hK K
      refine wpAnyH_ready (rs := [3]) (by kernel_rfl) (by simp) ?_
      refine AllReadyH.cons rfl (fun K hK => ?_) AllReadyH.nil
      refine copy_step rfl (.tmp 9) (.tmp 11) rfl hE rfl bE A0 c0 l.tracks rfl (H0.out.ext LP.ext) (by omega) ?_
      intro g cap wb hown hgb hgle hglt
      have LP := LP.grown hgb (fun k hk => by simp only [Option.some.injEq] at hk; subst hk; exact ⟨by omega, far2 (by omega) (by omega)⟩)
      have szP : w.heap.size + 2 ≤ wb.heap.size := by have := hgb.size; omega
      have hown := ownsRow_mono hown hloE
      have bP0 := bL
      have bL := (hgb.block g5 (box_lt bL) (fun e => hEL (by simpa using e.symm))).trans bL
      have hneT : g5 ≠ g := own_ne hown bL (by decide) (ownBlock_slice _ _ _)
      refine hK.out _ _ (lp_c3 LP (by simp)) (fun _ => ?_)
      clear hK K
      refine wpAnyH_take (i := 6) (oi := _) (v := ?_) rfl (by kernel_rfl) (by kernel_rfl) (by kernel_rfl) (fun _ _ _ h => h) (Or.inl ⟨by rfl, ?_⟩) (by assumption) ?_
      rotate_left 1
      · intro w hSw
        obtain ⟨hs1, hs2, hs3, hs4⟩ := hSw
        go_simp
        try with_reducible rfl
      try simp only [Act.put, List.setIfInBounds_toArray, List.set_cons_zero, List.set_cons_succ]
      refine wpAnyH_ready (rs := [8]) (by kernel_rfl) (by simp) ?_
      refine AllReadyH.cons rfl (fun K hK => ?_) AllReadyH.nil
      have e50 := box_cell bL 0
      have e51 := box_cell bL 1
      have e52 := box_cell bL 2
      have e5f := box_frozen bL
      have e5l := box_lt bL
      have LP := (((LP.add bL).set (by omega) (far2 (by omega) (by omega)) 0 (.slice (some ⟨g, 0, none⟩) l.tracks.length cap)).set (by omega) (far2 (by omega) (by omega)) 1 (.int .i64 l.gap)).set (by omega) (far2 (by omega) (by omega)) 2 (.slice none 0 0)
      have hown := ownsRow_set_far (ownsRow_set_far (ownsRow_set_far hown (g := g5) (fun e => hneT (by simpa [Value.ownBlock] using e.symm)) 0 (.slice (some ⟨g, 0, none⟩) l.tracks.length cap)) (g := g5) (fun e => hneT (by simpa [Value.ownBlock] using e.symm)) 1 (.int .i64 l.gap)) (g := g5) (fun e => hneT (by simpa [Value.ownBlock] using e.symm)) 2 (.slice none 0 0)
      go_simp
      refine hK.out _ _ (lp_c3 LP (by simp)) (fun _ => ?_)
      clear hK K
      refine wpAnyH_done (by kernel_rfl) ?_ _
      go_wp2_with fail
      go_meet
      exact ⟨g5, g, cap, rfl, hlo5, hown, LP⟩
    refine AllReadyH.cons rfl (fun K hK => ?_) AllReadyH.nil
    go_simp
    have LP := LP.alloc (.cells #[.slice none 0 0, .int .i64 0, .slice none 0 0] 33)
    have bL := box_new wd (.cells #[.slice none 0 0, .int .i64 0, .slice none 0 0] 33)
    have szL : w.heap.size + 2 ≤ (wd.alloc (.cells #[.slice none 0 0, .int .i64 0, .slice none 0 0] 33)).heap.size := by rw [alloc_size]; omega
    obtain ⟨g5, hg5⟩ : ∃ h, h = wd.heap.size := ⟨_, rfl⟩
    have hlo5 : w.heap.size + 2 ≤ g5 := by omega
    rw [← hg5] at bL ⊢
    clear hg5
    generalize wd.alloc (.cells #[.slice none 0 0, .int .i64 0, .slice none 0 0] 33) = WL at LP bL szL ⊢
    refine hK.out _ _ (lp_c3 LP (by simp)) (fun _ => ?_)
    clear hK K
    refine wpAnyH_ready (rs := [0]) (by kernel_rfl) (by simp) ?_
    refine AllReadyH.cons rfl (fun K hK => ?_) AllReadyH.nil
    go_simp
    have LP := LP.alloc (.cells #[] 3)
    have bE := box_new WL (.cells #[] 3)
    have szE : w.heap.size + 2 ≤ (WL.alloc (.cells #[] 3)).heap.size := by rw [alloc_size]; omega
    have hl5 := box_lt bL
    have bL := box_old bL (.cells #[] 3)
    obtain ⟨hE, hhE⟩ : ∃ h, h = WL.heap.size := ⟨_, rfl⟩
    have hloE : w.heap.size + 2 ≤ hE := by omega
    rw [← hhE] at bE ⊢
    have hEL : hE ≠ g5 := by omega
    clear hhE
    generalize WL.alloc (.cells #[] 3) = WE at LP bE szE bL ⊢
    refine hK.out _ _ (lp_c3 LP (by simp)) (fun _ => ?_)
    clear hK K
    refine wpAnyH_ready (rs := [3]) (by kernel_rfl) (by simp) ?_
    refine AllReadyH.cons rfl (fun K hK => ?_) AllReadyH.nil
    refine copy_step rfl (.tmp 9) (.tmp 11) rfl hE rfl bE A0 c0 l.tracks rfl (H0.out.ext LP.ext) (by omega) ?_
    intro g cap wb hown hgb hgle hglt
    have LP := LP.grown hgb (fun k hk => by simp only [Option.some.injEq] at hk; subst hk; exact ⟨by omega, far2 (by omega) (by omega)⟩)
    have szP : w.heap.size + 2 ≤ wb.heap.size := by have := hgb.size; omega
    have hown := ownsRow_mono hown hloE
    have bP0 := bL
    have bL := (hgb.block g5 (box_lt bL) (fun e => hEL (by simpa using e.symm))).trans bL
    have hneT : g5 ≠ g := own_ne hown bL (by decide) (ownBlock_slice _ _ _)
    refine hK.out _ _ (lp_c3 LP (by simp)) (fun _ => ?_)
    clear hK K
    refine wpAnyH_take (i := 6) (oi := _) (v := ?_) rfl (by kernel_rfl) (by kernel_rfl) (by kernel_rfl) (fun _ _ _ h => h) (Or.inl ⟨by rfl, ?_⟩) (by assumption) ?_
    rotate_left 1
    · intro w hSw
      obtain ⟨hs1, hs2, hs3, hs4⟩ := hSw
      go_simp
      try with_reducible rfl
    try simp only [Act.put, List.setIfInBounds_toArray, List.set_cons_zero, List.set_cons_succ]
    refine wpAnyH_ready (rs := [8]) (by kernel_rfl) (by simp) ?_
    refine AllReadyH.cons rfl (fun K hK => ?_) AllReadyH.nil
    have e50 := box_cell bL 0
    have e51 := box_cell bL 1
    have e52 := box_cell bL 2
    have e5f := box_frozen bL
    have e5l := box_lt bL
    have LP := (((LP.add bL).set (by omega) (far2 (by omega) (by omega)) 0 (.slice (some ⟨g, 0, none⟩) l.tracks.length cap)).set (by omega) (far2 (by omega) (by omega)) 1 (.int .i64 l.gap)).set (by omega) (far2 (by omega) (by omega)) 2 (.slice none 0 0)
    have hown := ownsRow_set_far (ownsRow_set_far (ownsRow_set_far hown (g := g5) (fun e => hneT (by simpa [Value.ownBlock] using e.symm)) 0 (.slice (some ⟨g, 0, none⟩) l.tracks.length cap)) (g := g5) (fun e => hneT (by simpa [Value.ownBlock] using e.symm)) 1 (.int .i64 l.gap)) (g := g5) (fun e => hneT (by simpa [Value.ownBlock] using e.symm)) 2 (.slice none 0 0)
    go_simp
    refine hK.out _ _ (lp_c3 LP (by simp)) (fun _ => ?_)
    clear hK K
    refine wpAnyH_done (by kernel_rfl) ?_ _
    go_wp2_with fail
    go_meet
    exact ⟨g5, g, cap, rfl, hlo5, hown, LP⟩
  case rest =>
    obtain ⟨g5, gT, cT, rfl, hg5, hown, hS1⟩ := hcut
    have HO := Lib.hid O
    have HBd := Lib.hid O.bd
    have n5 := O.ntr
    have HOT := Lib.hid hown
    have hWX : Ext w wc := hS1.ext
    obtain ⟨m1, m2⟩ := hS1.at_ (g := w.heap.size) (cs := #[.slice A0 l.tracks.length c0, .int .i64 l.gap, .slice A2 l.trains.length c2]) (t := 33) (by simp)
    have cb2 := m1 2
    clear hown hS sz2 m1 O
    go_wp2_with fail
    clear cb2 m2
    go_loopw [19] (fun j wr => ∃ (jj : Nat) (ts : List Train) (v2 : Value) (vl : Nat → Value), jj ≤ l.trains.length ∧ j = .int .i64 jj ∧ Hid (ts.length = jj) ∧ Hid ((l.trains.take jj).map (laterT d) = ts) ∧ Hid (TrI wr (w.heap.size + 2) ts v2 vl) ∧ Hid (ApL jj vl) ∧ Hid (wr.ownsRow (w.heap.size + 2) 3 1 (.slice (some ⟨gT, 0, none⟩) l.tracks.length cT) l.tracks.length (nums l.tracks)) ∧ Lp w wr [(g5, #[.slice (some ⟨gT, 0, none⟩) l.tracks.length cT, .int .i64 l.gap, v2], 33), (w.heap.size + 1, #[.slice none 0 0, .int .i64 0, .slice none 0 0], 33), (w.heap.size, #[.slice A0 l.tracks.length c0, .int .i64 l.gap, .slice A2 l.trains.length c2], 33)]) (fun j _ => l.trains.length - (intOf j).toNat)
    case atStart => exact ⟨0, [], .slice none 0 0, fun _ => .slice none 0 0, Nat.zero_le _, rfl, rfl, rfl, TrI.nil _ _ _, fun i k g hi => by omega, HOT.out, hS1⟩
    case round =>
      clear hS1 HOT
      obtain ⟨jj, ts, v2, vl, hjj, rfl, HTL, HTS, HTr, HAp, HOT, hS1⟩ := hrel
      obtain ⟨_, A2', c2', hv2, _⟩ : ∃ (_ : True) (A2' : Option Addr) (c2' : Nat), v2 = .slice A2' jj c2' ∧ True := by obtain ⟨A2', c2', h1, h2⟩ := HTr.out.rd; rw [HTL.out] at h1; exact ⟨trivial, A2', c2', h1, trivial⟩
      subst hv2
      by_cases hlt : jj < l.trains.length
      · obtain ⟨b2, o2, rfl, hb2⟩ := H2.out.base hlt
        obtain ⟨e0, e1, e2, e3, A4, c4, e4, hR⟩ := H2.out.at_ (Line.tr_at hlt)
        have HR := Lib.hid hR
        obtain ⟨nl1, nl10⟩ := HBd.out.nl1 jj hlt
        have t1 := (HO.out.train jj _ (Line.tr_at hlt)).ready0
        have t2 := (HO.out.train jj _ (Line.tr_at hlt)).ready1
        have t3 := (HO.out.train jj _ (Line.tr_at hlt)).due0
        have t4 := (HO.out.train jj _ (Line.tr_at hlt)).due1
        have hX1 := hS1.ext
        obtain ⟨x1, x2⟩ := hX1.cells
        have f0 := (x1 b2 (o2 + jj * 5) hb2).trans e0
        have f1 := (x1 b2 (o2 + jj * 5 + 1) hb2).trans e1
        have f2 := (x1 b2 (o2 + jj * 5 + 2) hb2).trans e2
        have f3 := (x1 b2 (o2 + jj * 5 + 3) hb2).trans e3
        have f4 := (x1 b2 (o2 + jj * 5 + 4) hb2).trans e4
        have hbr := hX1.up b2 hb2
        have hTS2 : (l.trains.take (jj + 1)).map (laterT d) = ts ++ [laterT d (l.tr jj)] := by
          rw [List.take_add_one, List.map_append, HTS.out, Line.tr_at hlt]; rfl
        obtain ⟨T, hT⟩ : ∃ T, Hid (l.tr jj = T) := ⟨_, rfl⟩
        rw [hT.out] at f0 f1 f2 f3 f4 HR t1 t2 t3 t4 nl1 nl10 hTS2
        have HTS2 := Lib.hid hTS2
        obtain ⟨wq, rfl⟩ : ∃ wq, wq = wr := ⟨_, rfl⟩
        have hg5q : g5 < wq.heap.size := box_lt (hS1.box (g5, #[.slice (some ⟨gT, 0, none⟩) l.tracks.length cT, .int .i64 l.gap, .slice A2' jj c2'], 33) (by simp))
        have hwq : w.heap.size + 2 ≤ wq.heap.size := by omega
        have hS3 := (hS1.newAt (g := wq.heap.size) #[.int .i64 T.frm, .int .i64 T.ready, .int .i64 T.due, .int .i64 T.weight, .slice A4 T.legs.length c4] 80 rfl).newAt (g := wq.heap.size + 1) #[.int .i64 T.frm, .int .i64 T.ready, .int .i64 T.due, .int .i64 T.weight, .slice A4 T.legs.length c4] 80 (by rw [alloc_size])
        clear e0 e1 e2 e3 e4 hR x1 x2 hTS2 hX1
        go_upto_region 6 with fail
        have hE6 : Ext wq ((wq.alloc (.cells #[.int .i64 T.frm, .int .i64 T.ready, .int .i64 T.due, .int .i64 T.weight, .slice A4 T.legs.length c4] 80)).alloc (.cells #[.int .i64 T.frm, .int .i64 T.ready, .int .i64 T.due, .int .i64 T.weight, .slice A4 T.legs.length c4] 80)) := (by repeat (first | (with_reducible assumption) | (with_reducible exact Ext.refl _) | apply Ext.alloc | apply Ext.drewN | apply Ext.drew))
        generalize (wq.alloc (.cells #[.int .i64 T.frm, .int .i64 T.ready, .int .i64 T.due, .int .i64 T.weight, .slice A4 T.legs.length c4] 80)).alloc (.cells #[.int .i64 T.frm, .int .i64 T.ready, .int .i64 T.due, .int .i64 T.weight, .slice A4 T.legs.length c4] 80) = w6 at hS3 hE6 ⊢
        clear f0 f1 f2 f3 f4 hbr
        obtain ⟨z1, z2⟩ := hS3.at_ (g := wq.heap.size + 1) (cs := #[.int .i64 T.frm, .int .i64 T.ready, .int .i64 T.due, .int .i64 T.weight, .slice A4 T.legs.length c4]) (t := 80) (by simp)
        have zf := box_frozen (hS3.box (wq.heap.size + 1, #[.int .i64 T.frm, .int .i64 T.ready, .int .i64 T.due, .int .i64 T.weight, .slice A4 T.legs.length c4], 80) (by simp))
        have y1 := z1 1
        have y2 := z1 2
        have hw1 : IntKind.i64.wrap (T.ready + d) = T.ready + d := IntWalk.i64_in _ (by omega)
        have hw2 : IntKind.i64.wrap (T.due + d) = T.due + d := IntWalk.i64_in _ (by omega)
        have HTr6 := Lib.hid (HTr.out.ext hE6)
        have HOT6 := Lib.hid (ownsRow_ext HOT.out hE6)
        have HTlt := Lib.hid HTr.out.lt
        have HOlt := Lib.hid (fun q hq => World.ownsRow.lt HOT.out q hq)
        have hS7 := (hS3.set (by omega) (far4' (by omega) (by omega) (by omega) (by omega)) 1 (.int .i64 (T.ready + d))).set (by omega) (far4' (by omega) (by omega) (by omega) (by omega)) 2 (.int .i64 (T.due + d))
        have hC7 : Chg (fun g => g = wq.heap.size + 1) w6 ((w6.setCell ⟨wq.heap.size + 1, 1, none⟩ (.int .i64 (T.ready + d))).setCell ⟨wq.heap.size + 1, 2, none⟩ (.int .i64 (T.due + d))) := ((Chg.of_ext (S := fun g => g = wq.heap.size + 1) (Ext.refl w6)).setCell (g := wq.heap.size + 1) (Or.inl rfl) 1 (.int .i64 (T.ready + d))).setCell (g := wq.heap.size + 1) (Or.inl rfl) 2 (.int .i64 (T.due + d))
        clear z1 HTr HOT hS3
        go_upto_region 8 with fail
        generalize (w6.setCell ⟨wq.heap.size + 1, 1, none⟩ (.int .i64 (T.ready + d))).setCell ⟨wq.heap.size + 1, 2, none⟩ (.int .i64 (T.due + d)) = w7 at hS7 hC7 ⊢
        clear y1 y2 z2 zf
        have hlt7 : wq.heap.size + 1 < w7.heap.size := box_lt (hS7.box _ (List.mem_cons_self ..))
        obtain ⟨v1, v2⟩ := hS7.at_ (g := wq.heap.size) (cs := #[.int .i64 T.frm, .int .i64 T.ready, .int .i64 T.due, .int .i64 T.weight, .slice A4 T.legs.length c4]) (t := 80) (by simp)
        have y4 := v1 4
        have HTr7 := Lib.hid (HTr6.out.above (w0 := wq) (fun q hq => (HTlt.out.1 q hq).2) (fun i q hi hq => (HTlt.out.2 i q hi hq).2) hC7 (fun g e => Or.inr (by omega)))
        have HOT7 := Lib.hid (ownsRow_keep HOT6.out hC7 (fun q hq e => by have := (HOlt.out q hq).2; omega))
        have HR7 : Hid (RdLeg w7 A4 T.legs) := HR.out.ext hS7.ext
        clear HTr6 HOT6 hC7 hE6 v1 hw1 hw2
        go_wp2_with (at_builtin; refine legs_copy rfl _ _ rfl w7.heap.size rfl (box_new _ _) A4 c4 T.legs rfl (HR7.out.ext ((Ext.refl w7).alloc _)) (by omega) (by omega) ?_)
        intro g cap w8 hown hgrow hge hlt8
        have hS8 := (hS7.alloc (.cells #[] 84)).grown hgrow (fun k hk => by simp only [Option.some.injEq] at hk; subst hk; exact ⟨by omega, fun x hx => by have := box_lt (hS7.box x hx); omega⟩)
        have HTr8 := Lib.hid ((HTr7.out.ext ((Ext.refl w7).alloc (.cells #[] 84))).above (w0 := wq) (fun q hq => (HTlt.out.1 q hq).2) (fun i q hi hq => (HTlt.out.2 i q hi hq).2) ((Chg.of_ext (S := fun g => g = w7.heap.size) (Ext.refl _)).grown hgrow (fun k hk => Or.inl (by simpa using hk.symm))) (fun g e => Or.inr (by omega)))
        have HOT8 := Lib.hid (World.ownsRow.kept (HOT7.out.alloc (.cells #[] 84)) hgrow (Or.inr (fun e => by have := HOlt.out gT rfl; simp only [ownBlock_slice, Option.some.injEq] at e; omega)))
        have HOW8 := Lib.hid hown
        obtain ⟨u1, u2⟩ := hS8.at_ (g := wq.heap.size + 1) (cs := _) (t := 80) (List.mem_cons_self ..)
        have u4 : w8.cell? ⟨wq.heap.size + 1, 4, none⟩ = some (.slice A4 T.legs.length c4) := u1 4
        have uf : w8.frozen? ⟨wq.heap.size + 1, 4, none⟩ = false := box_frozen (hS8.box _ (List.mem_cons_self ..)) 4
        have hS9 := hS8.set (by omega) (far4' (by omega) (by omega) (by omega) (by omega)) 4 (.slice (some ⟨g, 0, none⟩) T.legs.length cap)
        have hC9 : Chg (fun g => g = wq.heap.size + 1) w8 (w8.setCell ⟨wq.heap.size + 1, 4, none⟩ (.slice (some ⟨g, 0, none⟩) T.legs.length cap)) := (Chg.of_ext (S := fun g => g = wq.heap.size + 1) (Ext.refl w8)).setCell (g := wq.heap.size + 1) (Or.inl rfl) 4 (.slice (some ⟨g, 0, none⟩) T.legs.length cap)
        have HOW9 := Lib.hid (ownsRow_set_far (g := wq.heap.size + 1) HOW8.out (by rw [ownBlock_slice]; simp only [ne_eq, Option.some.injEq]; omega) 4 (.slice (some ⟨g, 0, none⟩) T.legs.length cap))
        clear u1 hown hgrow HTr7 HOT7 HOW8 y4 v2
        go_upto_region 9 with fail
        generalize w8.setCell ⟨wq.heap.size + 1, 4, none⟩ (.slice (some ⟨g, 0, none⟩) T.legs.length cap) = w9 at hS9 hC9 HOW9 ⊢
        have HTr9 := Lib.hid (HTr8.out.above (w0 := wq) (fun q hq => (HTlt.out.1 q hq).2) (fun i q hi hq => (HTlt.out.2 i q hi hq).2) hC9 (fun g e => Or.inr (by omega)))
        have HOT9 := Lib.hid (ownsRow_keep HOT8.out hC9 (fun q hq e => by have := (HOlt.out q hq).2; omega))
        have hB9 : w9.heap[wq.heap.size + 1]? = some (.cells #[.int .i64 T.frm, .int .i64 (T.ready + d), .int .i64 (T.due + d), .int .i64 T.weight, .slice (some ⟨g, 0, none⟩) T.legs.length cap] 80 (0, 0)) := hS9.box _ (List.mem_cons_self ..)
        have r0 := box_cell hB9 0
        have r1 := box_cell hB9 1
        have r2 := box_cell hB9 2
        have r3 := box_cell hB9 3
        have r4 := box_cell hB9 4
        have rl := box_lt hB9
        have hB5 := hS9.box (g5, #[.slice (some ⟨gT, 0, none⟩) l.tracks.length cT, .int .i64 l.gap, .slice A2' jj c2'], 33) (by simp)
        have q2 := box_cell hB5 2
        have ql := box_lt hB5
        have hOw9 : w9.ownsRow (w.heap.size + 2) 80 5 (.slice A2' jj c2') jj (trRows ts vl).flatten := by have h := HTr9.out.own; rw [HTL.out] at h; exact h
        have HOw9 := Lib.hid hOw9
        have HB9 := Lib.hid hB9
        have HB5 := Lib.hid hB5
        have hN : jj ≤ 1000000 := by omega
        clear hC9 HTr8 HOT8 u4 uf u2 hOw9 hB9 hB5 hS8 hS7
        go_wp2_with (at_builtin; refine app_any rfl _ _ 31 rfl (w.heap.size + 2) 80 5 56 _ Try.underlying31 info80 rfl (by decide) _ _ _ rfl (HOw9.out.alloc _) (by rw [alloc_size]; omega) _ _ #[.int .i64 T.frm, .int .i64 (T.ready + d), .int .i64 (T.due + d), .int .i64 T.weight, .slice (some ⟨g, 0, none⟩) T.legs.length cap] _ rfl (box_new _ _) rfl (tr_one _ _ _ _ _ _ _) hN (by decide) _ rfl ?_)
        intro g' cap' w10 hown hgrow hg hlt10
        have hblk : ∀ q, (Value.slice A2' jj c2').ownBlock = some q → w.heap.size + 2 ≤ q ∧ q < wq.heap.size := fun q hq => HTlt.out.1 q hq
        have hS10 := (((hS9.alloc (.cells #[.int .i64 T.frm, .int .i64 (T.ready + d), .int .i64 (T.due + d), .int .i64 T.weight, .slice (some ⟨g, 0, none⟩) T.legs.length cap] 80)).grown hgrow (fun q hq => ⟨by have := hblk q hq; omega, fun x hx => by
          have h1 := hblk q hq
          simp only [List.mem_cons, List.not_mem_nil, or_false] at hx
          rcases hx with rfl | rfl | rfl | rfl | rfl
          · simp only []; omega
          · simp only []; omega
          · exact own_ne HOw9.out HB5.out (by decide) hq
          · simp only []; omega
          · simp only []; omega⟩)).tail).tail
        have hT10 : TrI w10 (w.heap.size + 2) (ts ++ [laterT d T]) (.slice (some ⟨g', 0, none⟩) (jj + 1) cap') (upd vl ts.length (.slice (some ⟨g, 0, none⟩) T.legs.length cap)) := HTr9.out.step (t := laterT d T) (B' := w7.heap.size) HOW9.out (fun q h1 h2 => by have := hblk q h2; rw [ownBlock_slice] at h1; simp only [Option.some.injEq] at h1; omega) (by omega) HTL.out.symm hgrow hown (hg.imp id (fun h => by rw [alloc_size]; exact h))
        have HT10 := Lib.hid hT10
        have hA10 : Hid (ApL (jj + 1) (upd vl ts.length (.slice (some ⟨g, 0, none⟩) T.legs.length cap))) := by
          intro i k q hi hk hne h1 h2
          have htl := HTL.out
          unfold upd at h1 h2
          by_cases ei : i = ts.length
          · rw [if_pos ei, ownBlock_slice] at h1
            rw [if_neg (by omega)] at h2
            have := HTlt.out.2 k q (by omega) h2
            simp only [Option.some.injEq] at h1
            omega
          · rw [if_neg ei] at h1
            by_cases ek : k = ts.length
            · rw [if_pos ek, ownBlock_slice] at h2
              have := HTlt.out.2 i q (by omega) h1
              simp only [Option.some.injEq] at h2
              omega
            · rw [if_neg ek] at h2
              exact HAp.out i k q (by omega) (by omega) hne h1 h2
        have HO10 := Lib.hid (World.ownsRow.kept (HOT9.out.alloc (.cells #[.int .i64 T.frm, .int .i64 (T.ready + d), .int .i64 (T.due + d), .int .i64 T.weight, .slice (some ⟨g, 0, none⟩) T.legs.length cap] 80)) hgrow (by
          cases hk : (Value.slice A2' jj c2').ownBlock with
          | none => rw [ownBlock_slice]; exact Or.inr (by simp)
          | some q =>
            obtain ⟨cur, hc⟩ := own_box HOw9.out hk
            exact Or.inr (fun e => own_ne HOT9.out hc (by decide) e rfl)))
        have hB10 : w10.heap[g5]? = some (.cells #[.slice (some ⟨gT, 0, none⟩) l.tracks.length cT, .int .i64 l.gap, .slice A2' jj c2'] 33 (0, 0)) := hS10.box (g5, #[.slice (some ⟨gT, 0, none⟩) l.tracks.length cT, .int .i64 l.gap, .slice A2' jj c2'], 33) (by simp)
        have d2 := box_cell hB10 2
        have df := box_frozen hB10 2
        have dl := box_lt hB10
        have hgg : g' ≠ g5 := by
          obtain ⟨cur, hc⟩ := own_box HT10.out.own rfl
          intro e
          subst e
          rw [hB10] at hc
          simp only [Option.some.injEq, Obj.cells.injEq] at hc
          exact absurd hc.2.1 (by decide)
        have hS11 := hS10.set (by omega) (far2 (by omega) (by omega)) 2 (.slice (some ⟨g', 0, none⟩) (jj + 1) cap')
        have hC11 : Chg (fun g => g = g5) w10 (w10.setCell ⟨g5, 2, none⟩ (.slice (some ⟨g', 0, none⟩) (jj + 1) cap')) := (Chg.of_ext (S := fun g => g = g5) (Ext.refl w10)).setCell (g := g5) (Or.inl rfl) 2 (.slice (some ⟨g', 0, none⟩) (jj + 1) cap')
        have HO11 := Lib.hid (ownsRow_keep HO10.out hC11 (fun q hq e => own_ne HO10.out hB10 (by decide) hq e.symm))
        have HT11 : Hid (TrI (w10.setCell ⟨g5, 2, none⟩ (.slice (some ⟨g', 0, none⟩) (jj + 1) cap')) (w.heap.size + 2) (ts ++ [laterT d T]) (.slice (some ⟨g', 0, none⟩) (jj + 1) cap') (upd vl ts.length (.slice (some ⟨g, 0, none⟩) T.legs.length cap))) :=
          ⟨ownsRow_keep HT10.out.own hC11 (fun q hq e => own_ne HT10.out.own hB10 (by decide) hq e.symm), fun i hi => ownsRow_keep (HT10.out.legs i hi) hC11 (fun q hq e => own_ne (HT10.out.legs i hi) hB10 (by decide) hq e.symm), HT10.out.far⟩
        have HL11 : Hid ((ts ++ [laterT d T]).length = jj + 1) := by unfold Hid; rw [List.length_append, List.length_singleton, HTL.out]
        clear hown hgrow hg HO10 HT10 hC11 hB10 hS9 HTr9 HOT9 HOw9 HB9 HB5 r0 r1 r2 r3 r4 rl q2 ql
        go_wp2_with fail
        exact ⟨⟨jj + 1, ts ++ [laterT d T], _, _, by omega, by go_num, HL11.out, HTS2.out, HT11.out, hA10.out, HO11.out, hS11⟩, (by simp [intOf]; omega)⟩
      · obtain rfl : jj = l.trains.length := by omega
        have hts : ts = (laterL l d).trains := by rw [← HTS.out, List.take_length]; rfl
        have hB5 := hS1.box (g5, #[.slice (some ⟨gT, 0, none⟩) l.tracks.length cT, .int .i64 l.gap, .slice A2' l.trains.length c2'], 33) (by simp)
        have hBr := hS1.box (w.heap.size + 1, #[.slice none 0 0, .int .i64 0, .slice none 0 0], 33) (by simp)
        have a0 := box_cell hB5 0
        have a1 := box_cell hB5 1
        have a2 := box_cell hB5 2
        have al := box_lt hB5
        have x0 := box_cell hBr 0
        have x1 := box_cell hBr 1
        have x2 := box_cell hBr 2
        have y2 := box_lt hBr
        have y3 := box_frozen hBr
        have hne : w.heap.size + 1 ≠ g5 := by omega
        have hX := hS1.ext
        subst hts
        clear hB5 hBr
        go_wp2_with fail
        have hC : Chg (fun g => g = w.heap.size + 1) wr (((wr.setCell ⟨w.heap.size + 1, 0, none⟩ (.slice (some ⟨gT, 0, none⟩) l.tracks.length cT)).setCell ⟨w.heap.size + 1, 1, none⟩ (.int .i64 l.gap)).setCell ⟨w.heap.size + 1, 2, none⟩ (.slice A2' l.trains.length c2')) := (((Chg.of_ext (S := fun g => g = w.heap.size + 1) (Ext.refl wr)).setCell (Or.inl rfl) _ _).setCell (Or.inl rfl) _ _).setCell (Or.inl rfl) _ _
        refine bodyPost_ret (v := .agg #[.slice (some ⟨gT, 0, none⟩) l.tracks.length cT, .int .i64 l.gap, .slice A2' l.trains.length c2']) (by simp [results, Try.results62, go_sem, x0, x1, x2, y2, y3]) rfl ⟨_, _, rfl, ⟨vl, ?_⟩, ?_⟩
        · have hT := HTr.out.keep hC (fun g e => by omega)
          refine ⟨ownsRow_mono (ownsRow_chg HOT.out hC (fun g e => by omega)) (by omega), ⟨ownsRow_mono hT.own (by omega), fun i hi => ownsRow_mono (hT.legs i hi) (by omega), hT.far⟩, ?_⟩
          rw [laterL_n]
          exact HAp.out
        · exact ((hX.setCell (by simp only []; omega) _).setCell (by simp only []; omega) _).setCell (by simp only []; omega) _
end Go.Proofs.Ythhkbfjolmgloaa
namespace Go.Proofs.Ythhkbfjolmgloaa
open Go.RowKit
set_option linter.unusedVariables false
set_option linter.unusedSimpArgs false
def byteW (xs : List Int) (k : Nat) : Int := if xs.length = 0 then 0 else xs.getD (k % xs.length) 0
theorem byteW_bd {xs : List Int} (B : Bytes xs) (k : Nat) : 0 ≤ byteW xs k ∧ byteW xs k ≤ 255 := by
  unfold byteW
  by_cases h : xs.length = 0
  · rw [if_pos h]; omega
  · rw [if_neg h]
    obtain ⟨x, hx⟩ := some_of_lt (l := xs) (i := k % xs.length) (Nat.mod_lt _ (by omega))
    rw [List.getD_eq_getElem?_getD, hx]
    exact B _ _ hx
set_option maxRecDepth 100000 in
set_option maxHeartbeats 8000000 in
theorem wByte_q {w : World} {xs : List Int} {A : Option Addr} {cA : Nat} (hB : RdByte w A xs) (By : Bytes xs) (hn : xs.length ≤ 1048576) {k : Nat} (hk : k ≤ 1000) :
    Calls Try.prog 63 #[.slice A xs.length cA, .int .i64 k] w fun e w' => e = .returned (.int .i64 (byteW xs k)) ∧ w' = w := by
  by_cases h : xs.length = 0
  · have hr : Hid (byteW xs k = 0) := by unfold Hid byteW; rw [if_pos h]
    have hd : ((xs.length : Int) == 0) = true := by simp [h]
    clear h
    go_enter Try.func63, Try.ntmps63
    go_wp2_with fail
    go_ret
    exact ⟨by rw [hr.out]; rfl, rfl⟩
  · have hd : ((xs.length : Int) == 0) = false := by simpa using h
    have hlt := Nat.mod_lt k (show 0 < xs.length by omega)
    obtain ⟨x, hx⟩ := some_of_lt (l := xs) (i := k % xs.length) hlt
    have hr : Hid (byteW xs k = x) := by unfold Hid byteW; rw [if_neg h, List.getD_eq_getElem?_getD, hx]; rfl
    have hb := By _ _ hx
    obtain ⟨b, o, rfl, hbl⟩ := hB.base hlt
    have f0 := hB.at_ hx
    have hmod : Int.tmod (k : Int) (xs.length : Int) = ((k % xs.length : Nat) : Int) := by rw [Int.ofNat_tmod]
    have hne0 : ¬ (xs.length : Int) = 0 := by omega
    obtain ⟨r, HR⟩ : ∃ r, k % xs.length = r := ⟨_, rfl⟩
    rw [HR] at hlt f0 hmod
    clear hx hB HR
    go_enter Try.func63, Try.ntmps63
    go_wp2_with fail
    go_ret
    exact ⟨by rw [hr.out]; rfl, rfl⟩
theorem wByte_any {w : World} {xs : List Int} {A : Option Addr} {cA : Nat} (hB : RdByte w A xs) (By : Bytes xs) (hn : xs.length ≤ 1048576) {k : Nat} (hk : k ≤ 1000) :
    Calls Try.prog 63 #[.slice A xs.length cA, .int .i64 k] w fun e w' => e = .returned (.int .i64 (byteW xs k)) ∧ Ext w w' := (wByte_q hB By hn hk).mono fun _ _ ⟨h1, h2⟩ => ⟨h1, h2 ▸ Ext.refl _⟩
end Go.Proofs.Ythhkbfjolmgloaa
