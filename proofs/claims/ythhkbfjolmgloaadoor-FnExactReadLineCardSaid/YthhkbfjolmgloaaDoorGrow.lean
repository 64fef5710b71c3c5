/- A line that grows in memory while a text is read: its box, its rows; what the steps of reading do to it. Plain memory alone. -/
import Derived.Test.YthhkbfjolmgloaaDoorNums
namespace Go.Proofs.YthhkbfjolmgloaaDoor
open Go.RowKit Go.Deep
set_option linter.unusedVariables false
set_option linter.unusedSimpArgs false
structure LnI (B : Nat) (w : World) (gl : Nat) (l : Line) (v0 v2 : Value) (vl : Nat → Value) : Prop where
  box : w.heap[gl]? = some (.cells #[v0, .int .i64 l.gap, v2] 25 (0, 0))
  low : B ≤ gl
  own : OwnA B w l v0 v2 vl
/-- Blocks that a step of reading may write. -/
def Soft (B : Nat) (w : World) (g : Nat) : Prop := B ≤ g ∧ ∀ cs fr, w.heap[g]? ≠ some (.cells cs 27 fr)
theorem Chg.soft {B : Nat} {a b c : World} (h : Chg (Soft B a) a b) (k : Chg (Soft B b) b c) : Chg (Soft B a) a c := by
  refine ⟨k.os.trans h.os, k.tape.trans h.tape, k.output.trans h.output, Nat.le_trans h.size k.size, fun g hg hs => ?_⟩
  have h1 := h.block g hg hs
  refine (k.block g (Nat.lt_of_lt_of_le hg h.size) (fun hb => hs ⟨hb.1, fun cs fr e => ?_⟩)).trans h1
  exact hb.2 cs fr (by rw [h1]; exact e)
theorem Chg.softS {B : Nat} {a b c : World} {S : Nat → Prop} (h : Chg (Soft B a) a b) (k : Chg S b c) (hS : ∀ g, S g → g < b.heap.size → Soft B b g) : Chg (Soft B a) a c := h.soft (k.mono (fun g hg hs => hS g hs hg))
theorem soft_box {B : Nat} {w : World} {g : Nat} {cs : Array Value} {t : TypeId} {fr : Nat × Nat} (hb : w.heap[g]? = some (.cells cs t fr)) (ht : t ≠ 27) (hB : B ≤ g) : Soft B w g := by
  refine ⟨hB, fun cs' fr' e => ?_⟩
  rw [hb] at e
  simp only [Option.some.injEq, Obj.cells.injEq] at e
  exact ht e.2.1
theorem soft_own {B : Nat} {w : World} {e : TypeId} {size : Nat} {v : Value} {n : Nat} {xs : List Value} (h : w.ownsRow B e size v n xs) {g : Nat} (hk : v.ownBlock = some g) (ht : e ≠ 27) : Soft B w g := by
  obtain ⟨cur, hc⟩ := own_box h hk
  exact soft_box hc ht (h.lt g hk).1
theorem own_far {w : World} {B : Nat} {e : TypeId} {size : Nat} {v : Value} {n : Nat} {xs : List Value} (h : w.ownsRow B e size v n xs) {g : Nat} {cs : Array Value} {t : TypeId} {fr : Nat × Nat} (hb : w.heap[g]? = some (.cells cs t fr)) (ht : t ≠ e) : v.ownBlock ≠ some g := fun hk => own_ne h hb ht hk rfl
theorem own_far2 {w : World} {B B' : Nat} {e e' : TypeId} {size size' : Nat} {v v' : Value} {n n' : Nat} {xs xs' : List Value} (h : w.ownsRow B e size v n xs) (h' : w.ownsRow B' e' size' v' n' xs') (ht : e' ≠ e) : ∀ g, v'.ownBlock = some g → v.ownBlock ≠ some g := by
  intro g hg
  obtain ⟨cur, hc⟩ := own_box h' hg
  exact own_far h hc ht
theorem TrI.set_far {w : World} {B : Nat} {ts : List Train} {v : Value} {vl : Nat → Value} (h : TrI w B ts v vl) {g : Nat} {cs : Array Value} {t : TypeId} {fr : Nat × Nat} (hb : w.heap[g]? = some (.cells cs t fr)) (h1 : t ≠ 47) (h2 : t ≠ 50) (j : Nat) (u : Value) : TrI (w.setCell ⟨g, j, none⟩ u) B ts v vl :=
  ⟨ownsRow_set_far h.own (own_far h.own hb h1) j u, fun i hi => ownsRow_set_far (h.legs i hi) (own_far (h.legs i hi) hb h2) j u, h.far⟩
theorem LnI.ext {B : Nat} {w w' : World} {gl : Nat} {l : Line} {v0 v2 : Value} {vl : Nat → Value} (h : LnI B w gl l v0 v2 vl) (e : Ext w w') : LnI B w' gl l v0 v2 vl := ⟨e.box h.box, h.low, h.own.ext e⟩
theorem LnI.rd {B : Nat} {w : World} {gl : Nat} {l : Line} {v0 v2 : Value} {vl : Nat → Value} (h : LnI B w gl l v0 v2 vl) : IsLine w l (.agg #[v0, .int .i64 l.gap, v2]) := h.own.ownL.rd
/-- The tracks are set. -/
theorem LnI.tracks {B : Nat} {w : World} {gl : Nat} {l : Line} {v0 v2 : Value} {vl : Nat → Value} (h : LnI B w gl l v0 v2 vl) {v : Value} {ns : List Int} (hv : w.ownsRow B 3 1 v ns.length (nums ns)) :
    LnI B (w.setCell ⟨gl, 0, none⟩ v) gl { l with tracks := ns } v v2 vl :=
  ⟨by rw [box_set h.box]; rfl, h.low, ownsRow_set_far hv (own_far hv h.box (by decide)) 0 v, h.own.2.1.set_far h.box (by decide) (by decide) 0 v, h.own.2.2⟩
/-- The gap is set. -/
theorem LnI.gap {B : Nat} {w : World} {gl : Nat} {l : Line} {v0 v2 : Value} {vl : Nat → Value} (h : LnI B w gl l v0 v2 vl) (x : Int) :
    LnI B (w.setCell ⟨gl, 1, none⟩ (.int .i64 x)) gl { l with gap := x } v0 v2 vl :=
  ⟨by rw [box_set h.box]; rfl, h.low, ownsRow_set_far h.own.1 (own_far h.own.1 h.box (by decide)) 1 _, h.own.2.1.set_far h.box (by decide) (by decide) 1 _, h.own.2.2⟩
theorem LnI.set_soft {B : Nat} {a w : World} {gl : Nat} {l : Line} {v0 v2 : Value} {vl : Nat → Value} (h : LnI B w gl l v0 v2 vl) (hc : Chg (Soft B a) a w) (j : Nat) (u : Value) : Chg (Soft B a) a (w.setCell ⟨gl, j, none⟩ u) :=
  hc.softS ((Chg.of_ext (Ext.refl w)).setCell (S := fun g => g = gl) (Or.inl rfl) j u) (fun g hg _ => by subst hg; exact soft_box h.box (by decide) h.low)
theorem own_nil (w : World) (B : Nat) : w.ownsRow B 50 3 (.slice none 0 0) 0 (legCells []) := World.ownsRow_nil _ _ _ _
/-- A train more. -/
theorem LnI.train {B : Nat} {w wd : World} {gl : Nat} {l : Line} {v0 v2 : Value} {vl : Nat → Value} (h : LnI B w gl l v0 v2 vl) {o : Obj} {t : Train} {g cap : Nat} (ht : t.legs = [])
    (hd : (w.alloc o).grownBy wd v2.ownBlock) (hown : wd.ownsRow B 47 5 (.slice (some ⟨g, 0, none⟩) (l.trains.length + 1) cap) (l.trains.length + 1) ((trRows l.trains vl).flatten ++ trainRow t (.slice none 0 0))) (hg : v2.ownBlock = some g ∨ g = (w.alloc o).heap.size) :
    LnI B (wd.setCell ⟨gl, 2, none⟩ (.slice (some ⟨g, 0, none⟩) (l.trains.length + 1) cap)) gl { l with trains := l.trains ++ [t] } v0 (.slice (some ⟨g, 0, none⟩) (l.trains.length + 1) cap) (upd vl l.trains.length (.slice none 0 0)) ∧ wd.heap[gl]? = some (.cells #[v0, .int .i64 l.gap, v2] 25 (0, 0)) := by
  have hbd : wd.heap[gl]? = some (.cells #[v0, .int .i64 l.gap, v2] 25 (0, 0)) := by
    have h1 : (w.alloc o).heap[gl]? = some (.cells #[v0, .int .i64 l.gap, v2] 25 (0, 0)) := ((Ext.refl w).alloc o).box h.box
    rw [hd.block gl (box_lt h1) (fun e => own_far h.own.2.1.own h.box (by decide) e.symm)]
    exact h1
  have hT := h.own.2.1.step (o := o) (t := t) (u := .slice none 0 0) (B' := B) (by rw [ht]; exact own_nil w B) (fun g hg => by cases hg) (Nat.le_refl _) rfl hd hown hg
  have hlen : (l.trains ++ [t]).length = l.trains.length + 1 := by simp
  have hr := World.ownsRow.kept (h.own.1.alloc o) hd (by
    cases hk : v0.ownBlock with
    | none => exact Or.inl rfl
    | some k => exact Or.inr (fun e => own_far2 h.own.2.1.own h.own.1 (by decide) k hk e.symm))
  refine ⟨⟨by rw [box_set hbd]; rfl, h.low, ownsRow_set_far hr (own_far hr hbd (by decide)) 2 _, hT.set_far hbd (by decide) (by decide) 2 _, ?_⟩, hbd⟩
  intro i k g hi hk hik hg' hk'
  simp only [hlen] at hi hk
  unfold upd at hg' hk'
  by_cases e1 : i = l.trains.length
  · rw [if_pos e1] at hg'; cases hg'
  · rw [if_neg e1] at hg'
    by_cases e2 : k = l.trains.length
    · rw [if_pos e2] at hk'; cases hk'
    · rw [if_neg e2] at hk'
      exact h.own.2.2 i k g (by omega) (by omega) hik hg' hk'
theorem flatten_set {s j : Nat} {u : Value} (hj : j < s) : ∀ (rows : List (List Value)) (i : Nat) (r : List Value), rows[i]? = some r → (∀ q, q ∈ rows → q.length = s) → rows.flatten.set (i * s + j) u = (rows.set i (r.set j u)).flatten
  | [], i, r, h, _ => by simp at h
  | r0 :: rows, 0, r, h, hs => by
    simp only [List.getElem?_cons_zero, Option.some.injEq] at h
    subst h
    rw [List.set_cons_zero, List.flatten_cons, List.flatten_cons, Nat.zero_mul, Nat.zero_add, List.set_append_left _ _ (by rw [hs r0 (by simp)]; exact hj)]
  | r0 :: rows, i + 1, r, h, hs => by
    simp only [List.getElem?_cons_succ] at h
    have h0 := hs r0 (by simp)
    rw [List.set_cons_succ, List.flatten_cons, List.flatten_cons, Nat.succ_mul, List.set_append_right _ _ (by omega), ← flatten_set hj rows i r h (fun q hq => hs q (by simp [hq]))]
    congr 2
    omega
theorem trRows_set {ts : List Train} {vl : Nat → Value} {i : Nat} (hi : i < ts.length) (legs' : List Leg) (u : Value) :
    (trRows ts vl).flatten.set (i * 5 + 4) u = (trRows (ts.set i { ts.getD i default with legs := legs' }) (upd vl i u)).flatten := by
  have hrow : (trRows ts vl)[i]? = some (trainRow (ts.getD i default) (vl i)) := by
    unfold trRows
    rw [List.getElem?_map, List.getElem?_range hi]; rfl
  rw [flatten_set (s := 5) (by omega) _ i _ hrow (fun r hr => by
    obtain ⟨y, _, rfl⟩ := List.mem_map.1 hr
    rfl)]
  congr 1
  refine List.ext_getElem? fun k => ?_
  rw [List.getElem?_set]
  unfold trRows
  simp only [List.length_map, List.length_range, List.getElem?_map, List.length_set]
  by_cases e : i = k
  · subst e
    rw [if_pos rfl, if_pos hi, List.getElem?_range hi]
    simp [upd, trainRow, List.getD_eq_getElem?_getD, hi]
  · rw [if_neg e]
    by_cases hk : k < ts.length
    · rw [List.getElem?_range hk]
      simp [upd, List.getD_eq_getElem?_getD, List.getElem?_set, e, Ne.symm e]
    · rw [List.getElem?_eq_none (by simp; omega)]; rfl
theorem some_getD {α : Type} [Inhabited α] {l : List α} {i : Nat} (h : i < l.length) : l[i]? = some (l.getD i default) := by simp [List.getD_eq_getElem?_getD, h]
/-- A leg more at the last train. -/
theorem LnI.leg {B : Nat} {w wd : World} {gl : Nat} {l : Line} {v0 : Value} {vl : Nat → Value} {gT cT : Nat} (h : LnI B w gl l v0 (.slice (some ⟨gT, 0, none⟩) l.trains.length cT) vl) {o : Obj} {x : Leg} {g cap m K : Nat} (hm : l.trains.length = m + 1) (hK : (l.trains.getD m default).legs.length = K)
    (hd : (w.alloc o).grownBy wd (vl m).ownBlock) (hown : wd.ownsRow B 50 3 (.slice (some ⟨g, 0, none⟩) (K + 1) cap) (K + 1) (legCells (l.trains.getD m default).legs ++ legRow x)) (hg : (vl m).ownBlock = some g ∨ g = (w.alloc o).heap.size) :
    LnI B (wd.setCell ⟨gT, m * 5 + 4, none⟩ (.slice (some ⟨g, 0, none⟩) (K + 1) cap)) gl { l with trains := addLeg l.trains x } v0 (.slice (some ⟨gT, 0, none⟩) l.trains.length cT) (upd vl m (.slice (some ⟨g, 0, none⟩) (K + 1) cap)) ∧ ∃ cur, wd.heap[gT]? = some (.cells cur 47 (0, 0)) ∧ wd.cell? ⟨gT, m * 5 + 4, none⟩ = some (vl m) := by
  have hmi : m < l.trains.length := by omega
  obtain ⟨cur, hcT⟩ := own_box h.own.2.1.own (ownBlock_slice gT l.trains.length cT)
  have hsz : (w.alloc o).heap.size = w.heap.size + 1 := alloc_size _ _
  have hgTm : (vl m).ownBlock ≠ some gT := own_far (h.own.2.1.legs m hmi) hcT (by decide)
  have hcT2 : wd.heap[gT]? = some (.cells cur 47 (0, 0)) := by
    have h1 := ((Ext.refl w).alloc o).box hcT
    rw [hd.block gT (box_lt h1) (fun e => hgTm e.symm)]
    exact h1
  have hgl2 : wd.heap[gl]? = some (.cells #[v0, .int .i64 l.gap, .slice (some ⟨gT, 0, none⟩) l.trains.length cT] 25 (0, 0)) := by
    have h1 := ((Ext.refl w).alloc o).box h.box
    rw [hd.block gl (box_lt h1) (fun e => own_far (h.own.2.1.legs m hmi) h.box (by decide) e.symm)]
    exact h1
  have hglT : gl ≠ gT := own_ne h.own.2.1.own h.box (by decide) (ownBlock_slice _ _ _)
  have hgT : g ≠ gT := by
    intro e
    rcases hg with h4 | h4
    · exact hgTm (by rw [h4, e])
    · have := box_lt hcT; omega
  have hkeep : ∀ {e : TypeId} {size : Nat} {v : Value} {n : Nat} {xs : List Value}, w.ownsRow B e size v n xs → (∀ k, v.ownBlock = some k → (vl m).ownBlock ≠ some k) → wd.ownsRow B e size v n xs := fun {e size v n xs} hr hk => World.ownsRow.kept (hr.alloc o) hd (by
    cases hq : v.ownBlock with
    | none => exact Or.inl rfl
    | some k => exact Or.inr (fun e => hk k hq e.symm))
  have hv0 := hkeep h.own.1 (own_far2 (h.own.2.1.legs m hmi) h.own.1 (by decide))
  have hvT := hkeep h.own.2.1.own (fun k hk => by rw [ownBlock_slice] at hk; cases hk; exact hgTm)
  have hset := trRows_set (vl := vl) hmi ((l.trains.getD m default).legs ++ [x]) (.slice (some ⟨g, 0, none⟩) (K + 1) cap)
  have hadd : addLeg l.trains x = l.trains.set m { l.trains.getD m default with legs := (l.trains.getD m default).legs ++ [x] } := by
    unfold addLeg
    rw [show l.trains.length - 1 = m by omega]
  have hlen : (addLeg l.trains x).length = l.trains.length := by rw [hadd, List.length_set]
  have hget : ∀ i, (addLeg l.trains x).getD i default = if i = m then { l.trains.getD m default with legs := (l.trains.getD m default).legs ++ [x] } else l.trains.getD i default := fun i => by
    rw [hadd]
    by_cases e : i = m
    · subst e; rw [if_pos rfl]; simp [List.getD_eq_getElem?_getD, hmi]
    · rw [if_neg e]; simp [List.getD_eq_getElem?_getD, List.getElem?_set, Ne.symm e]
  refine ⟨⟨?_, h.low, ⟨ownsRow_set_far hv0 (own_far hv0 hcT2 (by decide)) _ _, ⟨?_, fun i hi => ?_, fun i k hi hk => ?_⟩, ?_⟩⟩, cur, hcT2, ownsRow_cell hvT (trRows_at (some_getD hmi) (i := 4) (by omega))⟩
  · rw [Below.heap_setCell wd ⟨gT, m * 5 + 4, none⟩ _ gl hglT]
    exact hgl2
  · have := ownsRow_poke hvT (m * 5 + 4) (.slice (some ⟨g, 0, none⟩) (K + 1) cap)
    rw [hset, ← hadd] at this
    rw [hlen]
    exact this
  · rw [hlen] at hi
    rw [hget]
    unfold upd
    by_cases e : i = m
    · rw [if_pos e, if_pos e]
      have : ((l.trains.getD m default).legs ++ [x]).length = K + 1 := by rw [List.length_append, hK]; rfl
      rw [this, legCells_append]
      exact ownsRow_set_far hown (by rw [ownBlock_slice]; simpa using hgT) _ _
    · rw [if_neg e, if_neg e]
      have hr := hkeep (h.own.2.1.legs i hi) (fun k hk hk2 => h.own.2.2 i m k hi hmi e hk hk2)
      exact ownsRow_set_far hr (own_far hr hcT2 (by decide)) _ _
  · rw [hlen] at hi
    rw [ownBlock_slice]
    unfold upd at hk
    simp only [ne_eq, Option.some.injEq]
    intro e2
    subst e2
    by_cases e : i = m
    · rw [if_pos e, ownBlock_slice] at hk
      exact hgT (Option.some.inj hk)
    · rw [if_neg e] at hk
      exact h.own.2.1.far i _ hi hk (ownBlock_slice _ _ _)
  · intro i k q hi hk hik hq hq2
    simp only [hlen] at hi hk
    unfold upd at hq hq2
    have hfr : ∀ i, i < l.trains.length → i ≠ m → (vl i).ownBlock ≠ some g := fun i hi hne hq => by
      rcases hg with h4 | h4
      · exact h.own.2.2 i m g hi hmi hne hq h4
      · have := ((h.own.2.1.legs i hi).lt g hq).2; omega
    by_cases e : i = m
    · rw [if_pos e, ownBlock_slice] at hq
      rw [if_neg (by omega)] at hq2
      cases hq
      exact hfr k hk (by omega) hq2
    · rw [if_neg e] at hq
      by_cases e2 : k = m
      · rw [if_pos e2, ownBlock_slice] at hq2
        cases hq2
        exact hfr i hi e hq
      · rw [if_neg e2] at hq2
        exact h.own.2.2 i k q hi hk hik hq hq2
/-- A row of numbers that is read. -/
def RowAt (b : Nat) (cur : Array Value) (W : World) : Prop := W.heap[b]? = some (.cells cur 3 (0, 0))
theorem RowAt.ext {b : Nat} {cur : Array Value} {w w' : World} (h : RowAt b cur w) (e : Ext w w') : RowAt b cur w' := e.box h
theorem RowAt.grown {b : Nat} {cur : Array Value} {w wd : World} {B : Nat} {e : TypeId} {size : Nat} {v : Value} {n : Nat} {xs : List Value} (h : RowAt b cur w) (hr : w.ownsRow B e size v n xs) (he : 3 ≠ e) {o : Obj} (hd : (w.alloc o).grownBy wd v.ownBlock) : RowAt b cur wd := by
  have h1 : (w.alloc o).heap[b]? = some (.cells cur 3 (0, 0)) := ((Ext.refl w).alloc o).box h
  unfold RowAt
  rw [hd.block b (box_lt h1) (fun e2 => own_far hr h he e2.symm)]
  exact h1
theorem RowAt.set {b : Nat} {cur : Array Value} {w : World} (h : RowAt b cur w) {g : Nat} {cs : Array Value} {t : TypeId} {fr : Nat × Nat} (hb : w.heap[g]? = some (.cells cs t fr)) (ht : t ≠ 3) (j : Nat) (u : Value) : RowAt b cur (w.setCell ⟨g, j, none⟩ u) := by
  refine (Below.heap_setCell w ⟨g, j, none⟩ u b (fun e => ?_)).trans h
  simp only at e
  subst e
  unfold RowAt at h
  rw [hb] at h
  simp only [Option.some.injEq, Obj.cells.injEq] at h
  exact ht h.2.1
theorem chg_step {B : Nat} {a w wd : World} {e : TypeId} {size : Nat} {v : Value} {n : Nat} {xs : List Value} (hc : Chg (Soft B a) a w) (hr : w.ownsRow B e size v n xs) (he : e ≠ 27) {o : Obj} (hd : (w.alloc o).grownBy wd v.ownBlock) {g : Nat} {cs : Array Value} {t : TypeId} {fr : Nat × Nat} (hb : wd.heap[g]? = some (.cells cs t fr)) (ht : t ≠ 27) (hg : B ≤ g) (j : Nat) (u : Value) : Chg (Soft B a) a (wd.setCell ⟨g, j, none⟩ u) := by
  have c1 := hc.trans (Chg.of_ext ((Ext.refl w).alloc o))
  have c2 := c1.softS (S := fun k => v.ownBlock = some k) ((Chg.of_ext (Ext.refl _)).grown hd (fun k hk => Or.inl hk)) (fun k hk _ => soft_own (hr.alloc o) hk he)
  exact c2.softS (S := fun k => k = g) (Chg.setCell (S := fun k => k = g) (Chg.of_ext (Ext.refl wd)) (Or.inl rfl) j u) (fun k hk _ => by subst hk; exact soft_box hb ht hg)
end Go.Proofs.YthhkbfjolmgloaaDoor
