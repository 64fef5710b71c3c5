/- What one step leaves of a placer's memory. Plain memory alone. -/
import Derived.Test.YthhkbfjolmgloaaPlacer2
namespace Go.Proofs.Ythhkbfjolmgloaa
open Go.RowKit
set_option linter.unusedVariables false
set_option linter.unusedSimpArgs false
theorem ownsRow_set_far {w : World} {B : Nat} {e : TypeId} {size : Nat} {v : Value} {n : Nat} {xs : List Value} (h : w.ownsRow B e size v n xs) {g : Nat} (hg : v.ownBlock ≠ some g) (j : Nat) (u : Value) : (w.setCell ⟨g, j, none⟩ u).ownsRow B e size v n xs :=
  World.ownsRow.kept (row := some g) h ⟨rfl, rfl, rfl, by simp, fun k _ hk => Below.heap_setCell w ⟨g, j, none⟩ u k (fun e => hk (by rw [e]))⟩ (Or.inr hg)
theorem ownBlock_slice (g n c : Nat) : (Value.slice (some ⟨g, 0, none⟩) n c).ownBlock = some g := rfl
theorem plc_step {w wd w6 : World} {o : Obj} {lo : Nat} {T : TypeId} {l : Line} {p : List (List Int)} {last x : Int} {gp : Nat} {A0 : Option Addr} {c0 : Nat} {A2 : Option Addr} {c2 : Nat} {AR : Option Addr} {cR gr : Nat} {vs : Nat → Value} {i g cap H : Nat}
    (P : Plc w lo T l p last gp A0 c0 A2 c2 AR cR gr vs) (hi : i < l.trains.length) (hX : Ext w wd)
    (hown : w6.ownsRow lo 3 1 (.slice (some ⟨g, 0, none⟩) (rl p i + 1) cap) (rl p i + 1) (nums (p.getD i []) ++ (#[Value.int .i64 x] : Array Value).toList))
    (hgrow : (wd.alloc o).grownBy w6 (vs i).ownBlock) (hg : (vs i).ownBlock = some g ∨ g = H) (hH : (wd.alloc o).heap.size = H) :
    Plc ((w6.setCell ⟨gr, i, none⟩ (.slice (some ⟨g, 0, none⟩) (rl p i + 1) cap)).setCell ⟨gp, 4, none⟩ (.int .i64 x)) lo T l (put p i x) x gp A0 c0 A2 c2 AR cR gr (upd vs i (.slice (some ⟨g, 0, none⟩) (rl p i + 1) cap)) ∧
    Chg (own3 gp gr (vs i)) w ((w6.setCell ⟨gr, i, none⟩ (.slice (some ⟨g, 0, none⟩) (rl p i + 1) cap)).setCell ⟨gp, 4, none⟩ (.int .i64 x)) ∧
    (∀ g', (Value.slice (some ⟨g, 0, none⟩) (rl p i + 1) cap).ownBlock = some g' → (vs i).ownBlock = some g' ∨ w.heap.size ≤ g') := by
  have hXa : Ext w (wd.alloc o) := hX.alloc o
  have hHs : w.heap.size ≤ H := by rw [← hH]; exact hXa.size
  have C6 : Chg (own3 gp gr (vs i)) w w6 := (Chg.of_ext hXa).grown hgrow (fun k hk => Or.inl (Or.inr (Or.inr hk)))
  obtain ⟨hAR, cs, hcs, hcv⟩ := P.base (by omega)
  have hgpl := box_lt P.box
  have hgrl := box_lt hcs
  have hip : i < p.length := by rw [P.rows]; exact hi
  have hfi : ∀ g', (vs i).ownBlock = some g' → g' ≠ gp ∧ g' ≠ gr := fun g' h => P.far i g' hi h
  have hgne : g ≠ gp ∧ g ≠ gr := by
    rcases hg with h | h
    · exact hfi g h
    · omega
  have bp6 : w6.heap[gp]? = some (.cells #[.slice A0 l.tracks.length c0, .int .i64 l.gap, .slice A2 l.trains.length c2, .slice AR l.trains.length cR, .int .i64 last] T (0, 0)) := (hgrow.block gp (box_lt (hXa.box P.box)) (fun e => (hfi gp e.symm).1 rfl)).trans (hXa.box P.box)
  have br6 : w6.heap[gr]? = some (.cells cs 23 (0, 0)) := (hgrow.block gr (box_lt (hXa.box hcs)) (fun e => (hfi gr e.symm).2 rfl)).trans (hXa.box hcs)
  have bp := box_set (box_set_far bp6 i (.slice (some ⟨g, 0, none⟩) (rl p i + 1) cap) P.ne) 4 (.int .i64 x)
  have br := box_set_far (box_set br6 i (.slice (some ⟨g, 0, none⟩) (rl p i + 1) cap)) 4 (.int .i64 x) (Ne.symm P.ne)
  have C : Chg (own3 gp gr (vs i)) w ((w6.setCell ⟨gr, i, none⟩ (.slice (some ⟨g, 0, none⟩) (rl p i + 1) cap)).setCell ⟨gp, 4, none⟩ (.int .i64 x)) := (C6.setCell (Or.inl (Or.inr (Or.inl rfl))) _ _).setCell (Or.inl (Or.inl rfl)) _ _
  have hlo : ∀ g', own3 gp gr (vs i) g' → lo ≤ g' := by
    rintro g' (rfl | rfl | h)
    · exact P.lop
    · exact P.lor
    · exact ((P.own i hi).lt g' h).1
  have hB := C.below hlo P.lo_le
  have hi' : i < cs.size := by
    have := hcv i hi
    exact (Array.getElem?_eq_some_iff.1 this).1
  refine ⟨⟨fun W hW => P.line W (hB.trans hW), by simpa using bp, fun _ => ⟨hAR, _, br, fun j hj => ?_⟩, fun j hj => ?_, fun a b g' ha hb hab h1 h2 => ?_, fun a g' ha h1 => ?_, by rw [put_length]; exact P.rows, P.lop, P.lor, P.ne⟩, C, fun g' h => ?_⟩
  · unfold upd
    by_cases e : j = i
    · subst e
      rw [if_pos rfl, Array.getElem?_setIfInBounds_self_of_lt hi']
    · rw [if_neg e, Array.getElem?_setIfInBounds_ne (Ne.symm e)]
      exact hcv j hj
  · rw [rl_put hip]
    unfold upd
    by_cases e : j = i
    · subst e
      rw [if_pos rfl, if_pos rfl, row_put_i hip, nums_append]
      exact ownsRow_set_far (ownsRow_set_far hown (by rw [ownBlock_slice]; simp only [ne_eq, Option.some.injEq]; exact hgne.2) _ _) (by rw [ownBlock_slice]; simp only [ne_eq, Option.some.injEq]; exact hgne.1) _ _
    · rw [if_neg e, if_neg e, row_put_ne hip e]
      have h6 := World.ownsRow.kept (ownsRow_ext (P.own j hj) hXa) hgrow (by
        cases hb : (vs j).ownBlock with
        | none => exact Or.inl rfl
        | some gj => exact Or.inr (fun e2 => P.apart j i gj hj hi e hb e2.symm))
      exact ownsRow_set_far (ownsRow_set_far h6 (fun h => (P.far j gr hj h).2 rfl) _ _) (fun h => (P.far j gp hj h).1 rfl) _ _
  · unfold upd at h1 h2
    by_cases ea : a = i
    · rw [if_pos ea] at h1
      rw [if_neg (fun e => hab (by rw [ea, e]))] at h2
      rw [ownBlock_slice] at h1
      simp only [Option.some.injEq] at h1
      subst h1
      rcases hg with h | h
      · exact P.apart i b g hi hb (fun e => hab (by rw [ea, e])) h h2
      · have := ((P.own b hb).lt g h2).2
        omega
    · rw [if_neg ea] at h1
      by_cases eb : b = i
      · rw [if_pos eb, ownBlock_slice] at h2
        simp only [Option.some.injEq] at h2
        subst h2
        rcases hg with h | h
        · exact P.apart a i g ha hi ea h1 h
        · have := ((P.own a ha).lt g h1).2
          omega
      · rw [if_neg eb] at h2
        exact P.apart a b g' ha hb hab h1 h2
  · unfold upd at h1
    by_cases ea : a = i
    · rw [if_pos ea, ownBlock_slice] at h1
      simp only [Option.some.injEq] at h1
      subst h1
      exact hgne
    · rw [if_neg ea] at h1
      exact P.far a g' ha h1
  · rw [ownBlock_slice] at h
    simp only [Option.some.injEq] at h
    subst h
    rcases hg with h | h
    · exact Or.inl h
    · exact Or.inr (by omega)
theorem plc_boxes {w wd w6 : World} {o : Obj} {lo : Nat} {T : TypeId} {l : Line} {p : List (List Int)} {last : Int} {gp : Nat} {A0 : Option Addr} {c0 : Nat} {A2 : Option Addr} {c2 : Nat} {AR : Option Addr} {cR gr : Nat} {vs : Nat → Value} {i : Nat}
    (P : Plc w lo T l p last gp A0 c0 A2 c2 AR cR gr vs) (hi : i < l.trains.length) (hX : Ext w wd) (hgrow : (wd.alloc o).grownBy w6 (vs i).ownBlock) :
    w6.cell? ⟨gr, i, none⟩ = some (vs i) ∧ w6.frozen? ⟨gr, i, none⟩ = false ∧ gr < w6.heap.size ∧ w6.cell? ⟨gp, 4, none⟩ = some (.int .i64 last) ∧ w6.frozen? ⟨gp, 4, none⟩ = false ∧ gp < w6.heap.size := by
  have hXa : Ext w (wd.alloc o) := hX.alloc o
  obtain ⟨hAR, cs, hcs, hcv⟩ := P.base (by omega)
  have hfi : ∀ g', (vs i).ownBlock = some g' → g' ≠ gp ∧ g' ≠ gr := fun g' h => P.far i g' hi h
  have bp6 := (hgrow.block gp (box_lt (hXa.box P.box)) (fun e => (hfi gp e.symm).1 rfl)).trans (hXa.box P.box)
  have br6 := (hgrow.block gr (box_lt (hXa.box hcs)) (fun e => (hfi gr e.symm).2 rfl)).trans (hXa.box hcs)
  exact ⟨(box_cell br6 i).trans (hcv i hi), box_frozen br6 i, box_lt br6, box_cell bp6 4, box_frozen bp6 4, box_lt bp6⟩
theorem plc_facts {w wd : World} {lo : Nat} {T : TypeId} {l : Line} {p : List (List Int)} {last : Int} {gp : Nat} {A0 : Option Addr} {c0 : Nat} {A2 : Option Addr} {c2 : Nat} {AR : Option Addr} {cR gr : Nat} {vs : Nat → Value} {i : Nat}
    (P : Plc w lo T l p last gp A0 c0 A2 c2 AR cR gr vs) (hi : i < l.trains.length) (hX : Ext w wd) :
    wd.cell? ⟨gp, 3, none⟩ = some (.slice AR l.trains.length cR) ∧ gp < wd.heap.size ∧ wd.cell? ⟨gr, i, none⟩ = some (vs i) ∧ gr < wd.heap.size ∧ wd.frozen? ⟨gr, i, none⟩ = false := by
  obtain ⟨hAR, cs, hcs, hcv⟩ := P.base (by omega)
  have bp := hX.box P.box
  have br := hX.box hcs
  exact ⟨box_cell bp 3, box_lt bp, (box_cell br i).trans (hcv i hi), box_lt br, box_frozen br i⟩
theorem plc_facts6 {w wd w6 : World} {o : Obj} {lo : Nat} {T : TypeId} {l : Line} {p : List (List Int)} {last : Int} {gp : Nat} {A0 : Option Addr} {c0 : Nat} {A2 : Option Addr} {c2 : Nat} {AR : Option Addr} {cR gr : Nat} {vs : Nat → Value} {i : Nat}
    (P : Plc w lo T l p last gp A0 c0 A2 c2 AR cR gr vs) (hi : i < l.trains.length) (hX : Ext w wd) (hgrow : (wd.alloc o).grownBy w6 (vs i).ownBlock) :
    w6.cell? ⟨gp, 3, none⟩ = some (.slice AR l.trains.length cR) ∧ gp < w6.heap.size ∧ w6.cell? ⟨gr, i, none⟩ = some (vs i) ∧ gr < w6.heap.size ∧ w6.frozen? ⟨gr, i, none⟩ = false := by
  have hXa : Ext w (wd.alloc o) := hX.alloc o
  obtain ⟨hAR, cs, hcs, hcv⟩ := P.base (by omega)
  have hfi : ∀ g', (vs i).ownBlock = some g' → g' ≠ gp ∧ g' ≠ gr := fun g' h => P.far i g' hi h
  have bp6 := (hgrow.block gp (box_lt (hXa.box P.box)) (fun e => (hfi gp e.symm).1 rfl)).trans (hXa.box P.box)
  have br6 := (hgrow.block gr (box_lt (hXa.box hcs)) (fun e => (hfi gr e.symm).2 rfl)).trans (hXa.box hcs)
  exact ⟨box_cell bp6 3, box_lt bp6, (box_cell br6 i).trans (hcv i hi), box_lt br6, box_frozen br6 i⟩
def cellv (W : World) (g j : Nat) : Value := (W.cell? ⟨g, j, none⟩).getD undef
/-- What a step reads while it writes its row. -/
def StepS (gp gr i : Nat) (R : Value) (W : World) : Prop := W.cell? ⟨gp, 3, none⟩ = some R ∧ gp < W.heap.size ∧ W.cell? ⟨gr, i, none⟩ = some (cellv W gr i) ∧ gr < W.heap.size ∧ W.frozen? ⟨gr, i, none⟩ = false
theorem stepS_mk {wd : World} {gp gr i : Nat} {R v : Value} (h : wd.cell? ⟨gp, 3, none⟩ = some R ∧ gp < wd.heap.size ∧ wd.cell? ⟨gr, i, none⟩ = some v ∧ gr < wd.heap.size ∧ wd.frozen? ⟨gr, i, none⟩ = false) : cellv wd gr i = v ∧ StepS gp gr i R wd := by
  obtain ⟨h1, h2, h3, h4, h5⟩ := h
  have e : cellv wd gr i = v := by unfold cellv; rw [h3]; rfl
  exact ⟨e, h1, h2, by rw [h3, e], h4, h5⟩
theorem stepS_set {wd : World} {gp gr i : Nat} {R u : Value} (h : StepS gp gr i R wd) (hne : gp ≠ gr) : StepS gp gr i R (wd.setCell ⟨gr, i, none⟩ u) := by
  obtain ⟨h1, h2, h3, h4, h5⟩ := h
  obtain ⟨v', hv'⟩ := cell?_setCell_some (w := wd) (p := ⟨gr, i, none⟩) (x := u) (q := ⟨gr, i, none⟩) (v := cellv wd gr i) h3
  have h6 : (wd.setCell ⟨gr, i, none⟩ u).cell? ⟨gp, 3, none⟩ = some R := (World.cell?_of_block (a := ⟨gp, 3, none⟩) (Below.heap_setCell wd ⟨gr, i, none⟩ u gp hne)).trans h1
  have e : cellv (wd.setCell ⟨gr, i, none⟩ u) gr i = v' := by unfold cellv; rw [hv']; rfl
  exact ⟨h6, by simpa [World.setCell] using h2, by rw [hv', e], by simpa [World.setCell] using h4, by simpa using h5⟩
/-- What stays, all through a step that writes its row. -/
def StepT (gp gr i : Nat) (R : Value) (W : World) : Prop := W.cell? ⟨gp, 3, none⟩ = some R ∧ gp < W.heap.size ∧ gr < W.heap.size ∧ W.frozen? ⟨gr, i, none⟩ = false
theorem stepT_mk {wd : World} {gp gr i : Nat} {R : Value} (h : wd.cell? ⟨gp, 3, none⟩ = some R ∧ gp < wd.heap.size ∧ gr < wd.heap.size ∧ wd.frozen? ⟨gr, i, none⟩ = false) : StepT gp gr i R wd := h
theorem stepT_set {wd : World} {gp gr i : Nat} {R u : Value} (h : StepT gp gr i R wd) (hne : gp ≠ gr) : StepT gp gr i R (wd.setCell ⟨gr, i, none⟩ u) := by
  obtain ⟨h1, h2, h4, h5⟩ := h
  have h6 : (wd.setCell ⟨gr, i, none⟩ u).cell? ⟨gp, 3, none⟩ = some R := (World.cell?_of_block (a := ⟨gp, 3, none⟩) (Below.heap_setCell wd ⟨gr, i, none⟩ u gp hne)).trans h1
  exact ⟨h6, by simpa [World.setCell] using h2, by simpa [World.setCell] using h4, by simpa using h5⟩
theorem gb_of {W W1 w6 : World} {v v' : Value} (h : W.grownBy w6 v.ownBlock) (hw : W = W1) (hv : v = v') : W1.grownBy w6 v'.ownBlock := by
  subst hw hv; exact h
theorem ob_of {W W1 : World} {v v' : Value} {g : Nat} (h : v.ownBlock = some g ∨ g = W.heap.size) (hw : W.heap.size = W1.heap.size) (hv : v = v') : v'.ownBlock = some g ∨ g = W1.heap.size := by
  subst hv; rw [← hw]; exact h
/-- What is known when the new row has been made and its cell is to be written. -/
structure NextFin (T : TypeId) (lo : Nat) (l : Line) (p : List (List Int)) (last : Int) (gp : Nat) (A0 : Option Addr) (c0 : Nat) (A2 : Option Addr) (c2 : Nat) (AR : Option Addr) (cR gr : Nat) (vs : Nat → Value) (i : Nat) (x : Int) (w w6 : World) (g cap : Nat) : Prop where
  post : Plc ((w6.setCell ⟨gr, i, none⟩ (.slice (some ⟨g, 0, none⟩) (rl p i + 1) cap)).setCell ⟨gp, 4, none⟩ (.int .i64 x)) lo T l (put p i x) x gp A0 c0 A2 c2 AR cR gr (upd vs i (.slice (some ⟨g, 0, none⟩) (rl p i + 1) cap)) ∧
    Chg (own3 gp gr (vs i)) w ((w6.setCell ⟨gr, i, none⟩ (.slice (some ⟨g, 0, none⟩) (rl p i + 1) cap)).setCell ⟨gp, 4, none⟩ (.int .i64 x)) ∧
    (∀ g', (Value.slice (some ⟨g, 0, none⟩) (rl p i + 1) cap).ownBlock = some g' → (vs i).ownBlock = some g' ∨ w.heap.size ≤ g')
  cells : w6.cell? ⟨gp, 4, none⟩ = some (.int .i64 last) ∧ w6.frozen? ⟨gp, 4, none⟩ = false ∧ gp < w6.heap.size
theorem nextFin_mk {w wd w6 : World} {o : Obj} {lo : Nat} {T : TypeId} {l : Line} {p : List (List Int)} {last x : Int} {gp : Nat} {A0 : Option Addr} {c0 : Nat} {A2 : Option Addr} {c2 : Nat} {AR : Option Addr} {cR gr : Nat} {vs : Nat → Value} {i g cap : Nat}
    (P : Plc w lo T l p last gp A0 c0 A2 c2 AR cR gr vs) (hi : i < l.trains.length) (hX : Ext w wd)
    (hown : w6.ownsRow lo 3 1 (.slice (some ⟨g, 0, none⟩) (rl p i + 1) cap) (rl p i + 1) (nums (p.getD i []) ++ (#[Value.int .i64 x] : Array Value).toList))
    (hgrow : (wd.alloc o).grownBy w6 (vs i).ownBlock) (hg : (vs i).ownBlock = some g ∨ g = (wd.alloc o).heap.size) : NextFin T lo l p last gp A0 c0 A2 c2 AR cR gr vs i x w w6 g cap :=
  ⟨plc_step P hi hX hown hgrow hg rfl, (plc_boxes P hi hX hgrow).2.2.2⟩
/-- A row's value in its cell. -/
theorem Plc.row_val {w : World} {lo : Nat} {T : TypeId} {l : Line} {p : List (List Int)} {last : Int} {gp : Nat} {A0 : Option Addr} {c0 : Nat} {A2 : Option Addr} {c2 : Nat} {AR : Option Addr} {cR gr : Nat} {vs : Nat → Value} (P : Plc w lo T l p last gp A0 c0 A2 c2 AR cR gr vs) {i : Nat} (hi : i < l.trains.length) {v : Value} (h : w.cell? ⟨gr, i, none⟩ = some v) : vs i = v := by
  obtain ⟨_, cs, hcs, hcv⟩ := P.base (by omega)
  rw [box_cell hcs, hcv i hi] at h
  simpa using h
/-! ### Looking for the first room -/
def UpOk (u r : Int) : Prop := (u = -1 ∧ r = 1099511627776) ∨ (u = r ∧ 0 ≤ r ∧ r < 1099511627776)
theorem UpOk.le {u r : Int} (h : UpOk u r) : r ≤ 1099511627776 := by
  rcases h with h | h <;> omega
theorem loM_ne {l : Line} {p : List (List Int)} {s a r : Int} {j m : Nat} (h : ¬ (l.leg j m).to = s) : loM l p s a j m r = r := by unfold loM; rw [if_neg h]
theorem loM_at {l : Line} {p : List (List Int)} {s a r e : Int} {j m : Nat} (h : (l.leg j m).to = s) (he : endT l p j m = e) : loM l p s a j m r = if a ≤ e ∧ e < r then e else r := by unfold loM; rw [if_pos h, he]; rfl
end Go.Proofs.Ythhkbfjolmgloaa
