/- A placer's memory as its own, what a step leaves of the rest; the first room, looked for leg by leg; spec.l2ready at a part of a plan. Condition: the line is right, the legs were placed so.
   What one step leaves of a placer's memory. Plain memory alone.
   The rows of a copy of a placer, while they are made. No condition.
   slices.Sort leaves a row of the same numbers. No condition. -/
import Derived.Test.YthhkbfjolmgloaaMHPlacer
import Derived.Test.YthhkbfjolmgloaaML0a
namespace Go.Proofs.Ythhkbfjolmgloaa
open Go.RowKit
set_option linter.unusedVariables false
set_option linter.unusedSimpArgs false
/-- Memory that has only grown, but for some blocks. -/
structure Chg (S : Nat → Prop) (w w' : World) : Prop where
  os : w'.os = w.os
  tape : w'.tape = w.tape
  output : w'.output = w.output
  size : w.heap.size ≤ w'.heap.size
  block : ∀ g, g < w.heap.size → ¬ S g → w'.heap[g]? = w.heap[g]?
section
variable {S S' : Nat → Prop} {a b c : World}
theorem Chg.of_ext (h : Ext a b) : Chg S a b := ⟨h.os, h.tape, h.output, h.size, fun g hg _ => h.block g hg⟩
theorem Chg.trans (h : Chg S a b) (k : Chg S b c) : Chg S a c := ⟨k.os.trans h.os, k.tape.trans h.tape, k.output.trans h.output, Nat.le_trans h.size k.size, fun g hg hs => (k.block g (Nat.lt_of_lt_of_le hg h.size) hs).trans (h.block g hg hs)⟩
theorem Chg.mono (h : Chg S a b) (hS : ∀ g, g < a.heap.size → S g → S' g) : Chg S' a b := ⟨h.os, h.tape, h.output, h.size, fun g hg hs => h.block g hg (fun hg' => hs (hS g hg hg'))⟩
theorem Chg.ext_left (h : Ext a b) (k : Chg S b c) : Chg S a c := (Chg.of_ext h).trans k
theorem Chg.setCell (h : Chg S a b) {g : Nat} (hg : S g ∨ a.heap.size ≤ g) (j : Nat) (u : Value) : Chg S a (b.setCell ⟨g, j, none⟩ u) := ⟨h.os, h.tape, h.output, by have := h.size; simpa [World.setCell] using this, fun k hk hs => (Below.heap_setCell b ⟨g, j, none⟩ u k (by rintro rfl; rcases hg with hg | hg; exact hs hg; omega)).trans (h.block k hk hs)⟩
theorem Chg.grown {row : Option Nat} (h : Chg S a b) (hg : b.grownBy c row) (hr : ∀ k, row = some k → S k ∨ a.heap.size ≤ k) : Chg S a c := ⟨hg.os.trans h.os, hg.tape.trans h.tape, hg.output.trans h.output, Nat.le_trans h.size hg.size, fun k hk hs => (hg.block k (Nat.lt_of_lt_of_le hk h.size) (fun e => by rcases hr k e.symm with q | q; exact hs q; omega)).trans (h.block k hk hs)⟩
theorem Chg.below {lo : Nat} (h : Chg S a b) (hS : ∀ g, S g → lo ≤ g) (hl : lo ≤ a.heap.size) : Below lo a b := ⟨h.os, h.tape, h.output, h.size, fun g hg => h.block g (by omega) (fun hs => by have := hS g hs; omega)⟩
theorem Chg.box (h : Chg S a b) {g : Nat} {o : Obj} (hg : a.heap[g]? = some o) (hs : ¬ S g) : b.heap[g]? = some o := (h.block g (box_lt hg) hs).trans hg
end
/-- A placer's memory, its own from block lo on. -/
structure Plc (w : World) (lo : Nat) (T : TypeId) (l : Line) (p : List (List Int)) (last : Int) (gp : Nat) (A0 : Option Addr) (c0 : Nat) (A2 : Option Addr) (c2 : Nat) (AR : Option Addr) (cR gr : Nat) (vs : Nat → Value) : Prop where
  line : ∀ W, Below lo w W → IsLine W l (.agg #[.slice A0 l.tracks.length c0, .int .i64 l.gap, .slice A2 l.trains.length c2])
  box : w.heap[gp]? = some (.cells #[.slice A0 l.tracks.length c0, .int .i64 l.gap, .slice A2 l.trains.length c2, .slice AR l.trains.length cR, .int .i64 last] T (0, 0))
  base : 0 < l.trains.length → AR = some ⟨gr, 0, none⟩ ∧ ∃ cs : Array Value, w.heap[gr]? = some (.cells cs 23 (0, 0)) ∧ ∀ i, i < l.trains.length → cs[i]? = some (vs i)
  own : ∀ i, i < l.trains.length → w.ownsRow lo 3 1 (vs i) (rl p i) (nums (p.getD i []))
  apart : ∀ i j g, i < l.trains.length → j < l.trains.length → i ≠ j → (vs i).ownBlock = some g → (vs j).ownBlock ≠ some g
  far : ∀ i g, i < l.trains.length → (vs i).ownBlock = some g → g ≠ gp ∧ g ≠ gr
  rows : p.length = l.trains.length
  lop : lo ≤ gp
  lor : lo ≤ gr
  ne : gp ≠ gr
theorem Plc.lo_le {w : World} {lo : Nat} {T : TypeId} {l : Line} {p : List (List Int)} {last : Int} {gp : Nat} {A0 : Option Addr} {c0 : Nat} {A2 : Option Addr} {c2 : Nat} {AR : Option Addr} {cR gr : Nat} {vs : Nat → Value} (h : Plc w lo T l p last gp A0 c0 A2 c2 AR cR gr vs) : lo ≤ w.heap.size := by
  have := box_lt h.box
  have := h.lop
  omega
theorem Plc.rd {w : World} {lo : Nat} {T : TypeId} {l : Line} {p : List (List Int)} {last : Int} {gp : Nat} {A0 : Option Addr} {c0 : Nat} {A2 : Option Addr} {c2 : Nat} {AR : Option Addr} {cR gr : Nat} {vs : Nat → Value} (h : Plc w lo T l p last gp A0 c0 A2 c2 AR cR gr vs) : RdP w l p last gp A0 c0 A2 c2 AR cR gr (fun i => (vs i).ownBlock.getD 0) where
  line := h.line w ⟨rfl, rfl, rfl, Nat.le_refl _, fun _ _ => rfl⟩
  b0 := box_cell h.box 0
  b1 := box_cell h.box 1
  b2 := box_cell h.box 2
  b3 := box_cell h.box 3
  b4 := box_cell h.box 4
  lt := box_lt h.box
  base := fun hn => by
    obtain ⟨h1, cs, h2, _⟩ := h.base hn
    exact ⟨h1, box_lt h2⟩
  row := fun i hi => by
    obtain ⟨_, cs, h2, h3⟩ := h.base (by omega)
    have hc := (box_cell h2 i).trans (h3 i hi)
    rcases (h.own i hi).2 with ⟨h4, h5⟩ | ⟨g, cap, cur, h4, h5, h6, _⟩
    · exact ⟨none, 0, by rw [hc, h4, h5], fun hz => by omega⟩
    · refine ⟨some ⟨g, 0, none⟩, cap, by rw [hc, h4], fun _ => ?_⟩
      rw [h4]
      exact ⟨rfl, box_lt h6⟩
  st := fun i k hi hk => by
    rcases (h.own i hi).2 with ⟨h4, h5⟩ | ⟨g, cap, cur, h4, h5, h6, h7, h8, h9, h10⟩
    · omega
    · have e : ((vs i).ownBlock.getD 0) = g := by rw [h4]; rfl
      rw [e, box_cell h6]
      have e2 : cur.toList[k]? = (nums (p.getD i []))[k]? := by rw [← h10, List.getElem?_take_of_lt (by omega)]
      have e3 : cur[k]? = cur.toList[k]? := by simp
      have hk' : k < (p.getD i []).length := hk
      obtain ⟨x, hx⟩ := some_of_lt hk'
      rw [e3, e2, st, getD_some hx]
      simp only [nums, List.getElem?_map, hx]
      rfl
/-- Blocks that a placer's step for a train may write. -/
def own3 (gp gr : Nat) (v : Value) (g : Nat) : Prop := g = gp ∨ g = gr ∨ v.ownBlock = some g
theorem rl_put {p : List (List Int)} {i : Nat} {t : Int} (hi : i < p.length) (j : Nat) : rl (put p i t) j = if j = i then rl p i + 1 else rl p j := put_len hi j
theorem row_put_i {p : List (List Int)} {i : Nat} {t : Int} (hi : i < p.length) : (put p i t).getD i [] = p.getD i [] ++ [t] := by rw [put_row hi, if_pos rfl]
theorem row_put_ne {p : List (List Int)} {i : Nat} {t : Int} (hi : i < p.length) {j : Nat} (h : j ≠ i) : (put p i t).getD j [] = p.getD j [] := by rw [put_row hi, if_neg h]
def upd (vs : Nat → Value) (i : Nat) (v : Value) (j : Nat) : Value := if j = i then v else vs j
/-! ### The first room -/
def loStep (a r e : Int) : Int := if a ≤ e ∧ e < r then e else r
theorem loU_cons (a e : Int) (E : List Int) (u : Int) : loU a (e :: E) u = loU a E (loStep a u e) := rfl
theorem loU_append (a : Int) : ∀ (E F : List Int) (u : Int), loU a (E ++ F) u = loU a F (loU a E u) := by
  intro E F u
  unfold loU
  rw [List.foldl_append]
def loM (l : Line) (p : List (List Int)) (s a : Int) (j m : Nat) (r : Int) : Int := if (l.leg j m).to = s then loStep a r (endT l p j m) else r
def loR (l : Line) (p : List (List Int)) (s a : Int) (j : Nat) (r : Int) : Int := foldF (loM l p s a j) 0 (rl p j) r
def loF (l : Line) (p : List (List Int)) (s a : Int) : Int := foldF (loR l p s a) 0 l.trains.length 1099511627776
theorem lo_ends (l : Line) (p : List (List Int)) (s a : Int) : lo (ends l p s) a = loF l p s a := by
  unfold lo ends loF
  have key : loU a (foldF (endsR l p s) 0 l.trains.length []) 1099511627776 = foldF (loR l p s a) 0 l.trains.length 1099511627776 := by
    refine foldF_rel (R := fun (E : List Int) (r : Int) => loU a E 1099511627776 = r) (fun j E r _ _ h => ?_) rfl
    unfold endsR loR
    refine foldF_rel (R := fun (E : List Int) (r : Int) => loU a E 1099511627776 = r) (fun m E r _ _ h => ?_) h
    unfold loM
    by_cases c : (l.leg j m).to = s
    · rw [if_pos c, if_pos c, loU_append, h]; rfl
    · rw [if_neg c, if_neg c]; exact h
  exact key
def upOf (r : Int) : Int := if r = 1099511627776 then -1 else r
set_option maxRecDepth 100000 in
set_option maxHeartbeats 1000000 in
theorem l2readyP_any {w : World} {l : Line} {p : List (List Int)} {last : Int} {gp : Nat} {A0 : Option Addr} {c0 : Nat} {A2 : Option Addr} {c2 : Nat} {AR : Option Addr} {cR gr : Nat} {br : Nat → Nat} (P : RdP w l p last gp A0 c0 A2 c2 AR cR gr br) (O : Ok l) (F : Few l p) {i : Nat} (hi : i < l.trains.length) (hk : rl p i < (l.tr i).legs.length) :
    Calls Try.prog 109 #[.agg #[.slice A0 l.tracks.length c0, .int .i64 l.gap, .slice A2 l.trains.length c2], .agg #[.slice AR l.trains.length cR], .int .i64 i, .int .i64 (rl p i)] w fun e w' => e = .returned (.int .i64 (readyT l p i (rl p i))) ∧ Ext w w' := by
  obtain ⟨A0', c0', A2', c2', hv, h0, h2⟩ := P.line
  simp only [Value.agg.injEq, Array.mk.injEq, List.cons.injEq, Value.slice.injEq, and_true, true_and] at hv
  obtain ⟨⟨rfl, rfl⟩, rfl, rfl⟩ := hv
  obtain ⟨b0, o0, b2, o2, bl, ol, cl, SL⟩ := seeL O h0 h2
  clear h0 h2
  have B := O.bd
  obtain ⟨rfl, hb2⟩ := SL.base2 (by omega)
  obtain ⟨rfl, hgr⟩ := P.base (by omega)
  obtain ⟨e0, e1, e2, e3, e4, hbl⟩ := SL.train i hi
  obtain ⟨Ai, ci, r0, hbi⟩ := P.row i hi
  obtain ⟨f0, f1, f2⟩ := SL.leg i (rl p i) hi hk
  obtain ⟨_, _, x1, x2, x3, x4⟩ := B.leg i (rl p i) hi hk
  have n10 := B.nl1 i hi
  have n5 := B.n5
  have t0 := B.tr i hi
  have hlt : i < l.trains.length := hi
  have d1 : bl i < w.heap.size + 1 := by omega
  have d2 : bl i < w.heap.size + 1 + 1 := by omega
  have d5 : gr < w.heap.size + 1 := by omega
  have d6 : gr < w.heap.size + 1 + 1 := by omega
  have hn5 : l.trains.length ≤ 5 := n5
  obtain ⟨k, HK⟩ : ∃ k, Hid (rl p i = k) := ⟨_, rfl⟩
  rw [HK.out] at r0 hbi f0 f1 f2 x1 x2 x3 x4 hk ⊢
  cases k with
  | zero =>
    have hA : Hid (readyT l p i 0 = (l.tr i).ready + (l.leg i 0).stay) := rfl
    simp only [Nat.zero_mul, Nat.add_zero] at f0 f1 f2
    clear SL P F O B hbi
    go_enter Try.func109, Try.ntmps109
    go_wp2_with fail
    go_quiet (fail)
    go_wp2_with fail
    go_ret
    exact ⟨ret_i64 hA.out.symm, (by repeat (first | (with_reducible assumption) | (with_reducible exact Ext.refl _) | apply Ext.alloc | apply Ext.drewN | apply Ext.drew))⟩
  | succ k =>
    have hA : Hid (readyT l p i (k + 1) = st p i k + (l.leg i k).run + (l.leg i (k + 1)).stay) := by simp [Hid, readyT]
    have hk1 : k < (l.tr i).legs.length := by omega
    obtain ⟨rfl, hbr⟩ := hbi (by omega)
    have d3 : br i < w.heap.size + 1 := by omega
    have d4 : br i < w.heap.size + 1 + 1 := by omega
    obtain ⟨g0, g1, g2⟩ := SL.leg i k hi hk1
    have hkr : k < rl p i := by rw [HK.out]; omega
    have s0 := P.st i k hi hkr
    obtain ⟨_, _, y1, y2, y3, y4⟩ := B.leg i k hi hk1
    obtain ⟨z1, z2⟩ := F.at_ i k hi hkr
    clear SL P F O B hkr hbi
    go_enter Try.func109, Try.ntmps109
    go_wp2_with fail
    go_quiet (fail)
    go_wp2_with fail
    go_ret
    exact ⟨ret_i64 hA.out.symm, (by repeat (first | (with_reducible assumption) | (with_reducible exact Ext.refl _) | apply Ext.alloc | apply Ext.drewN | apply Ext.drew))⟩
end Go.Proofs.Ythhkbfjolmgloaa
namespace Go.Proofs.Ythhkbfjolmgloaa
open Go.RowKit
set_option linter.unusedVariables false
set_option linter.unusedSimpArgs false
theorem ownsRow_set_far {w : World} {B : Nat} {e : TypeId} {size : Nat} {v : Value} {n : Nat} {xs : List Value} (h : w.ownsRow B e size v n xs) {g : Nat} (hg : v.ownBlock ≠ some g) (j : Nat) (u : Value) : (w.setCell ⟨g, j, none⟩ u).ownsRow B e size v n xs :=
  World.ownsRow.kept (row := some g) h ⟨rfl, rfl, rfl, by simp, fun k _ hk => Below.heap_setCell w ⟨g, j, none⟩ u k (fun e => hk (by rw [e]))⟩ (Or.inr hg)
theorem ownBlock_slice (g n c : Nat) : (Value.slice (some ⟨g, 0, none⟩) n c).ownBlock = some g := rfl
theorem plc_step {w wd w6 : World} {o : Obj} {lo : Nat} {T : TypeId} {l : Line} {p : List (List Int)} {last x : Int} {gp : Nat} {A0 : Option Addr} {c0 : Nat} {A2 : Option Addr} {c2 : Nat} {AR : Option Addr} {cR gr : Nat} {vs : Nat → Value} {i g cap H : Nat}
    (P : Plc w lo T l p last gp A0 c0 A2 c2 AR cR gr vs) (hi : i < l.trains.length) (hX : Ext w wd)
    (hown : w6.ownsRow lo 3 1 (.slice (some ⟨g, 0, none⟩) (rl p i + 1) cap) (rl p i + 1) (nums (p.getD i []) ++ (#[Value.int .i64 x] : Array Value).toList))
    (hgrow : (wd.alloc o).grownBy w6 (vs i).ownBlock) (hg : (vs i).ownBlock = some g ∨ g = H) (hH : (wd.alloc o).heap.size = H) :
    Plc ((w6.setCell ⟨gr, i, none⟩ (.slice (some ⟨g, 0, none⟩) (rl p i + 1) cap)).setCell ⟨gp, 4, none⟩ (.int .i64 x)) lo T l (put p i x) x gp A0 c0 A2 c2 AR cR gr (upd vs i (.slice (some ⟨g, 0, none⟩) (rl p i + 1) cap)) ∧
    Chg (own3 gp gr (vs i)) w ((w6.setCell ⟨gr, i, none⟩ (.slice (some ⟨g, 0, none⟩) (rl p i + 1) cap)).setCell ⟨gp, 4, none⟩ (.int .i64 x)) ∧
    (∀ g', (Value.slice (some ⟨g, 0, none⟩) (rl p i + 1) cap).ownBlock = some g' → (vs i).ownBlock = some g' ∨ w.heap.size ≤ g') := by
  have hXa : Ext w (wd.alloc o) := hX.alloc o
  have hHs : w.heap.size ≤ H := by rw [← hH]; exact hXa.size
  have C6 : Chg (own3 gp gr (vs i)) w w6 := (Chg.of_ext hXa).grown hgrow (fun k hk => Or.inl (Or.inr (Or.inr hk)))
  obtain ⟨hAR, cs, hcs, hcv⟩ := P.base (by omega)
  have hgpl := box_lt P.box
  have hgrl := box_lt hcs
  have hip : i < p.length := by rw [P.rows]; exact hi
  have hfi : ∀ g', (vs i).ownBlock = some g' → g' ≠ gp ∧ g' ≠ gr := fun g' h => P.far i g' hi h
  have hgne : g ≠ gp ∧ g ≠ gr := by
    rcases hg with h | h
    · exact hfi g h
    · omega
  have bp6 : w6.heap[gp]? = some (.cells #[.slice A0 l.tracks.length c0, .int .i64 l.gap, .slice A2 l.trains.length c2, .slice AR l.trains.length cR, .int .i64 last] T (0, 0)) := (hgrow.block gp (box_lt (hXa.box P.box)) (fun e => (hfi gp e.symm).1 rfl)).trans (hXa.box P.box)
  have br6 : w6.heap[gr]? = some (.cells cs 23 (0, 0)) := (hgrow.block gr (box_lt (hXa.box hcs)) (fun e => (hfi gr e.symm).2 rfl)).trans (hXa.box hcs)
  have bp := box_set (box_set_far bp6 i (.slice (some ⟨g, 0, none⟩) (rl p i + 1) cap) P.ne) 4 (.int .i64 x)
  have br := box_set_far (box_set br6 i (.slice (some ⟨g, 0, none⟩) (rl p i + 1) cap)) 4 (.int .i64 x) (Ne.symm P.ne)
  have C : Chg (own3 gp gr (vs i)) w ((w6.setCell ⟨gr, i, none⟩ (.slice (some ⟨g, 0, none⟩) (rl p i + 1) cap)).setCell ⟨gp, 4, none⟩ (.int .i64 x)) := (C6.setCell (Or.inl (Or.inr (Or.inl rfl))) _ _).setCell (Or.inl (Or.inl rfl)) _ _
  have hlo : ∀ g', own3 gp gr (vs i) g' → lo ≤ g' := by
    rintro g' (rfl | rfl | h)
    · exact P.lop
    · exact P.lor
    · exact ((P.own i hi).lt g' h).1
  have hB := C.below hlo P.lo_le
  have hi' : i < cs.size := by
    have := hcv i hi
    exact (Array.getElem?_eq_some_iff.1 this).1
  refine ⟨⟨fun W hW => P.line W (hB.trans hW), by simpa using bp, fun _ => ⟨hAR, _, br, fun j hj => ?_⟩, fun j hj => ?_, fun a b g' ha hb hab h1 h2 => ?_, fun a g' ha h1 => ?_, by rw [put_length]; exact P.rows, P.lop, P.lor, P.ne⟩, C, fun g' h => ?_⟩
  · unfold upd
    by_cases e : j = i
    · subst e
      rw [if_pos rfl, Array.getElem?_setIfInBounds_self_of_lt hi']
    · rw [if_neg e, Array.getElem?_setIfInBounds_ne (Ne.symm e)]
      exact hcv j hj
  · rw [rl_put hip]
    unfold upd
    by_cases e : j = i
    · subst e
      rw [if_pos rfl, if_pos rfl, row_put_i hip, nums_append]
      exact ownsRow_set_far (ownsRow_set_far hown (by rw [ownBlock_slice]; simp only [ne_eq, Option.some.injEq]; exact hgne.2) _ _) (by rw [ownBlock_slice]; simp only [ne_eq, Option.some.injEq]; exact hgne.1) _ _
    · rw [if_neg e, if_neg e, row_put_ne hip e]
      have h6 := World.ownsRow.kept (ownsRow_ext (P.own j hj) hXa) hgrow (by
        cases hb : (vs j).ownBlock with
        | none => exact Or.inl rfl
        | some gj => exact Or.inr (fun e2 => P.apart j i gj hj hi e hb e2.symm))
      exact ownsRow_set_far (ownsRow_set_far h6 (fun h => (P.far j gr hj h).2 rfl) _ _) (fun h => (P.far j gp hj h).1 rfl) _ _
  · unfold upd at h1 h2
    by_cases ea : a = i
    · rw [if_pos ea] at h1
      rw [if_neg (fun e => hab (by rw [ea, e]))] at h2
      rw [ownBlock_slice] at h1
      simp only [Option.some.injEq] at h1
      subst h1
      rcases hg with h | h
      · exact P.apart i b g hi hb (fun e => hab (by rw [ea, e])) h h2
      · have := ((P.own b hb).lt g h2).2
        omega
    · rw [if_neg ea] at h1
      by_cases eb : b = i
      · rw [if_pos eb, ownBlock_slice] at h2
        simp only [Option.some.injEq] at h2
        subst h2
        rcases hg with h | h
        · exact P.apart a i g ha hi ea h1 h
        · have := ((P.own a ha).lt g h1).2
          omega
      · rw [if_neg eb] at h2
        exact P.apart a b g' ha hb hab h1 h2
  · unfold upd at h1
    by_cases ea : a = i
    · rw [if_pos ea, ownBlock_slice] at h1
      simp only [Option.some.injEq] at h1
      subst h1
      exact hgne
    · rw [if_neg ea] at h1
      exact P.far a g' ha h1
  · rw [ownBlock_slice] at h
    simp only [Option.some.injEq] at h
    subst h
    rcases hg with h | h
    · exact Or.inl h
    · exact Or.inr (by omega)
theorem plc_boxes {w wd w6 : World} {o : Obj} {lo : Nat} {T : TypeId} {l : Line} {p : List (List Int)} {last : Int} {gp : Nat} {A0 : Option Addr} {c0 : Nat} {A2 : Option Addr} {c2 : Nat} {AR : Option Addr} {cR gr : Nat} {vs : Nat → Value} {i : Nat}
    (P : Plc w lo T l p last gp A0 c0 A2 c2 AR cR gr vs) (hi : i < l.trains.length) (hX : Ext w wd) (hgrow : (wd.alloc o).grownBy w6 (vs i).ownBlock) :
    w6.cell? ⟨gr, i, none⟩ = some (vs i) ∧ w6.frozen? ⟨gr, i, none⟩ = false ∧ gr < w6.heap.size ∧ w6.cell? ⟨gp, 4, none⟩ = some (.int .i64 last) ∧ w6.frozen? ⟨gp, 4, none⟩ = false ∧ gp < w6.heap.size := by
  have hXa : Ext w (wd.alloc o) := hX.alloc o
  obtain ⟨hAR, cs, hcs, hcv⟩ := P.base (by omega)
  have hfi : ∀ g', (vs i).ownBlock = some g' → g' ≠ gp ∧ g' ≠ gr := fun g' h => P.far i g' hi h
  have bp6 := (hgrow.block gp (box_lt (hXa.box P.box)) (fun e => (hfi gp e.symm).1 rfl)).trans (hXa.box P.box)
  have br6 := (hgrow.block gr (box_lt (hXa.box hcs)) (fun e => (hfi gr e.symm).2 rfl)).trans (hXa.box hcs)
  exact ⟨(box_cell br6 i).trans (hcv i hi), box_frozen br6 i, box_lt br6, box_cell bp6 4, box_frozen bp6 4, box_lt bp6⟩
theorem plc_facts {w wd : World} {lo : Nat} {T : TypeId} {l : Line} {p : List (List Int)} {last : Int} {gp : Nat} {A0 : Option Addr} {c0 : Nat} {A2 : Option Addr} {c2 : Nat} {AR : Option Addr} {cR gr : Nat} {vs : Nat → Value} {i : Nat}
    (P : Plc w lo T l p last gp A0 c0 A2 c2 AR cR gr vs) (hi : i < l.trains.length) (hX : Ext w wd) :
    wd.cell? ⟨gp, 3, none⟩ = some (.slice AR l.trains.length cR) ∧ gp < wd.heap.size ∧ wd.cell? ⟨gr, i, none⟩ = some (vs i) ∧ gr < wd.heap.size ∧ wd.frozen? ⟨gr, i, none⟩ = false := by
  obtain ⟨hAR, cs, hcs, hcv⟩ := P.base (by omega)
  have bp := hX.box P.box
  have br := hX.box hcs
  exact ⟨box_cell bp 3, box_lt bp, (box_cell br i).trans (hcv i hi), box_lt br, box_frozen br i⟩
theorem plc_facts6 {w wd w6 : World} {o : Obj} {lo : Nat} {T : TypeId} {l : Line} {p : List (List Int)} {last : Int} {gp : Nat} {A0 : Option Addr} {c0 : Nat} {A2 : Option Addr} {c2 : Nat} {AR : Option Addr} {cR gr : Nat} {vs : Nat → Value} {i : Nat}
    (P : Plc w lo T l p last gp A0 c0 A2 c2 AR cR gr vs) (hi : i < l.trains.length) (hX : Ext w wd) (hgrow : (wd.alloc o).grownBy w6 (vs i).ownBlock) :
    w6.cell? ⟨gp, 3, none⟩ = some (.slice AR l.trains.length cR) ∧ gp < w6.heap.size ∧ w6.cell? ⟨gr, i, none⟩ = some (vs i) ∧ gr < w6.heap.size ∧ w6.frozen? ⟨gr, i, none⟩ = false := by
  have hXa : Ext w (wd.alloc o) := hX.alloc o
  obtain ⟨hAR, cs, hcs, hcv⟩ := P.base (by omega)
  have hfi : ∀ g', (vs i).ownBlock = some g' → g' ≠ gp ∧ g' ≠ gr := fun g' h => P.far i g' hi h
  have bp6 := (hgrow.block gp (box_lt (hXa.box P.box)) (fun e => (hfi gp e.symm).1 rfl)).trans (hXa.box P.box)
  have br6 := (hgrow.block gr (box_lt (hXa.box hcs)) (fun e => (hfi gr e.symm).2 rfl)).trans (hXa.box hcs)
  exact ⟨box_cell bp6 3, box_lt bp6, (box_cell br6 i).trans (hcv i hi), box_lt br6, box_frozen br6 i⟩
def cellv (W : World) (g j : Nat) : Value := (W.cell? ⟨g, j, none⟩).getD undef
/-- What a step reads while it writes its row. -/
def StepS (gp gr i : Nat) (R : Value) (W : World) : Prop := W.cell? ⟨gp, 3, none⟩ = some R ∧ gp < W.heap.size ∧ W.cell? ⟨gr, i, none⟩ = some (cellv W gr i) ∧ gr < W.heap.size ∧ W.frozen? ⟨gr, i, none⟩ = false
theorem stepS_mk {wd : World} {gp gr i : Nat} {R v : Value} (h : wd.cell? ⟨gp, 3, none⟩ = some R ∧ gp < wd.heap.size ∧ wd.cell? ⟨gr, i, none⟩ = some v ∧ gr < wd.heap.size ∧ wd.frozen? ⟨gr, i, none⟩ = false) : cellv wd gr i = v ∧ StepS gp gr i R wd := by
  obtain ⟨h1, h2, h3, h4, h5⟩ := h
  have e : cellv wd gr i = v := by unfold cellv; rw [h3]; rfl
  exact ⟨e, h1, h2, by rw [h3, e], h4, h5⟩
theorem stepS_set {wd : World} {gp gr i : Nat} {R u : Value} (h : StepS gp gr i R wd) (hne : gp ≠ gr) : StepS gp gr i R (wd.setCell ⟨gr, i, none⟩ u) := by
  obtain ⟨h1, h2, h3, h4, h5⟩ := h
  obtain ⟨v', hv'⟩ := cell?_setCell_some (w := wd) (p := ⟨gr, i, none⟩) (x := u) (q := ⟨gr, i, none⟩) (v := cellv wd gr i) h3
  have h6 : (wd.setCell ⟨gr, i, none⟩ u).cell? ⟨gp, 3, none⟩ = some R := (World.cell?_of_block (a := ⟨gp, 3, none⟩) (Below.heap_setCell wd ⟨gr, i, none⟩ u gp hne)).trans h1
  have e : cellv (wd.setCell ⟨gr, i, none⟩ u) gr i = v' := by unfold cellv; rw [hv']; rfl
  exact ⟨h6, by simpa [World.setCell] using h2, by rw [hv', e], by simpa [World.setCell] using h4, by simpa using h5⟩
/-- What stays, all through a step that writes its row. -/
def StepT (gp gr i : Nat) (R : Value) (W : World) : Prop := W.cell? ⟨gp, 3, none⟩ = some R ∧ gp < W.heap.size ∧ gr < W.heap.size ∧ W.frozen? ⟨gr, i, none⟩ = false
theorem stepT_mk {wd : World} {gp gr i : Nat} {R : Value} (h : wd.cell? ⟨gp, 3, none⟩ = some R ∧ gp < wd.heap.size ∧ gr < wd.heap.size ∧ wd.frozen? ⟨gr, i, none⟩ = false) : StepT gp gr i R wd := h
theorem stepT_set {wd : World} {gp gr i : Nat} {R u : Value} (h : StepT gp gr i R wd) (hne : gp ≠ gr) : StepT gp gr i R (wd.setCell ⟨gr, i, none⟩ u) := by
  obtain ⟨h1, h2, h4, h5⟩ := h
  have h6 : (wd.setCell ⟨gr, i, none⟩ u).cell? ⟨gp, 3, none⟩ = some R := (World.cell?_of_block (a := ⟨gp, 3, none⟩) (Below.heap_setCell wd ⟨gr, i, none⟩ u gp hne)).trans h1
  exact ⟨h6, by simpa [World.setCell] using h2, by simpa [World.setCell] using h4, by simpa using h5⟩
theorem gb_of {W W1 w6 : World} {v v' : Value} (h : W.grownBy w6 v.ownBlock) (hw : W = W1) (hv : v = v') : W1.grownBy w6 v'.ownBlock := by
  subst hw hv; exact h
theorem ob_of {W W1 : World} {v v' : Value} {g : Nat} (h : v.ownBlock = some g ∨ g = W.heap.size) (hw : W.heap.size = W1.heap.size) (hv : v = v') : v'.ownBlock = some g ∨ g = W1.heap.size := by
  subst hv; rw [← hw]; exact h
/-- What is known when the new row has been made and its cell is to be written. -/
structure NextFin (T : TypeId) (lo : Nat) (l : Line) (p : List (List Int)) (last : Int) (gp : Nat) (A0 : Option Addr) (c0 : Nat) (A2 : Option Addr) (c2 : Nat) (AR : Option Addr) (cR gr : Nat) (vs : Nat → Value) (i : Nat) (x : Int) (w w6 : World) (g cap : Nat) : Prop where
  post : Plc ((w6.setCell ⟨gr, i, none⟩ (.slice (some ⟨g, 0, none⟩) (rl p i + 1) cap)).setCell ⟨gp, 4, none⟩ (.int .i64 x)) lo T l (put p i x) x gp A0 c0 A2 c2 AR cR gr (upd vs i (.slice (some ⟨g, 0, none⟩) (rl p i + 1) cap)) ∧
    Chg (own3 gp gr (vs i)) w ((w6.setCell ⟨gr, i, none⟩ (.slice (some ⟨g, 0, none⟩) (rl p i + 1) cap)).setCell ⟨gp, 4, none⟩ (.int .i64 x)) ∧
    (∀ g', (Value.slice (some ⟨g, 0, none⟩) (rl p i + 1) cap).ownBlock = some g' → (vs i).ownBlock = some g' ∨ w.heap.size ≤ g')
  cells : w6.cell? ⟨gp, 4, none⟩ = some (.int .i64 last) ∧ w6.frozen? ⟨gp, 4, none⟩ = false ∧ gp < w6.heap.size
theorem nextFin_mk {w wd w6 : World} {o : Obj} {lo : Nat} {T : TypeId} {l : Line} {p : List (List Int)} {last x : Int} {gp : Nat} {A0 : Option Addr} {c0 : Nat} {A2 : Option Addr} {c2 : Nat} {AR : Option Addr} {cR gr : Nat} {vs : Nat → Value} {i g cap : Nat}
    (P : Plc w lo T l p last gp A0 c0 A2 c2 AR cR gr vs) (hi : i < l.trains.length) (hX : Ext w wd)
    (hown : w6.ownsRow lo 3 1 (.slice (some ⟨g, 0, none⟩) (rl p i + 1) cap) (rl p i + 1) (nums (p.getD i []) ++ (#[Value.int .i64 x] : Array Value).toList))
    (hgrow : (wd.alloc o).grownBy w6 (vs i).ownBlock) (hg : (vs i).ownBlock = some g ∨ g = (wd.alloc o).heap.size) : NextFin T lo l p last gp A0 c0 A2 c2 AR cR gr vs i x w w6 g cap :=
  ⟨plc_step P hi hX hown hgrow hg rfl, (plc_boxes P hi hX hgrow).2.2.2⟩
/-- A row's value in its cell. -/
theorem Plc.row_val {w : World} {lo : Nat} {T : TypeId} {l : Line} {p : List (List Int)} {last : Int} {gp : Nat} {A0 : Option Addr} {c0 : Nat} {A2 : Option Addr} {c2 : Nat} {AR : Option Addr} {cR gr : Nat} {vs : Nat → Value} (P : Plc w lo T l p last gp A0 c0 A2 c2 AR cR gr vs) {i : Nat} (hi : i < l.trains.length) {v : Value} (h : w.cell? ⟨gr, i, none⟩ = some v) : vs i = v := by
  obtain ⟨_, cs, hcs, hcv⟩ := P.base (by omega)
  rw [box_cell hcs, hcv i hi] at h
  simpa using h
/-! ### Looking for the first room -/
def UpOk (u r : Int) : Prop := (u = -1 ∧ r = 1099511627776) ∨ (u = r ∧ 0 ≤ r ∧ r < 1099511627776)
theorem UpOk.le {u r : Int} (h : UpOk u r) : r ≤ 1099511627776 := by
  rcases h with h | h <;> omega
theorem loM_ne {l : Line} {p : List (List Int)} {s a r : Int} {j m : Nat} (h : ¬ (l.leg j m).to = s) : loM l p s a j m r = r := by unfold loM; rw [if_neg h]
theorem loM_at {l : Line} {p : List (List Int)} {s a r e : Int} {j m : Nat} (h : (l.leg j m).to = s) (he : endT l p j m = e) : loM l p s a j m r = if a ≤ e ∧ e < r then e else r := by unfold loM; rw [if_pos h, he]; rfl
end Go.Proofs.Ythhkbfjolmgloaa
namespace Go.Proofs.Ythhkbfjolmgloaa
open Go.RowKit Go.Deep
set_option linter.unusedVariables false
set_option linter.unusedSimpArgs false
structure CpI (w : World) (B : Nat) (p : List (List Int)) (jj : Nat) (v : Value) (vs : Nat → Value) : Prop where
  own : w.ownsRow B 23 1 v jj ((List.range jj).map vs)
  rows : ∀ i, i < jj → w.ownsRow B 3 1 (vs i) (rl p i) (nums (p.getD i []))
  far : ∀ i g, i < jj → (vs i).ownBlock = some g → v.ownBlock ≠ some g
  apart : ∀ i j g, i < jj → j < jj → i ≠ j → (vs i).ownBlock = some g → (vs j).ownBlock ≠ some g
theorem CpI.start (w : World) (B : Nat) (p : List (List Int)) (vs : Nat → Value) : CpI w B p 0 (.slice none 0 0) vs :=
  ⟨World.ownsRow_nil _ _ _ _, fun i hi => absurd hi (by omega), fun i g hi => absurd hi (by omega), fun i j g hi => absurd hi (by omega)⟩
theorem CpI.ext {w w' : World} {B : Nat} {p : List (List Int)} {jj : Nat} {v : Value} {vs : Nat → Value} (h : CpI w B p jj v vs) (e : Ext w w') : CpI w' B p jj v vs :=
  ⟨ownsRow_ext h.own e, fun i hi => ownsRow_ext (h.rows i hi) e, h.far, h.apart⟩
theorem CpI.set_far {w : World} {B : Nat} {p : List (List Int)} {jj : Nat} {v : Value} {vs : Nat → Value} (h : CpI w B p jj v vs) {g : Nat} (hg : g < B) (j : Nat) (u : Value) : CpI (w.setCell ⟨g, j, none⟩ u) B p jj v vs :=
  ⟨ownsRow_set_far h.own (fun e => by have := (h.own.lt g e).1; omega) j u, fun i hi => ownsRow_set_far (h.rows i hi) (fun e => by have := ((h.rows i hi).lt g e).1; omega) j u, h.far, h.apart⟩
theorem cp_step {w wb wd : World} {o o' : Obj} {B g g' cap cap' jj : Nat} {p : List (List Int)} {v : Value} {vs : Nat → Value} (C : CpI w B p jj v vs) (hB : B ≤ w.heap.size)
    (h2 : wb.ownsRow w.heap.size 3 1 (.slice (some ⟨g, 0, none⟩) (rl p jj) cap) (rl p jj) (nums (p.getD jj []))) (hb : (w.alloc o).grownBy wb (some w.heap.size)) (hg : w.heap.size ≤ g)
    (hd : (wb.alloc o').grownBy wd v.ownBlock) (hown : wd.ownsRow B 23 1 (.slice (some ⟨g', 0, none⟩) (jj + 1) cap') (jj + 1) ((List.range jj).map vs ++ [.slice (some ⟨g, 0, none⟩) (rl p jj) cap]))
    (hg0 : v.ownBlock = some g' ∨ g' = (wb.alloc o').heap.size) :
    CpI wd B p (jj + 1) (.slice (some ⟨g', 0, none⟩) (jj + 1) cap') (upd vs jj (.slice (some ⟨g, 0, none⟩) (rl p jj) cap)) := by
  have hg' : v.ownBlock = some g' ∨ wb.heap.size ≤ g' := hg0.imp id (fun h => by rw [h, alloc_size]; omega)
  have hsa : (w.alloc o).heap.size = w.heap.size + 1 := alloc_size _ _
  have hsb := hb.size
  have hvl : ∀ k, v.ownBlock = some k → k < w.heap.size := fun k h => (C.own.lt k h).2
  have hgl : g < wb.heap.size := (h2.lt g (ownBlock_slice _ _ _)).2
  have hrl : ∀ i k, i < jj → (vs i).ownBlock = some k → k < w.heap.size := fun i k hi h => ((C.rows i hi).lt k h).2
  refine ⟨?_, fun i hi => ?_, fun i k hi h => ?_, fun i j k hi hj hne h1 h3 => ?_⟩
  · have e : (List.range (jj + 1)).map (upd vs jj (.slice (some ⟨g, 0, none⟩) (rl p jj) cap)) = (List.range jj).map vs ++ [.slice (some ⟨g, 0, none⟩) (rl p jj) cap] := by
      rw [List.range_succ, List.map_append]
      congr 1
      · refine List.map_congr_left fun i hi => ?_
        have := List.mem_range.1 hi
        unfold upd
        rw [if_neg (by omega)]
      · simp [upd]
    rw [e]; exact hown
  · unfold upd
    by_cases e : i = jj
    · subst e
      rw [if_pos rfl]
      exact ownsRow_mono (World.ownsRow.kept (h2.alloc o') hd (Or.inr (fun h => by rw [ownBlock_slice] at h; have := hvl g h.symm; omega))) hB
    · rw [if_neg e]
      have hi' : i < jj := by omega
      have h6 := World.ownsRow.kept ((C.rows i hi').alloc o) hb (by
        cases hk : (vs i).ownBlock with
        | none => exact Or.inl rfl
        | some k => exact Or.inr (fun e2 => by simp only [Option.some.injEq] at e2; have := hrl i k hi' hk; omega))
      exact World.ownsRow.kept (h6.alloc o') hd (by
        cases hk : (vs i).ownBlock with
        | none => exact Or.inl rfl
        | some k => exact Or.inr (fun e2 => C.far i k hi' hk e2.symm))
  · rw [ownBlock_slice]
    simp only [ne_eq, Option.some.injEq]
    intro e
    subst e
    unfold upd at h
    by_cases e : i = jj
    · rw [if_pos e, ownBlock_slice] at h
      simp only [Option.some.injEq] at h
      rcases hg' with h4 | h4
      · have := hvl _ h4; omega
      · omega
    · rw [if_neg e] at h
      have hi' : i < jj := by omega
      rcases hg' with h4 | h4
      · exact C.far i _ hi' h h4
      · have := hrl i _ hi' h; omega
  · unfold upd at h1 h3
    by_cases ei : i = jj
    · rw [if_pos ei, ownBlock_slice] at h1
      simp only [Option.some.injEq] at h1
      rw [if_neg (by omega)] at h3
      have := hrl j k (by omega) h3
      omega
    · rw [if_neg ei] at h1
      have hk := hrl i k (by omega) h1
      by_cases ej : j = jj
      · rw [if_pos ej, ownBlock_slice] at h3
        simp only [Option.some.injEq] at h3
        omega
      · rw [if_neg ej] at h3
        exact C.apart i j k (by omega) (by omega) hne h1 h3
theorem copy_stepN {ops : Array Oper} {o : Oper} {a : Act} {w : World} {Q : Exit → Act → World → Prop} {K : Act → World → Prop} {E : Prop} (hgd : o.guard = none) (s x : Operand)
    (ho : o.op = .call { callee := .builtin .append, args := #[s, x], argTypes := #[23, 23] }) (H0 : Nat) (hs : a.eval s = .slice (some ⟨H0, 0, none⟩) 0 0) (hb : w.heap[H0]? = some (.cells #[] 3 (0, 0)))
    (A : Option Addr) (c n : Nat) (row : List Int) (hnr : row.length = n) (hx : a.eval x = .slice A n c) (hA : RdInt w A row) (hn : n ≤ 1000000)
    (h : ∀ g cap w', w'.ownsRow H0 3 1 (.slice (some ⟨g, 0, none⟩) n cap) n (nums row) → w.grownBy w' (some H0) → H0 ≤ g → g < w'.heap.size → K (a.put o.dst (.slice (some ⟨g, 0, none⟩) n cap)) w') :
    if Region.wanted o (yielded ops a.tmps) = true then Oper.wp Try.prog o a w K Q else E := by
  subst hnr
  exact copy_step hgd s x ho H0 hs hb A c row hx hA hn h
theorem plc_copy {w w' : World} {B : Nat} {l : Line} {p : List (List Int)} {last : Int} {gp : Nat} {A0 : Option Addr} {c0 : Nat} {A2 : Option Addr} {c2 : Nat} {AR : Option Addr} {cR gr : Nat} {vs vs' : Nat → Value} {v : Value} (P : Plc w B 138 l p last gp A0 c0 A2 c2 AR cR gr vs) (hE : Ext w w')
    (box : w'.heap[w.heap.size]? = some (.cells #[.slice A0 l.tracks.length c0, .int .i64 l.gap, .slice A2 l.trains.length c2, v, .int .i64 last] 138 (0, 0))) (C : CpI w' (w.heap.size + 1) p l.trains.length v vs') :
    ∃ AR' cR' gr', v = .slice AR' l.trains.length cR' ∧ Plc w' w.heap.size 138 l p last w.heap.size A0 c0 A2 c2 AR' cR' gr' vs' := by
  have hline : ∀ W, Below w.heap.size w' W → IsLine W l (.agg #[.slice A0 l.tracks.length c0, .int .i64 l.gap, .slice A2 l.trains.length c2]) := fun W hW => P.line W ((Below.trans hE hW).mono P.lo_le)
  have hown : ∀ i, i < l.trains.length → w'.ownsRow w.heap.size 3 1 (vs' i) (rl p i) (nums (p.getD i [])) := fun i hi => ownsRow_mono (C.rows i hi) (by omega)
  rcases C.own.2 with ⟨h1, h2⟩ | ⟨g, cap, cur, h1, h2, h3, h4, h5, h6, h7⟩
  · exact ⟨none, 0, w.heap.size + 1, by rw [h1, h2], hline, by rw [box, h1, h2], fun hn => by omega, hown, C.apart, (fun i g hi => by omega), P.rows, Nat.le_refl _, by omega, by omega⟩
  · refine ⟨some ⟨g, 0, none⟩, cap, g, h1, hline, by rw [box, h1], fun _ => ⟨rfl, cur, h3, fun i hi => ?_⟩, hown, C.apart, (fun i k hi h => ⟨by have := ((C.rows i hi).lt k h).1; omega, fun e => C.far i k hi h (by rw [h1, e]; rfl)⟩), P.rows, Nat.le_refl _, by omega, by omega⟩
    have e : cur.toList[i]? = ((List.range l.trains.length).map vs')[i]? := by rw [← h7, List.getElem?_take_of_lt (by omega)]
    have e2 : cur[i]? = cur.toList[i]? := by simp
    rw [e2, e]
    simp [hi]
theorem cp_stepN {w wb wd : World} {o o' : Obj} {B g g' cap cap' jj n : Nat} {row : List Int} {p : List (List Int)} {v : Value} {vs : Nat → Value} (hn : rl p jj = n) (hrow : p.getD jj [] = row) (C : CpI w B p jj v vs) (hB : B ≤ w.heap.size)
    (h2 : wb.ownsRow w.heap.size 3 1 (.slice (some ⟨g, 0, none⟩) n cap) n (nums row)) (hb : (w.alloc o).grownBy wb (some w.heap.size)) (hg : w.heap.size ≤ g)
    (hd : (wb.alloc o').grownBy wd v.ownBlock) (hown : wd.ownsRow B 23 1 (.slice (some ⟨g', 0, none⟩) (jj + 1) cap') (jj + 1) ((List.range jj).map vs ++ [.slice (some ⟨g, 0, none⟩) n cap]))
    (hg0 : v.ownBlock = some g' ∨ g' = (wb.alloc o').heap.size) :
    CpI wd B p (jj + 1) (.slice (some ⟨g', 0, none⟩) (jj + 1) cap') (upd vs jj (.slice (some ⟨g, 0, none⟩) n cap)) := by
  subst hn; subst hrow
  exact cp_step C hB h2 hb hg hd hown hg0
end Go.Proofs.Ythhkbfjolmgloaa
namespace Go.Proofs.Ythhkbfjolmgloaa
open Go.RowKit
set_option linter.unusedVariables false
set_option linter.unusedSimpArgs false
def IntsAt (cs : Array Value) (E : List Int) : Prop := ∀ j, j < E.length → cs[j]? = some (.int .i64 (E.getD j 0))
theorem Own1.open_ {B : Nat} {w : World} {v : Value} {E : List Int} (h : Own1 B w v E) : (E = [] ∧ v = .slice none 0 0) ∨ ∃ g cap cs, v = .slice (some ⟨g, 0, none⟩) E.length cap ∧ B ≤ g ∧ w.heap[g]? = some (.cells cs 3 (0, 0)) ∧ IntsAt cs E := by
  rcases h.1.2 with ⟨h1, h2⟩ | ⟨g, cap, cur, h1, h2, h3, h4, h5, h6, h7⟩
  · exact Or.inl ⟨List.eq_nil_of_length_eq_zero h2, h1⟩
  · refine Or.inr ⟨g, cap, cur, h1, h2, h3, fun j hj => ?_⟩
    have e : cur.toList[j]? = (nums E)[j]? := by rw [← h7, List.getElem?_take_of_lt (by omega)]
    have e2 : cur[j]? = cur.toList[j]? := by simp
    rw [e2, e]
    simp [nums, List.getD_eq_getElem?_getD, hj]
theorem sortInts_any {w : World} {g cap : Nat} {cs : Array Value} {E : List Int} (hb : w.heap[g]? = some (.cells cs 3 (0, 0))) (hE : IntsAt cs E) (hn : E.length ≤ 1000) :
    Calls Try.prog 131 #[.slice (some ⟨g, 0, none⟩) E.length cap] w fun e w' => e = .returned (.tuple #[]) ∧ ∃ (S : List Int) (cs' : Array Value), S.Perm E ∧ w'.heap[g]? = some (.cells cs' 3 (0, 0)) ∧ IntsAt cs' S ∧ Mk g (g + 1) (fun t => t = 3) w w' := by
  have hH : Go.Sort.Holds (Value.int .i64) w g 0 E.toArray := by
    intro j hj
    have hj' : j < E.length := by simpa using hj
    rw [Nat.zero_add]
    refine ⟨?_, box_frozen hb j⟩
    rw [box_cell hb, hE j hj', getElem!_pos _ j hj]
    simp [List.getD_eq_getElem?_getD, hj']
  refine (Try.slices_Sort_int g 0 cap E w hH (box_lt hb) (by omega)).mono ?_
  rintro e w' ⟨rfl, n, os, rfl⟩
  refine ⟨rfl, E.mergeSort fun x y => decide (x ≤ y), ?_⟩
  have hp := List.mergeSort_perm E (fun x y => decide (x ≤ y))
  generalize (E.mergeSort fun x y => decide (x ≤ y)) = S at hp ⊢
  have hM : Mk g (g + 1) (fun t => t = 3) w (Go.Sort.grow (Go.Sort.putRow (Value.int .i64) (Go.Sort.ahead w n) g 0 S.toArray) os) := mk_putRow (Value.int .i64) hb
  obtain ⟨cs', hb', hs'⟩ := hM.row hb
  have hh : Go.Sort.Holds (Value.int .i64) (Go.Sort.grow (Go.Sort.putRow (Value.int .i64) (Go.Sort.ahead w n) g 0 S.toArray) os) g 0 S.toArray :=
    Go.Sort.holds_grow _ _ os g 0 _ (by simpa using box_lt hb) (Go.Sort.holds_putRow _ _ g 0 E.toArray _ (Go.Sort.holds_ahead _ _ _ _ _ _ hH) (by simp [hp.length_eq]))
  refine ⟨cs', hp, hb', fun j hj => ?_, hM⟩
  have := (hh j (by simpa using hj)).1
  rw [Nat.zero_add, box_cell hb', getElem!_pos _ j (by simpa using hj)] at this
  rw [this]
  simp [List.getD_eq_getElem?_getD, hj]
theorem cnt_drop {S : List Int} {q : Nat} {e x : Int} (h : S[q]? = some e) : (cnt (S.drop q) x : Int) = (if x ≤ e then 1 else 0) + cnt (S.drop (q + 1)) x := by
  rw [drop_some h]
  unfold cnt
  rw [List.countP_cons]
  simp only [decide_eq_true_eq]
  split <;> omega
theorem loU_drop {S : List Int} {q : Nat} {e x u : Int} (h : S[q]? = some e) : loU x (S.drop q) u = loU x (S.drop (q + 1)) (loStep x u e) := by
  rw [drop_some h]; rfl
end Go.Proofs.Ythhkbfjolmgloaa
