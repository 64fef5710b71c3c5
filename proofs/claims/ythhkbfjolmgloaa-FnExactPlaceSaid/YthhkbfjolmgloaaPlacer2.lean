/- A placer's memory as its own, what a step leaves of the rest; the first room, looked for leg by leg; spec.l2ready at a part of a plan. Condition: the line is right, the legs were placed so. -/
import Derived.Test.YthhkbfjolmgloaaPlacer
namespace Go.Proofs.Ythhkbfjolmgloaa
open Go.RowKit
set_option linter.unusedVariables false
set_option linter.unusedSimpArgs false
/-- Memory that has only grown, but for some blocks. -/
structure Chg (S : Nat → Prop) (w w' : World) : Prop where
  os : w'.os = w.os
  tape : w'.tape = w.tape
  output : w'.output = w.output
  size : w.heap.size ≤ w'.heap.size
  block : ∀ g, g < w.heap.size → ¬ S g → w'.heap[g]? = w.heap[g]?
section
variable {S S' : Nat → Prop} {a b c : World}
theorem Chg.of_ext (h : Ext a b) : Chg S a b := ⟨h.os, h.tape, h.output, h.size, fun g hg _ => h.block g hg⟩
theorem Chg.trans (h : Chg S a b) (k : Chg S b c) : Chg S a c := ⟨k.os.trans h.os, k.tape.trans h.tape, k.output.trans h.output, Nat.le_trans h.size k.size, fun g hg hs => (k.block g (Nat.lt_of_lt_of_le hg h.size) hs).trans (h.block g hg hs)⟩
theorem Chg.mono (h : Chg S a b) (hS : ∀ g, g < a.heap.size → S g → S' g) : Chg S' a b := ⟨h.os, h.tape, h.output, h.size, fun g hg hs => h.block g hg (fun hg' => hs (hS g hg hg'))⟩
theorem Chg.ext_left (h : Ext a b) (k : Chg S b c) : Chg S a c := (Chg.of_ext h).trans k
theorem Chg.setCell (h : Chg S a b) {g : Nat} (hg : S g ∨ a.heap.size ≤ g) (j : Nat) (u : Value) : Chg S a (b.setCell ⟨g, j, none⟩ u) := ⟨h.os, h.tape, h.output, by have := h.size; simpa [World.setCell] using this, fun k hk hs => (Below.heap_setCell b ⟨g, j, none⟩ u k (by rintro rfl; rcases hg with hg | hg; exact hs hg; omega)).trans (h.block k hk hs)⟩
theorem Chg.grown {row : Option Nat} (h : Chg S a b) (hg : b.grownBy c row) (hr : ∀ k, row = some k → S k ∨ a.heap.size ≤ k) : Chg S a c := ⟨hg.os.trans h.os, hg.tape.trans h.tape, hg.output.trans h.output, Nat.le_trans h.size hg.size, fun k hk hs => (hg.block k (Nat.lt_of_lt_of_le hk h.size) (fun e => by rcases hr k e.symm with q | q; exact hs q; omega)).trans (h.block k hk hs)⟩
theorem Chg.below {lo : Nat} (h : Chg S a b) (hS : ∀ g, S g → lo ≤ g) (hl : lo ≤ a.heap.size) : Below lo a b := ⟨h.os, h.tape, h.output, h.size, fun g hg => h.block g (by omega) (fun hs => by have := hS g hs; omega)⟩
theorem Chg.box (h : Chg S a b) {g : Nat} {o : Obj} (hg : a.heap[g]? = some o) (hs : ¬ S g) : b.heap[g]? = some o := (h.block g (box_lt hg) hs).trans hg
end
/-- A placer's memory, its own from block lo on. -/
structure Plc (w : World) (lo : Nat) (T : TypeId) (l : Line) (p : List (List Int)) (last : Int) (gp : Nat) (A0 : Option Addr) (c0 : Nat) (A2 : Option Addr) (c2 : Nat) (AR : Option Addr) (cR gr : Nat) (vs : Nat → Value) : Prop where
  line : ∀ W, Below lo w W → IsLine W l (.agg #[.slice A0 l.tracks.length c0, .int .i64 l.gap, .slice A2 l.trains.length c2])
  box : w.heap[gp]? = some (.cells #[.slice A0 l.tracks.length c0, .int .i64 l.gap, .slice A2 l.trains.length c2, .slice AR l.trains.length cR, .int .i64 last] T (0, 0))
  base : 0 < l.trains.length → AR = some ⟨gr, 0, none⟩ ∧ ∃ cs : Array Value, w.heap[gr]? = some (.cells cs 23 (0, 0)) ∧ ∀ i, i < l.trains.length → cs[i]? = some (vs i)
  own : ∀ i, i < l.trains.length → w.ownsRow lo 3 1 (vs i) (rl p i) (nums (p.getD i []))
  apart : ∀ i j g, i < l.trains.length → j < l.trains.length → i ≠ j → (vs i).ownBlock = some g → (vs j).ownBlock ≠ some g
  far : ∀ i g, i < l.trains.length → (vs i).ownBlock = some g → g ≠ gp ∧ g ≠ gr
  rows : p.length = l.trains.length
  lop : lo ≤ gp
  lor : lo ≤ gr
  ne : gp ≠ gr
theorem Plc.lo_le {w : World} {lo : Nat} {T : TypeId} {l : Line} {p : List (List Int)} {last : Int} {gp : Nat} {A0 : Option Addr} {c0 : Nat} {A2 : Option Addr} {c2 : Nat} {AR : Option Addr} {cR gr : Nat} {vs : Nat → Value} (h : Plc w lo T l p last gp A0 c0 A2 c2 AR cR gr vs) : lo ≤ w.heap.size := by
  have := box_lt h.box
  have := h.lop
  omega
theorem Plc.rd {w : World} {lo : Nat} {T : TypeId} {l : Line} {p : List (List Int)} {last : Int} {gp : Nat} {A0 : Option Addr} {c0 : Nat} {A2 : Option Addr} {c2 : Nat} {AR : Option Addr} {cR gr : Nat} {vs : Nat → Value} (h : Plc w lo T l p last gp A0 c0 A2 c2 AR cR gr vs) : RdP w l p last gp A0 c0 A2 c2 AR cR gr (fun i => (vs i).ownBlock.getD 0) where
  line := h.line w ⟨rfl, rfl, rfl, Nat.le_refl _, fun _ _ => rfl⟩
  b0 := box_cell h.box 0
  b1 := box_cell h.box 1
  b2 := box_cell h.box 2
  b3 := box_cell h.box 3
  b4 := box_cell h.box 4
  lt := box_lt h.box
  base := fun hn => by
    obtain ⟨h1, cs, h2, _⟩ := h.base hn
    exact ⟨h1, box_lt h2⟩
  row := fun i hi => by
    obtain ⟨_, cs, h2, h3⟩ := h.base (by omega)
    have hc := (box_cell h2 i).trans (h3 i hi)
    rcases (h.own i hi).2 with ⟨h4, h5⟩ | ⟨g, cap, cur, h4, h5, h6, _⟩
    · exact ⟨none, 0, by rw [hc, h4, h5], fun hz => by omega⟩
    · refine ⟨some ⟨g, 0, none⟩, cap, by rw [hc, h4], fun _ => ?_⟩
      rw [h4]
      exact ⟨rfl, box_lt h6⟩
  st := fun i k hi hk => by
    rcases (h.own i hi).2 with ⟨h4, h5⟩ | ⟨g, cap, cur, h4, h5, h6, h7, h8, h9, h10⟩
    · omega
    · have e : ((vs i).ownBlock.getD 0) = g := by rw [h4]; rfl
      rw [e, box_cell h6]
      have e2 : cur.toList[k]? = (nums (p.getD i []))[k]? := by rw [← h10, List.getElem?_take_of_lt (by omega)]
      have e3 : cur[k]? = cur.toList[k]? := by simp
      have hk' : k < (p.getD i []).length := hk
      obtain ⟨x, hx⟩ := some_of_lt hk'
      rw [e3, e2, st, getD_some hx]
      simp only [nums, List.getElem?_map, hx]
      rfl
/-- Blocks that a placer's step for a train may write. -/
def own3 (gp gr : Nat) (v : Value) (g : Nat) : Prop := g = gp ∨ g = gr ∨ v.ownBlock = some g
theorem rl_put {p : List (List Int)} {i : Nat} {t : Int} (hi : i < p.length) (j : Nat) : rl (put p i t) j = if j = i then rl p i + 1 else rl p j := put_len hi j
theorem row_put_i {p : List (List Int)} {i : Nat} {t : Int} (hi : i < p.length) : (put p i t).getD i [] = p.getD i [] ++ [t] := by rw [put_row hi, if_pos rfl]
theorem row_put_ne {p : List (List Int)} {i : Nat} {t : Int} (hi : i < p.length) {j : Nat} (h : j ≠ i) : (put p i t).getD j [] = p.getD j [] := by rw [put_row hi, if_neg h]
def upd (vs : Nat → Value) (i : Nat) (v : Value) (j : Nat) : Value := if j = i then v else vs j
/-! ### The first room -/
def loStep (a r e : Int) : Int := if a ≤ e ∧ e < r then e else r
theorem loU_cons (a e : Int) (E : List Int) (u : Int) : loU a (e :: E) u = loU a E (loStep a u e) := rfl
theorem loU_append (a : Int) : ∀ (E F : List Int) (u : Int), loU a (E ++ F) u = loU a F (loU a E u) := by
  intro E F u
  unfold loU
  rw [List.foldl_append]
def loM (l : Line) (p : List (List Int)) (s a : Int) (j m : Nat) (r : Int) : Int := if (l.leg j m).to = s then loStep a r (endT l p j m) else r
def loR (l : Line) (p : List (List Int)) (s a : Int) (j : Nat) (r : Int) : Int := foldF (loM l p s a j) 0 (rl p j) r
def loF (l : Line) (p : List (List Int)) (s a : Int) : Int := foldF (loR l p s a) 0 l.trains.length 1099511627776
theorem lo_ends (l : Line) (p : List (List Int)) (s a : Int) : lo (ends l p s) a = loF l p s a := by
  unfold lo ends loF
  have key : loU a (foldF (endsR l p s) 0 l.trains.length []) 1099511627776 = foldF (loR l p s a) 0 l.trains.length 1099511627776 := by
    refine foldF_rel (R := fun (E : List Int) (r : Int) => loU a E 1099511627776 = r) (fun j E r _ _ h => ?_) rfl
    unfold endsR loR
    refine foldF_rel (R := fun (E : List Int) (r : Int) => loU a E 1099511627776 = r) (fun m E r _ _ h => ?_) h
    unfold loM
    by_cases c : (l.leg j m).to = s
    · rw [if_pos c, if_pos c, loU_append, h]; rfl
    · rw [if_neg c, if_neg c]; exact h
  exact key
def upOf (r : Int) : Int := if r = 1099511627776 then -1 else r
set_option maxRecDepth 100000 in
set_option maxHeartbeats 1000000 in
theorem l2readyP_any {w : World} {l : Line} {p : List (List Int)} {last : Int} {gp : Nat} {A0 : Option Addr} {c0 : Nat} {A2 : Option Addr} {c2 : Nat} {AR : Option Addr} {cR gr : Nat} {br : Nat → Nat} (P : RdP w l p last gp A0 c0 A2 c2 AR cR gr br) (O : Ok l) (F : Few l p) {i : Nat} (hi : i < l.trains.length) (hk : rl p i < (l.tr i).legs.length) :
    Calls Try.prog 109 #[.agg #[.slice A0 l.tracks.length c0, .int .i64 l.gap, .slice A2 l.trains.length c2], .agg #[.slice AR l.trains.length cR], .int .i64 i, .int .i64 (rl p i)] w fun e w' => e = .returned (.int .i64 (readyT l p i (rl p i))) ∧ Ext w w' := by
  obtain ⟨A0', c0', A2', c2', hv, h0, h2⟩ := P.line
  simp only [Value.agg.injEq, Array.mk.injEq, List.cons.injEq, Value.slice.injEq, and_true, true_and] at hv
  obtain ⟨⟨rfl, rfl⟩, rfl, rfl⟩ := hv
  obtain ⟨b0, o0, b2, o2, bl, ol, cl, SL⟩ := seeL O h0 h2
  clear h0 h2
  have B := O.bd
  obtain ⟨rfl, hb2⟩ := SL.base2 (by omega)
  obtain ⟨rfl, hgr⟩ := P.base (by omega)
  obtain ⟨e0, e1, e2, e3, e4, hbl⟩ := SL.train i hi
  obtain ⟨Ai, ci, r0, hbi⟩ := P.row i hi
  obtain ⟨f0, f1, f2⟩ := SL.leg i (rl p i) hi hk
  obtain ⟨_, _, x1, x2, x3, x4⟩ := B.leg i (rl p i) hi hk
  have n10 := B.nl1 i hi
  have n5 := B.n5
  have t0 := B.tr i hi
  have hlt : i < l.trains.length := hi
  have d1 : bl i < w.heap.size + 1 := by omega
  have d2 : bl i < w.heap.size + 1 + 1 := by omega
  have d5 : gr < w.heap.size + 1 := by omega
  have d6 : gr < w.heap.size + 1 + 1 := by omega
  have hn5 : l.trains.length ≤ 5 := n5
  obtain ⟨k, HK⟩ : ∃ k, Hid (rl p i = k) := ⟨_, rfl⟩
  rw [HK.out] at r0 hbi f0 f1 f2 x1 x2 x3 x4 hk ⊢
  cases k with
  | zero =>
    have hA : Hid (readyT l p i 0 = (l.tr i).ready + (l.leg i 0).stay) := rfl
    simp only [Nat.zero_mul, Nat.add_zero] at f0 f1 f2
    clear SL P F O B hbi
    go_enter Try.func109, Try.ntmps109
    go_wp2_with fail
    go_quiet (fail)
    go_wp2_with fail
    go_ret
    exact ⟨ret_i64 hA.out.symm, (by repeat (first | (with_reducible assumption) | (with_reducible exact Ext.refl _) | apply Ext.alloc | apply Ext.drewN | apply Ext.drew))⟩
  | succ k =>
    have hA : Hid (readyT l p i (k + 1) = st p i k + (l.leg i k).run + (l.leg i (k + 1)).stay) := by simp [Hid, readyT]
    have hk1 : k < (l.tr i).legs.length := by omega
    obtain ⟨rfl, hbr⟩ := hbi (by omega)
    have d3 : br i < w.heap.size + 1 := by omega
    have d4 : br i < w.heap.size + 1 + 1 := by omega
    obtain ⟨g0, g1, g2⟩ := SL.leg i k hi hk1
    have hkr : k < rl p i := by rw [HK.out]; omega
    have s0 := P.st i k hi hkr
    obtain ⟨_, _, y1, y2, y3, y4⟩ := B.leg i k hi hk1
    obtain ⟨z1, z2⟩ := F.at_ i k hi hkr
    clear SL P F O B hkr hbi
    go_enter Try.func109, Try.ntmps109
    go_wp2_with fail
    go_quiet (fail)
    go_wp2_with fail
    go_ret
    exact ⟨ret_i64 hA.out.symm, (by repeat (first | (with_reducible assumption) | (with_reducible exact Ext.refl _) | apply Ext.alloc | apply Ext.drewN | apply Ext.drew))⟩
end Go.Proofs.Ythhkbfjolmgloaa
