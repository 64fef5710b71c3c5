/- spec.Place answers the plain plan of an order. Condition: line and order hold at most 2^20 values. -/
import Derived.Test.YthhkbfjolmgloaaMHNextX
import Derived.Test.YthhkbfjolmgloaaML0a
namespace Go.Proofs.Ythhkbfjolmgloaa
open Go.RowKit
set_option linter.unusedVariables false
set_option linter.unusedSimpArgs false
theorem rd_of_ownsP {w : World} {B N : Nat} {v : Value} {D : List Int} (h : w.ownsRow B 3 1 v N (nums D)) : N = D.length ∧ ∃ A c, v = .slice A D.length c ∧ RdInt w A D := by
  have hl := h.1
  rw [nums_length, Nat.mul_one] at hl
  refine ⟨hl.symm, ?_⟩
  rcases h.2 with ⟨h1, h2⟩ | ⟨g, cap, cur, h1, h2, h3, h4, h5, h6, h7⟩
  · subst h2
    obtain rfl : D = [] := List.eq_nil_of_length_eq_zero hl
    exact ⟨none, 0, h1, fun j x hx => by simp at hx⟩
  · refine ⟨some ⟨g, 0, none⟩, cap, by rw [h1, ← hl], fun j x hx => ⟨g, 0, rfl, box_lt h3, ?_⟩⟩
    have hj := lt_of_some hx
    have e : cur.toList[j]? = (nums D)[j]? := by rw [← h7, List.getElem?_take_of_lt (by omega)]
    unfold AtInt
    rw [box_cell h3, Nat.zero_add, Nat.mul_one]
    have e2 : cur[j]? = cur.toList[j]? := by simp
    rw [e2, e]
    simp [nums, hx]
/-! ### A placer that has placed nothing -/
theorem rl_replicate (n i : Nat) : rl (List.replicate n ([] : List Int)) i = 0 := by unfold rl; rw [getD_replicate_nil]; rfl
theorem one_nil : ∀ u ∈ (#[Value.slice none 0 0] : Array Value).toList, u.oneCell' = true := by
  intro u hu
  simp at hu
  subst hu; rfl
/-- A placer that has placed nothing. -/
theorem plc_start {w w' : World} {T : TypeId} {l : Line} {B : Nat} {gp : Nat} {A0 : Option Addr} {c0 : Nat} {A2 : Option Addr} {c2 : Nat} {v : Value} (hl : IsLine w l (.agg #[.slice A0 l.tracks.length c0, .int .i64 l.gap, .slice A2 l.trains.length c2])) (hE : Ext w w') (hgp : w.heap.size ≤ gp) (hB : w.heap.size ≤ B)
    (box : w'.heap[gp]? = some (.cells #[.slice A0 l.tracks.length c0, .int .i64 l.gap, .slice A2 l.trains.length c2, v, .int .i64 0] T (0, 0)))
    (own : w'.ownsRow B 23 1 v l.trains.length (List.replicate l.trains.length (.slice none 0 0))) (hne : ∀ g, v.ownBlock = some g → g ≠ gp) :
    ∃ AR cR gr, v = .slice AR l.trains.length cR ∧ Plc w' w.heap.size T l (List.replicate l.trains.length []) 0 gp A0 c0 A2 c2 AR cR gr (fun _ => .slice none 0 0) := by
  have hline : ∀ W, Below w.heap.size w' W → IsLine W l (.agg #[.slice A0 l.tracks.length c0, .int .i64 l.gap, .slice A2 l.trains.length c2]) := fun W hW => hl.ext (Below.trans hE hW)
  have hown : ∀ i, i < l.trains.length → w'.ownsRow w.heap.size 3 1 (.slice none 0 0) (rl (List.replicate l.trains.length []) i) (nums ((List.replicate l.trains.length ([] : List Int)).getD i [])) := fun i _ => by
    rw [rl_replicate, getD_replicate_nil]; exact World.ownsRow_nil _ _ _ _
  rcases own.2 with ⟨h1, h2⟩ | ⟨g, cap, cur, h1, h2, h3, h4, h5, h6, h7⟩
  · refine ⟨none, 0, gp + 1, by rw [h1, h2], hline, by rw [box, h1, h2], fun hn => by omega, hown, (fun i j g _ _ _ h => by cases h), (fun i g _ h => by cases h), by simp, hgp, by omega, by omega⟩
  · refine ⟨some ⟨g, 0, none⟩, cap, g, h1, hline, by rw [box, h1], fun _ => ⟨rfl, cur, h3, fun i hi => ?_⟩, hown, (fun i j g _ _ _ h => by cases h), (fun i g _ h => by cases h), by simp, hgp, by omega, fun e => hne g (by rw [h1]; rfl) e.symm⟩
    have e : cur.toList[i]? = (List.replicate l.trains.length (Value.slice none 0 0))[i]? := by rw [← h7, List.getElem?_take_of_lt (by omega)]
    have e2 : cur[i]? = cur.toList[i]? := by simp
    rw [e2, e]
    simp [hi]
set_option maxRecDepth 100000 in
set_option maxHeartbeats 8000000 in
theorem l2new_any {w : World} {l : Line} {A0 : Option Addr} {c0 : Nat} {A2 : Option Addr} {c2 : Nat} (hl : IsLine w l (.agg #[.slice A0 l.tracks.length c0, .int .i64 l.gap, .slice A2 l.trains.length c2])) (n5 : l.trains.length ≤ 5) :
    Calls Try.prog 85 #[.agg #[.slice A0 l.tracks.length c0, .int .i64 l.gap, .slice A2 l.trains.length c2]] w fun e w' => ∃ gp AR cR gr, e = .returned (.pointer (some ⟨gp, 0, none⟩)) ∧ Plc w' w.heap.size 138 l (List.replicate l.trains.length []) 0 gp A0 c0 A2 c2 AR cR gr (fun _ => .slice none 0 0) ∧ Ext w w' := by
  have HL := Lib.hid hl; clear hl
  go_enter Try.func85, Try.ntmps85
  go_wp2_with fail
  go_loopw [10] (fun j wr => ∃ (jj : Nat) (v : Value), jj ≤ l.trains.length ∧ j = .int .i64 jj ∧ wr.heap[w.heap.size + 1]? = some (.cells #[.slice A0 l.tracks.length c0, .int .i64 l.gap, .slice A2 l.trains.length c2, v, .int .i64 0] 138 (0, 0)) ∧ Hid (wr.ownsRow (w.heap.size + 2) 23 1 v jj (List.replicate jj (.slice none 0 0))) ∧ Ext w wr) (fun j _ => l.trains.length - (intOf j).toNat)
  case atStart => exact ⟨0, .slice none 0 0, Nat.zero_le _, rfl, heap_alloc2_new _ _ _, World.ownsRow_nil _ _ _ _, (by repeat (first | (with_reducible assumption) | (with_reducible exact Ext.refl _) | apply Ext.alloc | apply Ext.drewN | apply Ext.drew))⟩
  case round =>
    obtain ⟨jj, v, hjj, rfl, hb, HO, hE⟩ := hrel
    by_cases hlt : jj < l.trains.length
    · obtain ⟨k0, k1, k2, k3, k4⟩ : wr.cell? ⟨w.heap.size + 1, 3, none⟩ = some v ∧ wr.frozen? ⟨w.heap.size + 1, 3, none⟩ = false ∧ w.heap.size + 1 < wr.heap.size ∧ True ∧ True := ⟨box_cell hb 3, box_frozen hb 3, box_lt hb, trivial, trivial⟩
      have hN : jj ≤ 1000000 := by omega
      go_wp2_with (at_builtin; refine app_any rfl _ _ 40 rfl (w.heap.size + 2) 23 1 24 _ Try.underlying40 info23 rfl (by decide) _ _ _ rfl (HO.out.alloc _) (by rw [alloc_size]; omega) _ _ #[.slice none 0 0] _ rfl (box_new _ _) rfl one_nil hN (by decide) _ rfl ?_)
      intro g cap w6 hown hgrow hg hlt6
      have hnv : ∀ g, v.ownBlock = some g → g ≠ w.heap.size + 1 := fun g h => by have := (World.ownsRow.lt HO.out g h).1; omega
      have hb6 := (hgrow.block (w.heap.size + 1) (by rw [alloc_size]; omega) (fun e => hnv _ e.symm rfl)).trans (box_old hb (.cells #[.slice none 0 0] 23))
      have hg2 : g ≠ w.heap.size + 1 := by
        rcases hg with h | h
        · exact hnv g h
        · omega
      have hE6 : Ext w w6 := (hE.alloc _).grown hgrow (by rw [alloc_size]; have := hE.size; omega) (fun k hk => by have := (World.ownsRow.lt HO.out k hk).1; omega)
      have hO6 : Hid (w6.ownsRow (w.heap.size + 2) 23 1 (.slice (some ⟨g, 0, none⟩) (jj + 1) cap) (jj + 1) (List.replicate (jj + 1) (.slice none 0 0))) := by
        unfold Hid
        rw [List.replicate_succ']
        exact hown
      have j0 := box_cell hb6 3
      have j1 := box_frozen hb6 3
      have j2 := box_lt hb6
      have HB6 := Lib.hid hb6
      clear k0 k1 k2 k3 k4 hown hgrow hg hb hb6 HO
      go_wp2_with fail
      exact ⟨⟨jj + 1, .slice (some ⟨g, 0, none⟩) (jj + 1) cap, by omega, by go_num, by rw [box_set HB6.out]; rfl, ownsRow_set_far hO6.out (by rw [ownBlock_slice]; simp only [ne_eq, Option.some.injEq]; exact hg2) _ _, hE6.setCell (by simp only []; omega) _⟩, (by simp [intOf]; omega)⟩
    · obtain rfl : jj = l.trains.length := by omega
      obtain ⟨AR, cR, gr, hv, hP⟩ := plc_start HL.out hE (Nat.le_succ _) (by omega) hb HO.out (fun g h => by have := (World.ownsRow.lt HO.out g h).1; omega)
      clear hb HO
      go_wp2_with fail
      go_ret
      exact ⟨_, AR, cR, gr, rfl, hP, hE⟩
/-- Rows of numbers of the call's own, from block lo on, each apart from the others. -/
structure PRows (w : World) (lo : Nat) (p : List (List Int)) (AR : Option Addr) (gr : Nat) (vs : Nat → Value) : Prop where
  base : 0 < p.length → AR = some ⟨gr, 0, none⟩ ∧ ∃ cs : Array Value, w.heap[gr]? = some (.cells cs 23 (0, 0)) ∧ ∀ i, i < p.length → cs[i]? = some (vs i)
  own : ∀ i, i < p.length → w.ownsRow lo 3 1 (vs i) (rl p i) (nums (p.getD i []))
  apart : ∀ i j g, i < p.length → j < p.length → i ≠ j → (vs i).ownBlock = some g → (vs j).ownBlock ≠ some g
  far : ∀ i g, i < p.length → (vs i).ownBlock = some g → g ≠ gr
  lor : lo ≤ gr
theorem Plc.prows {w : World} {lo : Nat} {T : TypeId} {l : Line} {p : List (List Int)} {last : Int} {gp : Nat} {A0 : Option Addr} {c0 : Nat} {A2 : Option Addr} {c2 : Nat} {AR : Option Addr} {cR gr : Nat} {vs : Nat → Value} (P : Plc w lo T l p last gp A0 c0 A2 c2 AR cR gr vs) : PRows w lo p AR gr vs where
  base := fun h => by rw [P.rows] at h ⊢; exact P.base h
  own := fun i hi => P.own i (by rw [← P.rows]; exact hi)
  apart := fun i j g hi hj => P.apart i j g (by rw [← P.rows]; exact hi) (by rw [← P.rows]; exact hj)
  far := fun i g hi h => (P.far i g (by rw [← P.rows]; exact hi) h).2
  lor := P.lor
theorem PRows.nil (w : World) (lo : Nat) : PRows w lo [] none lo (fun _ => .slice none 0 0) :=
  ⟨fun h => by simp at h, fun i hi => by simp at hi, fun i j g hi => by simp at hi, fun i g hi => by simp at hi, Nat.le_refl _⟩
theorem PRows.ext {w w' : World} {lo : Nat} {p : List (List Int)} {AR : Option Addr} {gr : Nat} {vs : Nat → Value} (h : PRows w lo p AR gr vs) (e : Ext w w') : PRows w' lo p AR gr vs :=
  ⟨fun hn => by obtain ⟨h1, cs, h2, h3⟩ := h.base hn; exact ⟨h1, cs, e.box h2, h3⟩, fun i hi => ownsRow_ext (h.own i hi) e, h.apart, h.far, h.lor⟩
theorem PRows.mono {w : World} {lo lo' : Nat} {p : List (List Int)} {AR : Option Addr} {gr : Nat} {vs : Nat → Value} (h : PRows w lo p AR gr vs) (hl : lo' ≤ lo) : PRows w lo' p AR gr vs :=
  ⟨h.base, fun i hi => ownsRow_mono (h.own i hi) hl, h.apart, h.far, Nat.le_trans hl h.lor⟩
theorem PRows.set_far {w : World} {lo : Nat} {p : List (List Int)} {AR : Option Addr} {gr : Nat} {vs : Nat → Value} (h : PRows w lo p AR gr vs) {g : Nat} (hg : g < lo) (j : Nat) (u : Value) : PRows (w.setCell ⟨g, j, none⟩ u) lo p AR gr vs :=
  ⟨fun hn => by obtain ⟨h1, cs, h2, h3⟩ := h.base hn; exact ⟨h1, cs, box_set_far h2 j u (by have := h.lor; omega), h3⟩, fun i hi => ownsRow_set_far (h.own i hi) (fun e => by have := ((h.own i hi).lt g e).1; omega) j u, h.apart, h.far, h.lor⟩
theorem PRows.rd {w : World} {lo : Nat} {p : List (List Int)} {AR : Option Addr} {gr : Nat} {vs : Nat → Value} (h : PRows w lo p AR gr vs) : RdRows w AR p := by
  intro j x hx
  have hj := lt_of_some hx
  obtain ⟨h1, cs, h2, h3⟩ := h.base (by omega)
  refine ⟨gr, 0, h1, box_lt h2, ?_⟩
  have hxx : p.getD j [] = x := getD_some hx
  have ho := h.own j hj
  have hrl : rl p j = x.length := by unfold rl; rw [hxx]
  rw [hxx, hrl] at ho
  obtain ⟨_, A, c, hv, hR⟩ := rd_of_ownsP ho
  unfold AtRow
  refine ⟨A, c, ?_, hR⟩
  rw [Nat.zero_add, Nat.mul_one, box_cell h2, h3 j hj, hv]
theorem PRows.plan {w : World} {lo : Nat} {p : List (List Int)} {AR : Option Addr} {gr : Nat} {vs : Nat → Value} (h : PRows w lo p AR gr vs) (cR : Nat) : IsPlan w p (.agg #[.slice AR p.length cR]) := ⟨AR, cR, rfl, h.rd⟩
theorem Lp.below {w wr w2 : World} {bs : List (Nat × Array Value × TypeId)} {lo : Nat} (h : Lp w wr bs) (k : Below lo wr w2) (hw : w.heap.size ≤ lo) (hb : ∀ x, x ∈ bs → x.1 < lo) : Lp w w2 bs :=
  ⟨Below.trans h.ext (k.mono hw), fun x hx => (k.block x.1 (hb x hx)).trans (h.box x hx)⟩
def placedV (code at_ : Int) (v : Value) : Value := .agg #[.int .i64 code, .int .i64 at_, v]
/-- What a placing answers. -/
def PlacedIs (lo : Nat) (r : PlR) (e : Ending) (w' : World) : Prop := ∃ AR cR gr vs, e = .returned (placedV r.1.1 r.1.2 (.slice AR r.2.length cR)) ∧ PRows w' lo r.2 AR gr vs
/-- A struct of three cells, stored into a box of the call's own. -/
theorem Lp.set3 {w wr : World} {g b : Nat} {cs c1 : Array Value} {t t1 : TypeId} {x y z : Value} (h : Lp w wr [(g, cs, t), (b, c1, t1)]) (hg : w.heap.size ≤ g ∧ b ≠ g) : Lp w (((wr.setCell ⟨g, 0, none⟩ x).setCell ⟨g, 1, none⟩ y).setCell ⟨g, 2, none⟩ z) [(g, ((cs.setIfInBounds 0 x).setIfInBounds 1 y).setIfInBounds 2 z, t), (b, c1, t1)] := by
  have hne : ∀ x, x ∈ [(b, c1, t1)] → x.1 ≠ g := by
    intro x hx
    simp only [List.mem_cons, List.not_mem_nil, or_false] at hx
    subst hx
    exact hg.2
  exact ((h.set hg.1 hne 0 x).set hg.1 hne 1 y).set hg.1 hne 2 z
theorem placed_stop {lo : Nat} {w' : World} {c k : Int} {r : PlR} (h : r = (((c, k), []) : PlR)) : PlacedIs lo r (.returned (placedV c k (.slice none 0 0))) w' := ⟨none, 0, lo, fun _ => .slice none 0 0, by subst h; rfl, by subst h; exact PRows.nil _ _⟩
set_option maxRecDepth 100000 in
set_option maxHeartbeats 8000000 in
theorem spec_Place_any {w : World} {l : Line} {order : List Int} {u : Value} {Ao : Option Addr} (co : Nat) (hl : IsLine w l u) (hs : l.size ≤ 1048576) (ho : RdInt w Ao order) (hn : order.length ≤ 1048576) :
    Calls Try.prog 60 #[u, .slice Ao order.length co] w fun e w' => PlacedIs w.heap.size (placeA l order) e w' ∧ Ext w w' := by
  have HL := Lib.hid (fun (W : World) (e : Ext w W) => hl.ext e)
  obtain ⟨A0, c0, A2, c2, rfl, h0, h2⟩ := hl
  have hs0 := Lib.hid hs; clear hs
  by_cases hr : right l = true ∧ order.length ≤ 10
  · obtain ⟨hr, h10⟩ := hr
    have HR := Lib.hid hr
    have O := right_iff.1 hr
    have HO := Lib.hid O
    have n5 := O.bd.n5
    have HQ := Lib.hid ho
    clear hr O h0 h2 ho
    go_enter Try.func60, Try.ntmps60
    go_wp2_with fail
    refine (l1ok_any (HL.out _ (by repeat (first | (with_reducible assumption) | (with_reducible exact Ext.refl _) | apply Ext.alloc | apply Ext.drewN | apply Ext.drew))) hs0.out).mono ?_
    rw [HR.out]
    rintro e w1 ⟨rfl, hE⟩
    have hS := (((Lp.nil w).newAt (g := w.heap.size) #[.slice A0 l.tracks.length c0, .int .i64 l.gap, .slice A2 l.trains.length c2] 33 rfl).newAt (g := w.heap.size + 1) #[.int .i64 0, .int .i64 0, .slice none 0 0] 73 (by rw [alloc_size])).trans hE
    have hd10 : decide ((10 : Int) < (order.length : Int)) = false := by simp; omega
    obtain ⟨k1, k2, k3, k4, k5, k6⟩ := hS.open2
    have hX1 := hS.ext
    clear hE
    go_wp2_with fail
    refine (l2new_any (HL.out _ (hX1.trans (by repeat (first | (with_reducible assumption) | (with_reducible exact Ext.refl _) | apply Ext.alloc | apply Ext.drewN | apply Ext.drew)))) n5).mono ?_
    rintro e w2 ⟨gp, AR, cR, gr, rfl, hP, hE⟩
    have hT := hS.trans (Ext.trans (by repeat (first | (with_reducible assumption) | (with_reducible exact Ext.refl _) | apply Ext.alloc | apply Ext.drewN | apply Ext.drew)) hE)
    have hw1 := hS.open2.2.2.2.1
    have hB := hS.ext.size
    have HP0 := Lib.hid hP
    clear hS k1 k2 k3 k4 k5 k6 hE hX1 hP
    have hS := hT; clear hT
    go_wp2_with fail
    go_loopw [22] (fun j wr => ∃ (k : Nat) (p : List (List Int)) (last : Int) (vs : Nat → Value), k ≤ order.length ∧ j = .int .i64 k ∧ Hid (Plc wr w1.heap.size 138 l p last gp A0 c0 A2 c2 AR cR gr vs) ∧ Hid (Placing l order k p last) ∧ Lp w wr [(w.heap.size + 1, #[.int .i64 0, .int .i64 0, .slice none 0 0], 73), (w.heap.size, #[.slice A0 l.tracks.length c0, .int .i64 l.gap, .slice A2 l.trains.length c2], 33)]) (fun j _ => order.length - (intOf j).toNat)
    case atStart => exact ⟨0, _, _, _, Nat.zero_le _, rfl, HP0.out, Placing.start l order, hS⟩
    case round =>
      clear hS HP0
      obtain ⟨k, p, last, vs, hk, rfl, HP, HG, hS⟩ := hrel
      have hll := HG.out.last_le
      obtain ⟨k1, k2, k3, k4, k5, k6⟩ := hS.open2
      by_cases hlk : k < order.length
      · obtain ⟨b, off, rfl, hb⟩ := HQ.out.base hlk
        obtain ⟨x, hx⟩ := hid_of_lt hlk
        have hc := HQ.out.at_ hx.out
        have fr := box_frozen (hS.box (w.heap.size + 1, #[.int .i64 0, .int .i64 0, .slice none 0 0], 73) (by simp))
        by_cases hin : 0 ≤ x ∧ x ≤ (l.trains.length : Int) - 1
        · obtain ⟨i, hxi⟩ : ∃ i : Nat, x = (i : Int) := ⟨x.toNat, by omega⟩
          subst hxi
          have hi : i < l.trains.length := by omega
          have hinb : inB (i : Int) 0 ((l.trains.length : Int) - 1) = true := inB_true.2 hin
          have HNX := Lib.hid (next_any HP.out HO.out HG.out.good (by omega) hi)
          clear k1 k3 k5
          obtain ⟨k1, k2, k3, k4, k5, k6⟩ := hS.open2
          go_wp2_with (go_at_call 75; refine (l1in_any _ _ _ _).mono ?_; rw [hinb]; rintro e w5 ⟨rfl, rfl⟩)
          refine HNX.out.mono ?_
          rintro e w5 (⟨hf, rfl, hE5⟩ | ⟨hf, hs, rfl, hE5⟩ | ⟨hf, t, v, hs, rfl, hP5, hC5, _⟩)
          · have hst := Lib.hid (HG.out.stop HR.out h10 (placeS_two hx.out (fun h => hf h.2.2)) (by decide))
            have hT := hS.trans hE5
            clear k1 k2 k3 k4 k5 k6 fr hS hE5
            obtain ⟨k1, k2, k3, k4, k5, k6⟩ := hT.open2
            have fr := box_frozen (hT.box (w.heap.size + 1, #[.int .i64 0, .int .i64 0, .slice none 0 0], 73) (by simp))
            have hXf := fun (x y z : Value) => (hT.set3 (x := x) (y := y) (z := z) (by omega)).ext
            go_wp2_with fail
            exact bodyPost_ret (v := placedV 2 k (.slice none 0 0)) (by simp [results, Try.results60, go_sem, placedV, k1, k2, k3, k4, k5, k6, fr]) rfl ⟨placed_stop hst.out, hXf _ _ _⟩
          · have hst := Lib.hid (HG.out.stop HR.out h10 (placeS_three hx.out ⟨by omega, hi, hf⟩ hs) (by decide))
            have hT := hS.trans hE5
            clear k1 k2 k3 k4 k5 k6 fr hS hE5
            obtain ⟨k1, k2, k3, k4, k5, k6⟩ := hT.open2
            have fr := box_frozen (hT.box (w.heap.size + 1, #[.int .i64 0, .int .i64 0, .slice none 0 0], 73) (by simp))
            have hXf := fun (x y z : Value) => (hT.set3 (x := x) (y := y) (z := z) (by omega)).ext
            go_wp2_with fail
            exact bodyPost_ret (v := placedV 3 k (.slice none 0 0)) (by simp [results, Try.results60, go_sem, placedV, k1, k2, k3, k4, k5, k6, fr]) rfl ⟨placed_stop hst.out, hXf _ _ _⟩
          · have hG5 := Lib.hid (HG.out.step HO.out h10 hx.out ⟨by omega, hi, hf⟩ hs)
            have HP5 := Lib.hid hP5
            have hT := hS.below (hC5.below (fun g hg => by
              rcases hg with rfl | rfl | h
              · exact HP.out.lop
              · exact HP.out.lor
              · exact ((HP.out.own i hi).lt g h).1) HP.out.lo_le) (by omega) (lt2 (by omega) (by omega))
            clear k1 k2 k3 k4 k5 k6 fr hS hP5 hC5
            go_wp2_with fail
            exact ⟨⟨k + 1, _, _, _, by omega, by go_num, HP5.out, hG5.out, hT⟩, (by simp [intOf]; omega)⟩
        · have hinb : inB x 0 ((l.trains.length : Int) - 1) = false := inB_false.2 hin
          have hst := Lib.hid (HG.out.stop HR.out h10 (placeS_two hx.out (fun h => hin ⟨h.1, by omega⟩)) (by decide))
          have hXf := fun (x y z : Value) => (hS.set3 (x := x) (y := y) (z := z) (by omega)).ext
          go_wp2_with (go_at_call 75; refine (l1in_any _ _ _ _).mono ?_; rw [hinb]; rintro e w5 ⟨rfl, rfl⟩)
          exact bodyPost_ret (v := placedV 2 k (.slice none 0 0)) (by simp [results, Try.results60, go_sem, placedV, k1, k2, k3, k4, k5, k6, fr]) rfl ⟨placed_stop hst.out, hXf _ _ _⟩
      · obtain rfl : k = order.length := by omega
        have hdone := Lib.hid (HG.out.done HR.out h10)
        have hLN : Hid (legsN l.trains = legsAll l) := (legsAll_N l).symm
        have hX := hS.ext
        go_wp2_with fail
        refine (l1legs_any (HL.out _ (hX.trans (by repeat (first | (with_reducible assumption) | (with_reducible exact Ext.refl _) | apply Ext.alloc | apply Ext.drewN | apply Ext.drew)))) hs0.out).mono ?_
        rintro e w5 ⟨rfl, hE5⟩
        rw [hLN.out]
        have hT := hS.trans (Ext.trans (by repeat (first | (with_reducible assumption) | (with_reducible exact Ext.refl _) | apply Ext.alloc | apply Ext.drewN | apply Ext.drew)) hE5)
        have HP5 := Lib.hid (HP.out.prows.ext (Ext.trans (by repeat (first | (with_reducible assumption) | (with_reducible exact Ext.refl _) | apply Ext.alloc | apply Ext.drewN | apply Ext.drew)) hE5))
        have hR5 := HP.out.rd.ext (Ext.trans (by repeat (first | (with_reducible assumption) | (with_reducible exact Ext.refl _) | apply Ext.alloc | apply Ext.drewN | apply Ext.drew)) hE5)
        have hb3 := hR5.b3
        have hgp5 := hR5.lt
        have hpl := HP.out.rows
        have HPL := Lib.hid hpl
        clear k1 k2 k3 k4 k5 k6 hS hE5 hX hR5 hpl
        obtain ⟨k1, k2, k3, k4, k5, k6⟩ := hT.open2
        have fr := box_frozen (hT.box (w.heap.size + 1, #[.int .i64 0, .int .i64 0, .slice none 0 0], 73) (by simp))
        have hXf := fun (x y z : Value) => (hT.set3 (x := x) (y := y) (z := z) (by omega)).ext
        by_cases hlen : order.length = legsAll l
        · have hb : ((order.length : Int) != (legsAll l : Int)) = false := by simp [hlen]
          have hst : Hid (placeA l order = (((0, 0), p) : PlR)) := by unfold Hid; rw [hdone.out, if_pos hlen]
          have HLE := Lib.hid hlen; clear hlen
          go_wp2_with fail
          exact bodyPost_ret (v := placedV 0 0 (.slice AR l.trains.length cR)) (by simp [results, Try.results60, go_sem, placedV, k1, k2, k3, k4, k5, k6, fr]) rfl ⟨⟨AR, cR, gr, vs, by rw [hst.out]; simp only []; rw [HPL.out], by rw [hst.out]; exact (((HP5.out.set_far (by omega) _ _).set_far (by omega) _ _).set_far (by omega) _ _).mono (by omega)⟩, hXf _ _ _⟩
        · have hb : ((order.length : Int) != (legsAll l : Int)) = true := by simp; omega
          have hst : Hid (placeA l order = (((4, (order.length : Int)), []) : PlR)) := by unfold Hid; rw [hdone.out, if_neg hlen]
          clear hlen
          go_wp2_with fail
          exact bodyPost_ret (v := placedV 4 (order.length : Int) (.slice none 0 0)) (by simp [results, Try.results60, go_sem, placedV, k1, k2, k3, k4, k5, k6, fr]) rfl ⟨placed_stop hst.out, hXf _ _ _⟩
  · have hst : Hid (placeA l order = (((1, 0), []) : PlR)) := placeA_one hr
    have hrb : right l = true ∧ ¬ order.length ≤ 10 ∨ right l = false := by
      by_cases e : right l = true
      · exact Or.inl ⟨e, fun h => hr ⟨e, h⟩⟩
      · exact Or.inr (by simpa using e)
    clear hr h0 h2 ho
    rcases hrb with ⟨hrt, h10⟩ | hrf
    · have HR := Lib.hid hrt
      have hd10 : decide ((10 : Int) < (order.length : Int)) = true := by simp; omega
      clear hrt
      go_enter Try.func60, Try.ntmps60
      go_wp2_with fail
      refine (l1ok_any (HL.out _ (by repeat (first | (with_reducible assumption) | (with_reducible exact Ext.refl _) | apply Ext.alloc | apply Ext.drewN | apply Ext.drew))) hs0.out).mono ?_
      rw [HR.out]
      rintro e w1 ⟨rfl, hE⟩
      have hS := (((Lp.nil w).newAt (g := w.heap.size) #[.slice A0 l.tracks.length c0, .int .i64 l.gap, .slice A2 l.trains.length c2] 33 rfl).newAt (g := w.heap.size + 1) #[.int .i64 0, .int .i64 0, .slice none 0 0] 73 (by rw [alloc_size])).trans hE
      obtain ⟨k1, k2, k3, k4, k5, k6⟩ := hS.open2
      have fr := box_frozen (hS.box (w.heap.size + 1, #[.int .i64 0, .int .i64 0, .slice none 0 0], 73) (by simp))
      have hXf := fun (x y z : Value) => (hS.set3 (x := x) (y := y) (z := z) (by omega)).ext
      go_wp2_with fail
      exact bodyPost_ret (v := placedV 1 0 (.slice none 0 0)) (by simp [results, Try.results60, go_sem, placedV, k1, k2, k3, k4, k5, k6, fr]) rfl ⟨placed_stop hst.out, hXf _ _ _⟩
    · have HR := Lib.hid hrf
      clear hrf
      go_enter Try.func60, Try.ntmps60
      go_wp2_with fail
      refine (l1ok_any (HL.out _ (by repeat (first | (with_reducible assumption) | (with_reducible exact Ext.refl _) | apply Ext.alloc | apply Ext.drewN | apply Ext.drew))) hs0.out).mono ?_
      rw [HR.out]
      rintro e w1 ⟨rfl, hE⟩
      have hS := (((Lp.nil w).newAt (g := w.heap.size) #[.slice A0 l.tracks.length c0, .int .i64 l.gap, .slice A2 l.trains.length c2] 33 rfl).newAt (g := w.heap.size + 1) #[.int .i64 0, .int .i64 0, .slice none 0 0] 73 (by rw [alloc_size])).trans hE
      obtain ⟨k1, k2, k3, k4, k5, k6⟩ := hS.open2
      have fr := box_frozen (hS.box (w.heap.size + 1, #[.int .i64 0, .int .i64 0, .slice none 0 0], 73) (by simp))
      have hXf := fun (x y z : Value) => (hS.set3 (x := x) (y := y) (z := z) (by omega)).ext
      go_wp2_with fail
      exact bodyPost_ret (v := placedV 1 0 (.slice none 0 0)) (by simp [results, Try.results60, go_sem, placedV, k1, k2, k3, k4, k5, k6, fr]) rfl ⟨placed_stop hst.out, hXf _ _ _⟩
end Go.Proofs.Ythhkbfjolmgloaa
