/- spec.Lines draws the plain line of a code. Condition: three to ten legs at most, a code of at most 2^20 bytes.
   spec.l5Cur.order and spec.AnOrder draw some order of at most ten legs. Condition: the line is right, few choices read before. -/
import Derived.Test.YthhkbfjolmgloaaM2HDrawX
import Derived.Deep.RegionLaw
namespace Go.Proofs.Ythhkbfjolmgloaa
open Go.RowKit
set_option linter.unusedVariables false
set_option linter.unusedSimpArgs false
theorem OwnL.set_far {B g : Nat} {w : World} {v : Value} {l : Line} (h : OwnL B w v l) (hg : g < B) (j : Nat) (u : Value) : OwnL B (w.setCell ⟨g, j, none⟩ u) v l := by
  obtain ⟨v0, v2, vl, h1, h2, h3⟩ := h
  refine ⟨v0, v2, vl, h1, ownsRow_set_far h2 (fun e => by have := (h2.lt _ e).1; omega) j u, h3.keep ((Chg.of_ext (S := fun k => k = g) (Ext.refl w)).setCell (g := g) (Or.inl rfl) j u) (fun k e => by omega)⟩
theorem OwnL.mono {B B' : Nat} {w : World} {v : Value} {l : Line} (h : OwnL B w v l) (hB : B' ≤ B) : OwnL B' w v l := by
  obtain ⟨v0, v2, vl, h1, h2, h3⟩ := h
  exact ⟨v0, v2, vl, h1, ownsRow_mono h2 hB, ownsRow_mono h3.own hB, fun i hi => ownsRow_mono (h3.legs i hi) hB, h3.far⟩
theorem OwnL.ext {B : Nat} {w w' : World} {v : Value} {l : Line} (h : OwnL B w v l) (e : Ext w w') : OwnL B w' v l := by
  obtain ⟨v0, v2, vl, h1, h2, h3⟩ := h
  exact ⟨v0, v2, vl, h1, ownsRow_ext h2 e, h3.ext e⟩
theorem OwnL.form {B : Nat} {w : World} {v : Value} {l : Line} (h : OwnL B w v l) : ∃ A0 c0 A2 c2, v = .agg #[.slice A0 l.tracks.length c0, .int .i64 l.gap, .slice A2 l.trains.length c2] := by
  obtain ⟨A0, c0, A2, c2, h1, _⟩ := h.rd
  exact ⟨A0, c0, A2, c2, h1⟩
set_option maxRecDepth 100000 in
set_option maxHeartbeats 8000000 in
theorem lines_any {w : World} {code : List Int} {A : Option Addr} {cA : Nat} (hB : RdByte w A code) (hA : ∀ b o, A = some ⟨b, o, none⟩ → b < w.heap.size) (By : Bytes code) (hn : code.length ≤ 1048576) {most : Int} (hm0 : 3 ≤ most) (hm1 : most ≤ 10) :
    Calls Try.prog 27 #[.slice A code.length cA, .int .i64 most] w fun e w' => ∃ v, e = .returned v ∧ OwnL w.heap.size w' v (drawLine code most) ∧ Ext w w' := by
  have HB := Lib.hid (fun (W : World) (e : Ext w W) => hB.ext e)
  have HA := Lib.hid hA
  have HBy := Lib.hid By
  clear hB hA By
  go_enter Try.func27, Try.ntmps27
  go_wp2_with fail
  have hS := ((Lp.nil w).newAt (g := w.heap.size) #[.slice none 0 0, .int .i64 0, .slice none 0 0] 33 rfl).newAt (g := w.heap.size + 1) #[.slice A code.length cA, .int .i64 0, .int .u64 0] 101 (by rw [alloc_size])
  have hsz : w.heap.size + 1 < ((w.alloc (.cells #[.slice none 0 0, .int .i64 0, .slice none 0 0] 33)).alloc (.cells #[.slice A code.length cA, .int .i64 0, .int .u64 0] 101)).heap.size := by rw [alloc_size, alloc_size]; omega
  generalize (w.alloc (.cells #[.slice none 0 0, .int .i64 0, .slice none 0 0] 33)).alloc (.cells #[.slice A code.length cA, .int .i64 0, .int .u64 0] 101) = w2 at hS hsz ⊢
  have hcur : CurIs w2 (w.heap.size + 1) code A cA ⟨0, 0⟩ := hS.box (w.heap.size + 1, #[.slice A code.length cA, .int .i64 0, .int .u64 0], 101) (by simp)
  have hpk := pick_dw (w := w2) (gc := w.heap.size + 1) (cA := cA) (HB.out w2 hS.ext) HBy.out (fun b o e => by have := HA.out b o e; omega) hn
  refine (line_any hcur hpk HBy.out hm0 hm1 (by simp)).mono ?_
  rintro e w3 ⟨v, rfl, hO, hC⟩
  obtain ⟨A0, c0, A2, c2, rfl⟩ := hO.form
  have hX : Ext w w3 := Below.trans hS.ext (hC.below (fun g e => by omega) hS.ext.size)
  have hb := hC.box (hS.box (w.heap.size, #[.slice none 0 0, .int .i64 0, .slice none 0 0], 33) (by simp)) (by omega)
  have x0 := box_cell hb 0
  have x1 := box_cell hb 1
  have x2 := box_cell hb 2
  have fr := box_frozen hb
  have hl := box_lt hb
  have HO := Lib.hid hO
  clear hb hO hC hpk hcur
  have hdl : drawLine code most = lineC code most ⟨0, 0⟩ := rfl
  have HDL := Lib.hid hdl
  clear hdl
  go_wp2_with fail
  refine bodyPost_ret (v := .agg #[.slice A0 (lineC code most ⟨0, 0⟩).tracks.length c0, .int .i64 (lineC code most ⟨0, 0⟩).gap, .slice A2 (lineC code most ⟨0, 0⟩).trains.length c2]) (by simp [results, Try.results27, go_sem, x0, x1, x2, fr, hl]) rfl ⟨_, rfl, ?_, ?_⟩
  · rw [HDL.out]
    exact (((HO.out.set_far (by omega) _ _).set_far (by omega) _ _).set_far (by omega) _ _).mono (by omega)
  · exact ((hX.setCell (by simp only []; omega) _).setCell (by simp only []; omega) _).setCell (by simp only []; omega) _
end Go.Proofs.Ythhkbfjolmgloaa
namespace Go.Proofs.Ythhkbfjolmgloaa
open Go.RowKit Go.Deep
set_option linter.unusedVariables false
set_option linter.unusedSimpArgs false
/-- A row of numbers of one's own, whose numbers are not told. -/
structure NumsI (w : World) (B g n cap : Nat) : Prop where
  base : B ≤ g
  lt : g < w.heap.size
  le : n ≤ cap
  small : cap ≤ 9223372036854775807
  num : ∀ j, j < n → ∃ x, w.cell? ⟨g, j, none⟩ = some (.int .i64 x)
  some_ : ∀ j, j < cap → (w.cell? ⟨g, j, none⟩).isSome = true ∧ w.frozen? ⟨g, j, none⟩ = false
theorem NumsI.of_own {w : World} {B g n cap : Nat} {D : List Int} (h : w.ownsRow B 3 1 (.slice (some ⟨g, 0, none⟩) n cap) n (nums D)) : NumsI w B g n cap := by
  have hl := h.1
  rw [nums_length, Nat.mul_one] at hl
  rcases h.2 with ⟨h1, _⟩ | ⟨g', cap', cur, h1, h2, h3, h4, h5, h6, h7⟩
  · cases h1
  · simp only [Value.slice.injEq, Option.some.injEq, Addr.mk.injEq, and_true, true_and] at h1
    obtain ⟨rfl, rfl⟩ := h1
    refine ⟨h2, box_lt h3, h4, Nat.le_trans h5 (by decide), fun j hj => ?_, fun j hj => ?_⟩
    · have e : cur.toList[j]? = (nums D)[j]? := by rw [← h7, List.getElem?_take_of_lt (by omega)]
      have e2 : cur[j]? = cur.toList[j]? := by simp
      refine ⟨D.getD j 0, ?_⟩
      rw [box_cell h3, e2, e]
      simp [nums, List.getD_eq_getElem?_getD, List.getElem?_eq_getElem (show j < D.length by omega)]
    · rw [box_cell h3, box_frozen h3]
      exact ⟨by simp [show j < cur.size by omega], rfl⟩
theorem NumsI.keep {S : Nat → Prop} {w w' : World} {B g n cap : Nat} (h : NumsI w B g n cap) (C : Chg S w w') (hS : ¬ S g) : NumsI w' B g n cap :=
  ⟨h.base, Nat.lt_of_lt_of_le h.lt C.size, h.le, h.small, fun j hj => by obtain ⟨x, hx⟩ := h.num j hj; exact ⟨x, (C.cell j h.lt hS).trans hx⟩, fun j hj => by
    have := h.some_ j hj
    rw [C.cell j h.lt hS, World.frozen?_of_block (a := ⟨g, j, none⟩) (C.block g h.lt hS)]
    exact this⟩
theorem chg_setCells (g : Nat) : ∀ (vs : List Value) (o : Nat) (w : World), Chg (fun k => k = g) w (w.setCells g o vs)
  | [], _, w => Chg.of_ext (Ext.refl w)
  | v :: r, o, w => ((Chg.of_ext (S := fun k => k = g) (Ext.refl w)).setCell (g := g) (Or.inl rfl) o v).trans (chg_setCells g r (o + 1) _)
/-- The numbers behind place k, up to the n-th. -/
def behind (w : World) (g k n : Nat) : List Value := (List.range (n - (k + 1))).map fun j => (w.cell? ⟨g, k + 1 + j, none⟩).getD undef
theorem behind_length (w : World) (g k n : Nat) : (behind w g k n).length = n - (k + 1) := by simp [behind]
theorem NumsI.behind {w : World} {B g n cap k j : Nat} (h : NumsI w B g n cap) (hj : j < n - (k + 1)) : ∃ x, (behind w g k n)[j]? = some (.int .i64 x) ∧ w.cell? ⟨g, k + 1 + j, none⟩ = some (.int .i64 x) := by
  obtain ⟨x, hx⟩ := h.num (k + 1 + j) (by omega)
  refine ⟨x, ?_, hx⟩
  simp [Proofs.Ythhkbfjolmgloaa.behind, hj, hx]
theorem NumsI.cut {w : World} {B g n cap k : Nat} (h : NumsI w B g n cap) (hk : k < n) : NumsI (w.setCells g k (Proofs.Ythhkbfjolmgloaa.behind w g k n)) B g (n - 1) cap := by
  have hsz := (chg_setCells g (Proofs.Ythhkbfjolmgloaa.behind w g k n) k w).size
  have hlen := behind_length w g k n
  have hle := h.le
  have hin := World.cell?_setCells_in g (Proofs.Ythhkbfjolmgloaa.behind w g k n) k w (fun j hj => (h.some_ (k + j) (by omega)).1)
  refine ⟨h.base, Nat.lt_of_lt_of_le h.lt hsz, by omega, h.small, fun j hj => ?_, fun j hj => ⟨?_, by rw [World.frozen?_setCells]; exact (h.some_ j hj).2⟩⟩
  · by_cases e : j < k
    · rw [World.cell?_setCells_out g _ _ _ _ (fun _ _ => Or.inl e)]
      exact h.num j (by omega)
    · have hjk : j - k < (Proofs.Ythhkbfjolmgloaa.behind w g k n).length := by omega
      have h2 := hin (j - k) hjk
      rw [show k + (j - k) = j by omega] at h2
      obtain ⟨x, h3, _⟩ := h.behind (k := k) (j := j - k) (by omega)
      rw [List.getElem?_eq_getElem hjk] at h3
      exact ⟨x, h2.trans h3⟩
  · by_cases e : j < k ∨ k + (Proofs.Ythhkbfjolmgloaa.behind w g k n).length ≤ j
    · rw [World.cell?_setCells_out g _ _ _ _ (fun _ _ => e)]
      exact (h.some_ j hj).1
    · have hjk : j - k < (Proofs.Ythhkbfjolmgloaa.behind w g k n).length := by omega
      have h2 := hin (j - k) hjk
      rw [show k + (j - k) = j by omega] at h2
      rw [h2]; rfl
theorem Dw.wrote {w wr w' : World} {gc g : Nat} {code : List Int} {A : Option Addr} {cA : Nat} {c : Cu} {bs : List (Nat × Array Value × TypeId)} (h : Dw w gc code A cA wr c bs) (C : Chg (fun k => k = g) wr w') (hg : w.heap.size ≤ g) (hne : ∀ x, x ∈ bs → x.1 ≠ g) : Dw w gc code A cA w' c bs :=
  ⟨C.box h.cur (by have := h.old; show ¬ gc = g; omega), Chg.comp h.chg C (fun k hk e => by omega), fun x hx => C.box (h.box x hx) (hne x hx), h.new, h.old⟩
def lenV : Value → Nat
  | .slice _ n _ => n
  | _ => 0
set_option maxRecDepth 100000 in
set_option maxHeartbeats 8000000 in
theorem order_any {w : World} {gc : Nat} {code : List Int} {A : Option Addr} {cA : Nat} {c : Cu} {l : Line} {A0 : Option Addr} {c0 : Nat} {A2 : Option Addr} {c2 : Nat} (D : CurIs w gc code A cA c) (PK : PickC w gc code A cA) (By : Bytes code) (O : Ok l)
    (hl : ∀ W, Chg (fun g => g = gc) w W → IsLine W l (.agg #[.slice A0 l.tracks.length c0, .int .i64 l.gap, .slice A2 l.trains.length c2])) (hp : c.pos ≤ 2000) :
    Calls Try.prog 119 #[.pointer (some ⟨gc, 0, none⟩), .agg #[.slice A0 l.tracks.length c0, .int .i64 l.gap, .slice A2 l.trains.length c2]] w fun e w' => ∃ (o : List Int) (A' : Option Addr) (cO : Nat) (c' : Cu), e = .returned (.slice A' o.length cO) ∧ o.length ≤ 10 ∧ RdInt w' A' o ∧ CurIs w' gc code A cA c' ∧ c'.pos ≤ c.pos + 20 ∧ Chg (fun g => g = gc) w w' := by
  have HPK := Lib.hid PK
  have HBy := Lib.hid By
  have HL := Lib.hid hl
  have HO := Lib.hid O
  have HBd := Lib.hid O.bd
  have n5 := O.bd.n5
  have n10 := O.nlegs
  have D0 := (Dw.start D).newAt (g := w.heap.size) #[.slice A0 l.tracks.length c0, .int .i64 l.gap, .slice A2 l.trains.length c2] 33 rfl
  clear PK By hl O D
  go_enter Try.func119, Try.ntmps119
  go_wp2_with fail
  go_loopw [5, 13] (fun v j wr => ∃ (jj : Nat) (L : List Int), jj ≤ l.trains.length ∧ j = .int .i64 jj ∧ Hid (wr.ownsRow (w.heap.size + 1) 3 1 v L.length (nums L)) ∧ L.length + legsN (l.trains.drop jj) ≤ 10 ∧ Dw w gc code A cA wr c [(w.heap.size, #[.slice A0 l.tracks.length c0, .int .i64 l.gap, .slice A2 l.trains.length c2], 33)]) (fun _ j _ => l.trains.length - (intOf j).toNat)
  case atStart => exact ⟨0, [], Nat.zero_le _, rfl, World.ownsRow_nil _ _ _ _, by simpa using n10, D0⟩
  case round =>
    clear D0
    obtain ⟨jj, L, hjj, rfl, HOW, hLL, DD⟩ := hrel
    by_cases hlt : jj < l.trains.length
    · obtain ⟨B0', B0c, B2', B2c, hv, h0, h2⟩ := HL.out _ DD.chg
      simp only [Value.agg.injEq, Array.mk.injEq, List.cons.injEq, Value.slice.injEq, and_true, true_and] at hv
      obtain ⟨⟨rfl, rfl⟩, rfl, rfl⟩ := hv
      obtain ⟨b0, o0, b2, o2, bl, ol, cl, SL⟩ := seeL HO.out h0 h2
      obtain ⟨rfl, hb2⟩ := SL.base2 (by omega)
      obtain ⟨e0, e1, e2, e3, e4, hbl⟩ := SL.train jj hlt
      obtain ⟨m10, m11⟩ := HBd.out.nl1 jj hlt
      have hN := legsN_at (Line.tr_at hlt)
      rw [hN] at hLL
      clear SL h0 h2 hN
      obtain ⟨wo, rfl⟩ : ∃ wo, wo = wr := ⟨_, rfl⟩
      have D1 := DD.newAt (g := wo.heap.size) #[.int .i64 (l.tr jj).frm, .int .i64 (l.tr jj).ready, .int .i64 (l.tr jj).due, .int .i64 (l.tr jj).weight, .slice (some ⟨bl jj, ol jj, none⟩) (l.tr jj).legs.length (cl jj)] 80 rfl
      have HO1 := Lib.hid (HOW.out.alloc (.cells #[.int .i64 (l.tr jj).frm, .int .i64 (l.tr jj).ready, .int .i64 (l.tr jj).due, .int .i64 (l.tr jj).weight, .slice (some ⟨bl jj, ol jj, none⟩) (l.tr jj).legs.length (cl jj)] 80))
      have hw1 : w.heap.size < wo.heap.size := (DD.at_ (g := w.heap.size) (t := 33) (cs := _) (List.mem_singleton.2 rfl)).2.1
      have hold := DD.old
      have HOW0 := HOW
      clear DD HOW
      go_wp2_with fail
      have HNE : Hid (∀ q, u5.ownBlock = some q → q ≠ wo.heap.size) := fun q hq => by have := (World.ownsRow.lt HOW0.out q hq).2; omega
      go_loopw [5, 21] (fun v j wr2 => ∃ (m : Nat) (L : List Int), m ≤ (l.tr jj).legs.length ∧ j = .int .i64 m ∧ Hid (wr2.ownsRow (w.heap.size + 1) 3 1 v L.length (nums L)) ∧ L.length + ((l.tr jj).legs.length - m) + legsN (l.trains.drop (jj + 1)) ≤ 10 ∧ Hid (∀ q, v.ownBlock = some q → q ≠ wo.heap.size) ∧ Dw w gc code A cA wr2 c [(wo.heap.size, #[.int .i64 (l.tr jj).frm, .int .i64 (l.tr jj).ready, .int .i64 (l.tr jj).due, .int .i64 (l.tr jj).weight, .slice (some ⟨bl jj, ol jj, none⟩) (l.tr jj).legs.length (cl jj)], 80), (w.heap.size, #[.slice A0 l.tracks.length c0, .int .i64 l.gap, .slice (some ⟨b2, o2, none⟩) l.trains.length c2], 33)]) (fun _ j _ => (l.tr jj).legs.length - (intOf j).toNat)
      case atStart => exact ⟨0, L, Nat.zero_le _, rfl, HO1.out, by omega, HNE.out, D1⟩
      case round =>
        clear D1 HO1 HNE HOW0
        obtain ⟨m, L2, hm, rfl, HOW, hL2, HNE, DD⟩ := hrel
        obtain ⟨z1, z2, z3⟩ := DD.at_ (g := wo.heap.size) (cs := #[.int .i64 (l.tr jj).frm, .int .i64 (l.tr jj).ready, .int .i64 (l.tr jj).due, .int .i64 (l.tr jj).weight, .slice (some ⟨bl jj, ol jj, none⟩) (l.tr jj).legs.length (cl jj)]) (t := 80) (by simp)
        by_cases hlm : m < (l.tr jj).legs.length
        · have hN : L2.length ≤ 1000000 := by omega
          go_wp2_with (at_builtin; refine app_any rfl _ _ 23 rfl (w.heap.size + 1) 3 1 8 _ Try.underlying23 info3 rfl (by decide) _ _ _ rfl (HOW.out.alloc _) (by rw [alloc_size]; omega) _ _ #[.int .i64 (jj : Int)] _ rfl (box_new _ _) rfl (one_int _) hN (by decide) _ rfl ?_)
          intro g cap w6 hown hgrow hg hlt6
          have hlo : ∀ q, u5.ownBlock = some q → w.heap.size + 1 ≤ q := fun q hq => (World.ownsRow.lt HOW.out q hq).1
          have D6 := (DD.ext ((Ext.refl wr).alloc (.cells #[.int .i64 (jj : Int)] 3))).grown hgrow (fun q hq => ⟨by have := hlo q hq; omega, far2 (fun e => HNE.out q hq e.symm) (by have := hlo q hq; omega)⟩)
          have HO6 := Lib.hid (row_snoc hown)
          have HNE6 : Hid (∀ q, (Value.slice (some ⟨g, 0, none⟩) (L2.length + 1) cap).ownBlock = some q → q ≠ wo.heap.size) := fun q hq => by
            rw [ownBlock_slice] at hq
            simp only [Option.some.injEq] at hq
            subst hq
            rcases hg with h | h
            · exact HNE.out _ h
            · omega
          clear hown hgrow hg hlo
          go_wp2_with fail
          exact ⟨⟨m + 1, L2 ++ [(jj : Int)], by omega, by go_num, HO6.out, by rw [List.length_append, List.length_singleton]; omega, HNE6.out, D6⟩, (by simp [intOf]; omega)⟩
        · obtain rfl : m = (l.tr jj).legs.length := by omega
          have DT := DD.tail
          clear DD z1 z2 z3
          go_wp2_with fail
          exact ⟨⟨jj + 1, L2, by omega, by go_num, HOW.out, by omega, DT⟩, (by simp [intOf]; omega)⟩
    · obtain rfl : jj = l.trains.length := by omega
      have hL10 : L.length ≤ 10 := by omega
      obtain ⟨i0, hi0, hz0, hz1, hz2⟩ : ∃ i, Try.prog.info? 3 = some i ∧ i.zero = some (.int .i64 0) ∧ i.size = 1 ∧ i.bytes = 8 := by
        obtain ⟨i, hi, hzz⟩ := Option.map_eq_some_iff.1 info3
        simp only [Prod.mk.injEq] at hzz
        exact ⟨i, hi, hzz.1, hzz.2.1, hzz.2.2⟩
      obtain ⟨_, AL, cL, rfl, hst⟩ : ∃ (_ : True) (AL : Option Addr) (cL : Nat), u5 = .slice AL L.length cL ∧ (0 < L.length → ∃ g, AL = some ⟨g, 0, none⟩ ∧ NumsI wr (w.heap.size + 1) g L.length cL) := by
        rcases HOW.out.2 with ⟨h1, h2⟩ | ⟨g, cap, cur, h1, _⟩
        · exact ⟨trivial, none, 0, by rw [h1, h2], fun h => by omega⟩
        · exact ⟨trivial, some ⟨g, 0, none⟩, cap, h1, fun _ => ⟨g, rfl, NumsI.of_own (by rw [← h1]; exact HOW.out)⟩⟩
      have HST := Lib.hid hst
      clear hst HOW
      go_wp2_with fail
      go_loopw [5, 8] (fun v o wr => ∃ (n cap : Nat) (A' : Option Addr) (ou : List Int) (cc : Cu), v = .slice A' n cap ∧ Hid (0 < n → ∃ g, A' = some ⟨g, 0, none⟩ ∧ NumsI wr (w.heap.size + 1) g n cap) ∧ Hid (wr.ownsRow (w.heap.size + 1) 3 1 o ou.length (nums ou)) ∧ Hid (∀ q, o.ownBlock = some q → A' ≠ some ⟨q, 0, none⟩) ∧ n + ou.length ≤ 10 ∧ cc.pos ≤ c.pos + 2 * ou.length ∧ Dw w gc code A cA wr cc [(w.heap.size, #[.slice A0 l.tracks.length c0, .int .i64 l.gap, .slice A2 l.trains.length c2], 33)]) (fun v _ _ => lenV v)
      case atStart => exact ⟨L.length, cL, AL, [], c, rfl, HST.out, World.ownsRow_nil _ _ _ _, (fun q h => by cases h), by simpa using hL10, by simp, DD⟩
      case round =>
        clear HST DD
        obtain ⟨n, cap, A', ou, cc, rfl, HST, HOW, HAP, hno, hcc, DD⟩ := hrel
        by_cases hn : 0 < n
        · obtain ⟨g, rfl, hNI⟩ := HST.out hn
          have hd : decide ((0 : Int) < (n : Int)) = true := decide_eq_true (by omega)
          go_wp2_with fail
          refine (HPK.out _ _ _ (n : Int) DD (by omega) (by omega)).mono ?_
          rintro e w3 ⟨rfl, D3, C3⟩
          obtain ⟨c3, hc3⟩ : ∃ x, Hid ((pickC code (n : Int) cc).2 = x) := ⟨_, rfl⟩
          have hb3 := pickC_bd HBy.out (n : Int) cc
          obtain ⟨x, hx⟩ : ∃ x : Nat, Hid ((pickC code (n : Int) cc).1 = x) := ⟨(pickC code (n : Int) cc).1.toNat, by unfold Hid; omega⟩
          rw [hc3.out] at D3
          rw [hx.out]
          rw [hc3.out, hx.out] at hb3
          go_wp2_with fail
          refine (HPK.out _ _ _ 2 D3 (by omega) (by omega)).mono ?_
          rintro e w4 ⟨rfl, D4, C4⟩
          obtain ⟨c4, hc4⟩ : ∃ x, Hid ((pickC code 2 c3).2 = x) := ⟨_, rfl⟩
          have hb4 := pickC_bd HBy.out 2 c3
          obtain ⟨y, hy⟩ : ∃ y : Nat, Hid ((pickC code 2 c3).1 = y) := ⟨(pickC code 2 c3).1.toNat, by unfold Hid; omega⟩
          rw [hc4.out] at D4
          rw [hy.out]
          rw [hc4.out, hy.out] at hb4
          obtain ⟨k, hkx, hkn⟩ : ∃ k : Nat, wrap64 ((x : Int) / (1 + (y : Int))) = (k : Int) ∧ k < n := by
            have hy01 : y = 0 ∨ y = 1 := by omega
            refine ⟨((x : Int) / (1 + (y : Int))).toNat, ?_, ?_⟩
            · rcases hy01 with rfl | rfl
              · rw [IntWalk.wrap64_in _ (by omega)]; omega
              · rw [IntWalk.wrap64_in _ (by omega)]; omega
            · rcases hy01 with rfl | rfl <;> omega
          have hgcg : g ≠ gc := by have := hNI.base; have := DD.old; omega
          have hNI4 := hNI.keep (C3.trans C4) hgcg
          have hO4 := Lib.hid (ownsRow_keep HOW.out (C3.trans C4) (fun q hq e => by have := (World.ownsRow.lt HOW.out q hq).1; have := DD.old; omega))
          obtain ⟨z, hz⟩ := hNI4.num k hkn
          have hgl := hNI4.lt
          have hcap := hNI4.le
          have hsm := hNI4.small
          have hkc : k < cap := by omega
          have HNI4 := Lib.hid hNI4
          have hN : ou.length ≤ 1000000 := by omega
          have hws : w.heap.size < w4.heap.size := by have := (C3.trans C4).size; have := DD.chg.size; have := hNI.base; have := hNI.lt; omega
          have hy1 : (1 + (y : Int)) ≠ 0 := by omega
          have HST' := hNI.base
          clear DD D3 C3 C4 hNI hNI4 HOW HST
          go_wp2_with (at_builtin; refine app_any rfl _ _ 23 rfl (w.heap.size + 1) 3 1 8 _ Try.underlying23 info3 rfl (by decide) _ _ _ rfl (hO4.out.alloc _) (by rw [alloc_size]; omega) _ _ #[.int .i64 z] _ rfl (box_new _ _) rfl (one_int _) hN (by decide) _ rfl ?_)
          intro g2 cap2 w6 hown hgrow hg2 hlt6
          have hlo : ∀ q, u8.ownBlock = some q → w.heap.size + 1 ≤ q ∧ q < w4.heap.size := fun q hq => World.ownsRow.lt hO4.out q hq
          have hne : ∀ q, u8.ownBlock = some q → q ≠ g := fun q hq e => HAP.out q hq (by rw [e])
          have D6 := (D4.ext ((Ext.refl w4).alloc (.cells #[.int .i64 z] 3))).grown hgrow (fun q hq => ⟨by have := hlo q hq; omega, one1 (by have := hlo q hq; omega)⟩)
          have hC6 : Chg (fun q => u8.ownBlock = some q) w4 w6 := (Chg.of_ext ((Ext.refl w4).alloc (.cells #[.int .i64 z] 3))).grown hgrow (fun q hq => Or.inl hq)
          have hNI6 := HNI4.out.keep hC6 (fun e => hne g e rfl)
          have hO6 := Lib.hid (row_snoc hown)
          have hg2g : g2 ≠ g := by
            rcases hg2 with h | h
            · exact hne _ h
            · omega
          clear hown hgrow hg2 hlo hne hC6 D4 HNI4 hO4 hz
          have hNId := hNI6.keep (S := fun _ => False) (Chg.of_ext (Ext.refl w6).drew) id
          obtain ⟨AD, hAD, hnews⟩ : ∃ AD : Addr, (if cap = k + 1 then some (⟨g, 0, none⟩ : Addr) else some ⟨g, k + 1, none⟩) = some AD ∧ Hid (∀ j u, (Proofs.Ythhkbfjolmgloaa.behind w6.drew g k n)[j]? = some u → w6.drew.cell? (AD.add j) = some u) := by
            by_cases h : cap = k + 1
            · refine ⟨⟨g, 0, none⟩, by simp [h], fun j u hu => ?_⟩
              have h0 : (Proofs.Ythhkbfjolmgloaa.behind w6.drew g k n).length = 0 := by rw [behind_length]; omega
              rw [List.length_eq_zero_iff.1 h0] at hu
              simp at hu
            · refine ⟨⟨g, k + 1, none⟩, by simp [h], fun j u hu => ?_⟩
              have hj : j < n - (k + 1) := by
                have := (List.getElem?_eq_some_iff.1 hu).1
                rwa [behind_length] at this
              obtain ⟨q, h1, h2⟩ := hNId.behind (k := k) hj
              rw [h1] at hu
              rw [Addr.add_lit, ← hu]
              exact h2
          have s1 : Hid ((Proofs.Ythhkbfjolmgloaa.behind w6.drew g k n).length = (n - (k + 1)) * 1) := by rw [Nat.mul_one]; exact behind_length _ _ _ _
          have s2 : Hid (∀ u ∈ Proofs.Ythhkbfjolmgloaa.behind w6.drew g k n, u.oneCell' = true) := by
            intro u hu
            obtain ⟨j, hj⟩ := List.getElem?_of_mem hu
            have hjl := (List.getElem?_eq_some_iff.1 hj).1
            rw [behind_length] at hjl
            obtain ⟨q, h1, _⟩ := hNId.behind (k := k) hjl
            rw [h1] at hj
            simp only [Option.some.injEq] at hj
            subst hj; rfl
          have s3 : Hid (∀ j, j < (Proofs.Ythhkbfjolmgloaa.behind w6.drew g k n).length → (w6.drew.cell? ⟨g, 0 + k * 1 + j, none⟩).isSome = true ∧ w6.drew.frozen? ⟨g, 0 + k * 1 + j, none⟩ = false) := by
            intro j hj
            rw [behind_length] at hj
            rw [Nat.mul_one, Nat.zero_add]
            exact hNId.some_ (k + j) (by omega)
          have hic : k ≤ cap := by omega
          have hwr : IntKind.i64.wrap ((k : Int) + 1) = (k : Int) + 1 := IntWalk.i64_in _ (by omega)
          have hp0 : (0 : Int) ≤ (k : Int) + 1 := by omega
          have hp1 : (k : Int) + 1 ≤ (n : Int) := by omega
          have hp2 : ((k : Int) + 1).toNat = k + 1 := by omega
          have hcut := Lib.hid (hNId.cut hkn)
          have Dd := D6.ext (Ext.refl w6).drew
          have hOd := Lib.hid (ownsRow_ext hO6.out (Ext.refl w6).drew)
          go_upto_region 14 with fail
          go_region_law (refine step_append_room rfl (.tmp 49) (.tmp 53) 23 rfl 3 i0 1 Try.underlying23 hi0 hz1 g 0 k cap (by simp [Act.eval, Act.put]) AD (n - (k + 1)) (cap - (k + 1)) (Proofs.Ythhkbfjolmgloaa.behind w6.drew g k n) (by simp [Act.eval, Act.put]) s1.out hnews.out s2.out (by omega) s3.out ?_)
          go_wp2_with fail
          have hfin : ∀ W, W = w6.drew.setCells g k (Proofs.Ythhkbfjolmgloaa.behind w6.drew g k n) → NumsI W (w.heap.size + 1) g (k + (n - (k + 1))) cap ∧ W.ownsRow (w.heap.size + 1) 3 1 (.slice (some ⟨g2, 0, none⟩) (ou.length + 1) cap2) (ou ++ [z]).length (nums (ou ++ [z])) ∧ Dw w gc code A cA W c4 [(w.heap.size, #[.slice A0 l.tracks.length c0, .int .i64 l.gap, .slice A2 l.trains.length c2], 33)] := by
            rintro W rfl
            refine ⟨by have h := hcut.out; rw [show n - 1 = k + (n - (k + 1)) by omega] at h; exact h, ownsRow_keep hOd.out (chg_setCells g _ _ _) (fun q hq e => by rw [ownBlock_slice] at hq; simp only [Option.some.injEq] at hq; omega), Dd.wrote (chg_setCells g _ _ _) (by omega) (one1 (by omega))⟩
          obtain ⟨f1, f2, f3⟩ := hfin _ rfl
          refine ⟨?_, by simp [lenV, Act.put]; omega⟩
          repeat apply Exists.intro
          refine ⟨⟨k + (n - (k + 1)), cap, some ⟨g, 0, none⟩, ou ++ [z], c4, rfl, fun _ => ⟨g, rfl, f1⟩, f2, fun q hq e => (by rw [ownBlock_slice] at hq; simp only [Option.some.injEq, Addr.mk.injEq, and_true, true_and] at hq e; omega), by rw [List.length_append, List.length_singleton]; omega, by rw [List.length_append, List.length_singleton]; omega, f3⟩, ?_⟩
          rfl
        · have hd : decide ((0 : Int) < (n : Int)) = false := decide_eq_false (by omega)
          obtain ⟨_, Ao, co, rfl, hRo⟩ : ∃ (_ : True) (Ao : Option Addr) (co : Nat), u8 = .slice Ao ou.length co ∧ RdInt wr Ao ou := by obtain ⟨_, Ao, co, h1, h2⟩ := rd_of_ownsP HOW.out; exact ⟨trivial, Ao, co, h1, h2⟩
          have HRo := Lib.hid hRo
          clear hRo HST HOW
          go_wp2_with fail
          go_ret
          exact ⟨ou, Ao, co, cc, rfl, by omega, HRo.out, DD.cur, by omega, DD.chg⟩
set_option maxRecDepth 100000 in
set_option maxHeartbeats 8000000 in
theorem anOrder_any {w : World} {l : Line} {u : Value} (hl : IsLine w l u) (O : Ok l) {code : List Int} {A : Option Addr} {cA : Nat} (hB : RdByte w A code) (hA : ∀ b o, A = some ⟨b, o, none⟩ → b < w.heap.size) (By : Bytes code) (hn : code.length ≤ 1048576) :
    Calls Try.prog 58 #[u, .slice A code.length cA] w fun e w' => ∃ (o : List Int) (A' : Option Addr) (cO : Nat), e = .returned (.slice A' o.length cO) ∧ o.length ≤ 10 ∧ RdInt w' A' o ∧ Ext w w' := by
  have HL := Lib.hid (fun (W : World) (e : Ext w W) => hl.ext e)
  obtain ⟨A0, c0, A2, c2, rfl, h0, h2⟩ := hl
  have HB := Lib.hid (fun (W : World) (e : Ext w W) => hB.ext e)
  have HA := Lib.hid hA
  have HBy := Lib.hid By
  have HO := Lib.hid O
  clear hB hA By h0 h2 O
  go_enter Try.func58, Try.ntmps58
  go_wp2_with fail
  have hS := ((Lp.nil w).newAt (g := w.heap.size) #[.slice A0 l.tracks.length c0, .int .i64 l.gap, .slice A2 l.trains.length c2] 33 rfl).newAt (g := w.heap.size + 1) #[.slice A code.length cA, .int .i64 0, .int .u64 0] 101 (by rw [alloc_size])
  generalize (w.alloc (.cells #[.slice A0 l.tracks.length c0, .int .i64 l.gap, .slice A2 l.trains.length c2] 33)).alloc (.cells #[.slice A code.length cA, .int .i64 0, .int .u64 0] 101) = w2 at hS ⊢
  have hcur : CurIs w2 (w.heap.size + 1) code A cA ⟨0, 0⟩ := hS.box (w.heap.size + 1, #[.slice A code.length cA, .int .i64 0, .int .u64 0], 101) (by simp)
  have hpk := pick_dw (w := w2) (gc := w.heap.size + 1) (cA := cA) (HB.out w2 hS.ext) HBy.out (fun b o e => by have := HA.out b o e; omega) hn
  have hX := hS.ext
  refine (order_any hcur hpk HBy.out HO.out (fun W hC => HL.out W (Below.trans hX (hC.below (fun g e => by omega) hX.size))) (by simp)).mono ?_
  rintro e w3 ⟨o, A', cO, c', rfl, ho, hR, _, _, hC⟩
  have hX3 : Ext w w3 := Below.trans hX (hC.below (fun g e => by omega) hX.size)
  have HR := Lib.hid hR
  clear hR hC hpk hcur hS
  go_wp2_with fail
  go_ret
  exact ⟨o, A', cO, rfl, ho, HR.out, hX3⟩
end Go.Proofs.Ythhkbfjolmgloaa
