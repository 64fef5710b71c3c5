/- impl's search over all orders: one call of its closure finds the best of all plans that come from a part of one. Condition: the line is right, the part was placed so. -/
import Derived.Test.YthhkbfjolmgloaaML16a
import Derived.Test.YthhkbfjolmgloaaMHLookEnd
import Derived.Test.YthhkbfjolmgloaaML7a
import Derived.Test.YthhkbfjolmgloaaMHNextI
import Derived.Test.YthhkbfjolmgloaaMHPlaceI
import Derived.BigQuiet
import Derived.Deep.QuietTactic
import Derived.StillTailTactics
import Derived.Deep.DeepCutAuto
import Derived.Deep.RegionHeld3
namespace Go.Proofs.Ythhkbfjolmgloaa
open Go.RowKit Go.Deep
set_option linter.unusedVariables false
set_option linter.unusedSimpArgs false
def StepU (gp gq gr i : Nat) (R : Value) (W : World) : Prop := W.cell? ⟨gp, 3, none⟩ = some R ∧ gp < W.heap.size ∧ gr < W.heap.size ∧ W.frozen? ⟨gr, i, none⟩ = false ∧ W.cell? ⟨gq, 0, none⟩ = some (.pointer (some ⟨gp, 0, none⟩)) ∧ gq < W.heap.size
theorem stepU_mk {gp gq gr i : Nat} {R : Value} {W : World} (h : StepT gp gr i R W) (hq : W.heap[gq]? = some (.cells #[.pointer (some ⟨gp, 0, none⟩)] 110 (0, 0))) : StepU gp gq gr i R W := ⟨h.1, h.2.1, h.2.2.1, h.2.2.2, box_cell hq 0, box_lt hq⟩
theorem stepU_kept {gp gq gr i : Nat} {R : Value} {W w6 : World} {row : Option Nat} (hq : W.heap[gq]? = some (.cells #[.pointer (some ⟨gp, 0, none⟩)] 110 (0, 0))) (k : W.grownBy w6 row) (hne : row ≠ some gq) (h : StepT gp gr i R w6) : StepU gp gq gr i R w6 :=
  stepU_mk h ((k.block gq (box_lt hq) (fun e => hne e.symm)).trans hq)
theorem stepU_set {gp gq gr i : Nat} {R u : Value} {W : World} (h : StepU gp gq gr i R W) (hne : gp ≠ gr) (hq : gq ≠ gr) : StepU gp gq gr i R (W.setCell ⟨gr, i, none⟩ u) := by
  have hT := stepT_set (u := u) (stepT_mk ⟨h.1, h.2.1, h.2.2.1, h.2.2.2.1⟩) hne
  exact ⟨hT.1, hT.2.1, hT.2.2.1, hT.2.2.2, (World.cell?_of_block (a := ⟨gq, 0, none⟩) (Below.heap_setCell W ⟨gr, i, none⟩ u gq hq)).trans h.2.2.2.2.1, by simpa [World.setCell] using h.2.2.2.2.2⟩
def StepB (gb : Nat) (v : Value) (W : World) : Prop := W.cell? ⟨gb, 2, none⟩ = some v ∧ gb < W.heap.size ∧ W.frozen? ⟨gb, 2, none⟩ = false
def StepD2 (gb : Nat) (W : World) : Prop := gb < W.heap.size ∧ W.frozen? ⟨gb, 2, none⟩ = false
theorem stepB_ext {gb : Nat} {v : Value} {W W' : World} (h : StepB gb v W) (e : Ext W W') : StepB gb v W' := ⟨(e.cells.1 _ _ h.2.1).trans h.1, e.up _ h.2.1, (e.cells.2 _ _ h.2.1).trans h.2.2⟩
theorem stepD2_kept {gb : Nat} {W W' : World} {row : Option Nat} (h : StepD2 gb W) (k : W.grownBy W' row) (hne : ¬ row = some gb) : StepD2 gb W' :=
  ⟨Nat.lt_of_lt_of_le h.1 k.size, (World.frozen?_of_block (a := ⟨gb, 2, none⟩) (k.block gb h.1 (fun e => hne e.symm))).trans h.2⟩
theorem stepD2_set {gb : Nat} {W : World} {u : Value} (h : StepD2 gb W) : StepD2 gb (W.setCell ⟨gb, 2, none⟩ u) := ⟨by simpa [World.setCell] using h.1, by simpa using h.2⟩
theorem clone_row {W : World} {b n : Nat} (c : Nat) {row : List Int} (hn : row.length = n) (hn1 : n ≤ 1000000) (hR : RdInt W (some ⟨b, 0, none⟩) row) :
    Calls Try.prog 90 #[.slice (some ⟨b, 0, none⟩) n c] W fun e w' => ∃ gu cu, e = .returned (.slice (some ⟨gu, 0, none⟩) n cu) ∧ w'.ownsRow W.heap.size 3 1 (.slice (some ⟨gu, 0, none⟩) n cu) n (nums row) ∧ Ext W w' := by
  refine (Try.slices_Clone_int b 0 n c row W (by omega) (by omega) (fun j hj => ?_)).mono ?_
  · obtain ⟨x, hx⟩ := some_of_lt hj
    rw [getD_some hx]
    exact hR.at_ hx
  · rintro e w' ⟨v', rfl, h1, h2, h3⟩
    rw [List.take_of_length_le (by omega)] at h1
    rcases h1.2 with ⟨h4, _⟩ | ⟨g, cap, cur, h4, _⟩
    · exact absurd h4 h2
    · subst h4
      exact ⟨g, cap, rfl, h1, h3⟩
theorem cpc_chg {gb : Nat} {w W wb w6 : World} {o : Obj} {row : Option Nat} (h : Chg (fun g => g = gb) w W) (e : Ext W wb) (k : (wb.alloc o).grownBy w6 row) (hr : ∀ g, row = some g → w.heap.size ≤ g) : Chg (fun g => g = gb) w w6 :=
  (h.trans (Chg.of_ext (e.alloc o))).grown k (fun g hg => Or.inr (hr g hg))
theorem flM_zero {l : Line} {i m : Nat} {a : Int} (h : 0 ≤ a + (l.leg i m).stay) : flM l 0 i m a = a + ((l.leg i m).stay + (l.leg i m).run) := by
  unfold flM
  rw [Int.max_eq_left (by omega)]
  omega
theorem plc_row1 {w : World} {lo : Nat} {T : TypeId} {l : Line} {p : List (List Int)} {last : Int} {gp : Nat} {A0 : Option Addr} {c0 : Nat} {A2 : Option Addr} {c2 : Nat} {AR : Option Addr} {cR gr : Nat} {vs : Nat → Value} (P : Plc w lo T l p last gp A0 c0 A2 c2 AR cR gr vs) {i : Nat} (hi : i < l.trains.length) (hpos : 0 < rl p i) :
    ∃ g c, vs i = .slice (some ⟨g, 0, none⟩) (rl p i) c ∧ g < w.heap.size ∧ (vs i).ownBlock = some g := by
  rcases (P.own i hi).2 with ⟨_, h⟩ | ⟨g, cap, cur, h1, h2, h3, _⟩
  · omega
  · exact ⟨g, cap, h1, box_lt h3, by rw [h1]; rfl⟩
theorem own_cap {w : World} {B : Nat} {e : TypeId} {v : Value} {A : Option Addr} {k n c : Nat} {xs : List Value} (hv : v = .slice A k c) (h : w.ownsRow B e 1 v n xs) (hn : n = k) : k ≤ c := by
  subst hv
  rcases h.2 with ⟨h1, h2⟩ | ⟨g, cap, cur, h1, h2, h3, h4, _⟩
  · simp only [Value.slice.injEq] at h1; omega
  · simp only [Value.slice.injEq] at h1; omega
/-- What a call of the search leaves. -/
def LookPost (l : Line) (B gb gp gr : Nat) (A0 : Option Addr) (c0 : Nat) (A2 : Option Addr) (c2 : Nat) (AR : Option Addr) (cR : Nat) (p : List (List Int)) (last : Int) (vs : Nat → Value) (w : World) (acc : Acc) (w' : World) : Prop :=
  ∃ vs', Plc w' B 112 l p last gp A0 c0 A2 c2 AR cR gr vs' ∧ NewV w.heap.size l.trains.length vs vs' ∧ BestIn w' B gb l (SrS gb gp gr l.trains.length vs') acc ∧ Chg (SrS gb gp gr l.trains.length vs) w w'
def LookI (l : Line) (B gl gq gb gf gp gr : Nat) (A0 : Option Addr) (c0 : Nat) (A2 : Option Addr) (c2 : Nat) (AR : Option Addr) (cR : Nat) (n : Nat) : Prop :=
  ∀ (w : World) (p : List (List Int)) (last : Int) (vs : Nat → Value) (acc : Acc), SrBx w l A0 c0 A2 c2 gl gq gb gf gp gr → Plc w B 112 l p last gp A0 c0 A2 c2 AR cR gr vs → SrF gl gq gb gf l.trains.length vs → Good l p last → (n : Int) = remain l p → n ≤ 10 → last + 20000 * n ≤ 400000 → BestIn w B gb l (SrS gb gp gr l.trains.length vs) acc →
    Calls Try.prog 87 #[.pointer (some ⟨gl, 0, none⟩), .pointer (some ⟨gq, 0, none⟩), .pointer (some ⟨gb, 0, none⟩), .pointer (some ⟨gf, 0, none⟩)] w fun e w' => (∃ v, e = .returned v) ∧ LookPost l B gb gp gr A0 c0 A2 c2 AR cR p last vs w (lookS l (fun _ => 0) n p last acc) w'
theorem lookPost_same {l : Line} {B gb gp gr : Nat} {A0 : Option Addr} {c0 : Nat} {A2 : Option Addr} {c2 : Nat} {AR : Option Addr} {cR : Nat} {p : List (List Int)} {last : Int} {vs : Nat → Value} {w w' : World} {acc : Acc} (P : Plc w B 112 l p last gp A0 c0 A2 c2 AR cR gr vs) (hA : BestIn w B gb l (SrS gb gp gr l.trains.length vs) acc) (e : Ext w w') : LookPost l B gb gp gr A0 c0 A2 c2 AR cR p last vs w acc w' :=
  ⟨vs, P.ext e, NewV.refl _ _ _, hA.keep (S' := fun _ => False) (Chg.of_ext e) id (fun _ _ h => h.elim) (fun _ _ h => h), Chg.of_ext e⟩
theorem srs_lt {w : World} {l : Line} {B gb gp gr : Nat} {A0 : Option Addr} {c0 : Nat} {A2 : Option Addr} {c2 : Nat} {AR : Option Addr} {cR : Nat} {p : List (List Int)} {last : Int} {vs : Nat → Value} (P : Plc w B 112 l p last gp A0 c0 A2 c2 AR cR gr vs) (hb : gb < w.heap.size) (hn : 0 < l.trains.length) : ∀ g, SrS gb gp gr l.trains.length vs g → g < w.heap.size := by
  obtain ⟨_, cs, hcs, _⟩ := P.base hn
  rintro g (e | e | e | ⟨i, hi, e⟩)
  · omega
  · have := box_lt P.box; omega
  · have := box_lt hcs; omega
  · exact ((P.own i hi).lt g e).2
/-- A whole plan taken over as the best. -/
theorem lookPost_new {l : Line} {B gl gq gb gf gp gr : Nat} {A0 : Option Addr} {c0 : Nat} {A2 : Option Addr} {c2 : Nat} {AR : Option Addr} {cR : Nat} {p : List (List Int)} {last q : Int} {vs vs3 : Nat → Value} {w w' : World} {v : Value} (P : Plc w B 112 l p last gp A0 c0 A2 c2 AR cR gr vs) (X : SrBx w l A0 c0 A2 c2 gl gq gb gf gp gr) (F : SrF gl gq gb gf l.trains.length vs) (hgb : B ≤ gb) (hgl : gb < w.heap.size) (hf : Fits l p)
    (hb : w'.heap[gb]? = some (.cells #[.bool true, .int .i64 q, v] 44 (0, 0))) (C : CpI w' w.heap.size p l.trains.length v vs3) (hC : Chg (fun g => g = gb) w w') : LookPost l B gb gp gr A0 c0 A2 c2 AR cR p last vs w (some (q, p)) w' := by
  rw [← P.rows] at C
  obtain ⟨AP, cP, grb, rfl, hP, h1, h2⟩ := C.prows
  have hlow := P.lo_le
  have hn : 0 < p.length → 0 < l.trains.length := fun h => by rw [← P.rows]; exact h
  refine ⟨vs, P.keep hC (by rintro g rfl; exact hgb) (fun e => X.nb.1 e.symm) (fun e => X.nb.2 e.symm) (fun i g hi hg e => (F i g hi hg).2.2.2 e), NewV.refl _ _ _, ⟨true, q, AP, p.length, cP, hb, rfl, rfl, rfl, hf, grb, vs3, hP.mono hlow, fun h hs => ?_, fun i g hi hg hs => ?_⟩, hC.mono (fun g _ e => Or.inl e)⟩
  · have := srs_lt P hgl (hn h) _ hs
    have := h1 h
    omega
  · have := srs_lt P hgl (hn (by omega)) _ hs
    have := ((hP.own i hi).lt g hg).1
    omega
set_option maxRecDepth 100000 in
set_option maxHeartbeats 16000000 in
theorem step87_over {l : Line} {B gl gq gb gf gp gr : Nat} {A0 : Option Addr} {c0 : Nat} {A2 : Option Addr} {c2 : Nat} {AR : Option Addr} {cR : Nat} (O : Ok l) (hgb : B ≤ gb) {n : Nat} {w : World} {p : List (List Int)} {last : Int} {vs : Nat → Value} {acc : Acc} (X : SrBx w l A0 c0 A2 c2 gl gq gb gf gp gr) (P : Plc w B 112 l p last gp A0 c0 A2 c2 AR cR gr vs) (F : SrF gl gq gb gf l.trains.length vs) (G : Good l p last) (hn : ((n : Nat) : Int) = remain l p) (h10 : n ≤ 10) (hl : last + 20000 * ((n : Nat) : Int) ≤ 400000) (hA : BestIn w B gb l (SrS gb gp gr l.trains.length vs) acc) (hov : over (floorS l p 0) acc = true) :
    Calls Try.prog 87 #[.pointer (some ⟨gl, 0, none⟩), .pointer (some ⟨gq, 0, none⟩), .pointer (some ⟨gb, 0, none⟩), .pointer (some ⟨gf, 0, none⟩)] w fun e w' => (∃ v, e = .returned v) ∧ LookPost l B gb gp gr A0 c0 A2 c2 AR cR p last vs w (lookS l (fun _ => 0) n p last acc) w' := by
  have HOVR := Lib.hid hov
  clear hov
  have HX := Lib.hid X
  have HP := Lib.hid P
  have HF := Lib.hid F
  have HG := Lib.hid G
  have HN := Lib.hid hn
  have HA := Lib.hid hA
  have HO := Lib.hid O
  obtain ⟨A0', c0', A2', c2', hv, h0, h2⟩ := P.rd.line
  simp only [Value.agg.injEq, Array.mk.injEq, List.cons.injEq, Value.slice.injEq, and_true, true_and] at hv
  obtain ⟨⟨rfl, rfl⟩, rfl, rfl⟩ := hv
  obtain ⟨b0, o0, b2, o2, bl, ol, cl, SL⟩ := seeL O h0 h2
  have HS := Lib.hid SL
  have HB := Lib.hid O.bd
  have HR := Lib.hid P.rd
  have HFW := Lib.hid (G.few (by omega))
  have n5 := HB.out.n5
  have hgp := P.rd.lt
  have p3 := P.rd.b3
  have x0 := box_cell X.bl 2
  have x1 := box_cell X.bq 0
  have hgl := box_lt X.bl
  have hgq := box_lt X.bq
  have hgf := box_lt X.bf
  obtain ⟨ok, cst, AP, np, cP, hbx, hm⟩ := hA
  have y0 := box_cell hbx 0
  have y1 := box_cell hbx 1
  have y2 := box_cell hbx 2
  have hgbl := box_lt hbx
  have HBX := Lib.hid hbx
  have HM := Lib.hid hm
  clear X P F G hn O h0 h2 SL hbx hm
  go_enter Try.func87, Try.ntmps87
  go_wp2_with fail
  go_loopw [4, 5, 20] (fun al a j wr => ∃ (jj : Nat) (q : Int) (b : Bool), jj ≤ l.trains.length ∧ j = .int .i64 jj ∧ a = .int .i64 q ∧ al = .bool b ∧ 0 ≤ q ∧ q ≤ 200000000 * jj ∧ Hid (floorS l p 0 = q + sumF (fun i => lateT (l.tr i) (floorT l p 0 i)) jj l.trains.length) ∧ Hid (b = true ↔ ∀ i, i < jj → rl p i = (l.tr i).legs.length) ∧ Ext w wr) (fun _ _ j _ => l.trains.length - (intOf j).toNat)
  case atStart => exact ⟨0, 0, true, Nat.zero_le _, rfl, rfl, rfl, by omega, by omega, by unfold Hid floorS; omega, by simp [Hid], (by repeat (first | (with_reducible assumption) | (with_reducible exact Ext.refl _) | apply Ext.alloc | apply Ext.drewN | apply Ext.drew))⟩
  case round =>
    obtain ⟨jj, q, b, hjj, rfl, rfl, rfl, hq0, hq1, HC, HAL, hE⟩ := hrel
    obtain ⟨k1, k2⟩ := (Lp.of_ext hE).open0
    by_cases hlt : jj < l.trains.length
    · clear y0 y1 y2
      obtain ⟨rfl, hgr⟩ := HR.out.base (by omega)
      obtain ⟨rfl, hb2⟩ := HS.out.base2 (by omega)
      obtain ⟨e0, e1, e2, e3, e4, hbl⟩ := HS.out.train jj hlt
      obtain ⟨Aj, cj, r0, hbj⟩ := HR.out.row jj hlt
      obtain ⟨m10, m11⟩ := HB.out.nl1 jj hlt
      obtain ⟨t0, t1⟩ := HB.out.tr jj hlt
      have hlen := HFW.out.len jj hlt
      have HBJ := Lib.hid hbj; clear hbj
      have HTJ := Lib.hid (HS.out.isTrain hlt)
      have hT := Lib.hid (HO.out.train jj _ (Line.tr_at hlt))
      have HNN := Lib.hid (sumF_at (fun i => lateT (l.tr i) (floorT l p 0 i)) hlt)
      have hz2 : (0 : Int) ≤ rl p jj := by omega
      obtain ⟨wo, rfl⟩ : ∃ wo, wo = wr := ⟨_, rfl⟩
      go_upto_if 36 with fail
      have hS := (Lp.of_ext hE).newAt (g := wo.heap.size) #[.int .i64 (l.tr jj).frm, .int .i64 (l.tr jj).ready, .int .i64 (l.tr jj).due, .int .i64 (l.tr jj).weight, .slice (some ⟨bl jj, ol jj, none⟩) (l.tr jj).legs.length (cl jj)] 80 rfl
      have hw0 : w.heap.size ≤ wo.heap.size := hE.size
      generalize wo.alloc (.cells #[.int .i64 (l.tr jj).frm, .int .i64 (l.tr jj).ready, .int .i64 (l.tr jj).due, .int .i64 (l.tr jj).weight, .slice (some ⟨bl jj, ol jj, none⟩) (l.tr jj).legs.length (cl jj)] 80) = wa at hS ⊢
      clear k1 k2 hE
      obtain ⟨k1, k2, k3, k4⟩ := hS.open1
      go_cut [9] (fun s wx => s = .int .i64 (fl0 l p jj) ∧ Lp w wx [(wo.heap.size, #[.int .i64 (l.tr jj).frm, .int .i64 (l.tr jj).ready, .int .i64 (l.tr jj).due, .int .i64 (l.tr jj).weight, .slice (some ⟨bl jj, ol jj, none⟩) (l.tr jj).legs.length (cl jj)], 80)])
      case first =>
        by_cases hz : rl p jj = 0
        · have hv : Hid (fl0 l p jj = (l.tr jj).ready) := by unfold Hid fl0; rw [if_pos hz]
          have hz1 : decide (0 < rl p jj) = false := by simp; omega
          have hz2 : decide ((0 : Int) < (rl p jj : Int)) = false := by simp; omega
          have hz3 : ¬ 0 < rl p jj := by omega
          have HZ := Lib.hid hz; clear hz
          go_wp2_with fail
          go_meet
          exact ⟨i64_eq hv.out.symm, (by repeat (first | (with_reducible exact hS) | apply Lp.alloc | apply Lp.drewN | apply Lp.drew))⟩
        · obtain ⟨k, hkk⟩ : ∃ k, rl p jj = k + 1 := ⟨rl p jj - 1, by omega⟩
          have HKK := Lib.hid hkk
          have hkr : k < rl p jj := by omega
          have hkl : k < (l.tr jj).legs.length := by omega
          have hv : Hid (fl0 l p jj = st p jj k + (l.leg jj k).run) := by unfold Hid fl0; rw [if_neg hz, HKK.out]; rfl
          obtain ⟨rfl, hbr⟩ := HBJ.out (by omega)
          have s0 := HR.out.st jj k hlt hkr
          obtain ⟨g0, g1, g2⟩ := HS.out.leg jj k hlt hkl
          obtain ⟨z0, z1⟩ := HFW.out.at_ jj k hlt hkr
          obtain ⟨_, _, y1, y2, _, _⟩ := HB.out.leg jj k hlt hkl
          have hz1 : decide (0 < rl p jj) = true := by simp; omega
          have hsub : ((rl p jj : Int) - 1) = (k : Int) := by omega
          have hw : IntKind.i64.wrap ((rl p jj : Int) - 1) = (k : Int) := by rw [hsub]; exact IntWalk.i64_in _ (by omega)
          clear hkk hz
          go_wp2_with fail
          go_quiet (fail)
          go_wp2_with fail
          go_meet
          exact ⟨i64_eq hv.out.symm, (by repeat (first | (with_reducible exact hS) | apply Lp.alloc | apply Lp.drewN | apply Lp.drew))⟩
      case rest =>
        obtain ⟨rfl, hS2⟩ := hcut
        clear k1 k2 k3 k4 hS
        have hS := hS2; clear hS2
        have hf0 : 0 ≤ fl0 l p jj ∧ fl0 l p jj ≤ 1010000 := by
          unfold fl0
          by_cases e : rl p jj = 0
          · rw [if_pos e]; omega
          · rw [if_neg e]
            have a1 := HFW.out.at_ jj (rl p jj - 1) hlt (by omega)
            have a2 := HB.out.leg jj (rl p jj - 1) hlt (by omega)
            omega
        go_wp2_with fail
        go_loopw [4, 9, 10] (fun al a j wr => ∃ (m : Nat) (a' : Int) (b' : Bool), m ≤ (l.tr jj).legs.length ∧ rl p jj ≤ m ∧ j = .int .i64 m ∧ a = .int .i64 a' ∧ al = .bool b' ∧ Hid (b' = (b && decide (m = rl p jj))) ∧ 0 ≤ a' ∧ a' ≤ 1010000 + 20000 * m ∧ Hid (floorT l p 0 jj = foldF (flM l 0 jj) m (l.tr jj).legs.length a') ∧ Lp w wr [(wo.heap.size, #[.int .i64 (l.tr jj).frm, .int .i64 (l.tr jj).ready, .int .i64 (l.tr jj).due, .int .i64 (l.tr jj).weight, .slice (some ⟨bl jj, ol jj, none⟩) (l.tr jj).legs.length (cl jj)], 80)]) (fun _ _ j _ => (l.tr jj).legs.length - (intOf j).toNat)
        case atStart => exact ⟨rl p jj, fl0 l p jj, b, hlen, Nat.le_refl _, rfl, rfl, rfl, by simp [Hid], hf0.1, by omega, floorT_rl l p 0 jj, hS⟩
        case round =>
          clear hS
          obtain ⟨m, a, b', hm, hrm, rfl, rfl, rfl, HBB, ha0, ha1, HD, hS⟩ := hrel
          obtain ⟨k1, k2, k3, k4⟩ := hS.open1
          by_cases hlm : m < (l.tr jj).legs.length
          · obtain ⟨f0, f1, f2⟩ := HS.out.leg jj m hlt hlm
            obtain ⟨_, _, y1, y2, y3, y4⟩ := HB.out.leg jj m hlt hlm
            have HMM := Lib.hid (foldF_at (flM l 0 jj) hlm a)
            have hv : Hid (flM l 0 jj m a = a + ((l.leg jj m).stay + (l.leg jj m).run)) := flM_zero (by omega)
            have hB2 : Hid (false = (b && decide (m + 1 = rl p jj))) := by
              have : ¬ m + 1 = rl p jj := by omega
              simp [Hid, this]
            clear HBB
            go_upto_region 12 with fail
            go_quiet (fail)
            go_wp2_with fail
            exact ⟨⟨m + 1, _, false, by omega, by omega, by go_num, rfl, rfl, hB2.out, by omega, by omega, by rw [HD.out, HMM.out, hv.out]; rfl, (by repeat (first | (with_reducible exact hS) | apply Lp.alloc | apply Lp.drewN | apply Lp.drew))⟩, (by simp [intOf]; omega)⟩
          · obtain rfl : m = (l.tr jj).legs.length := by omega
            have hv : Hid (floorT l p 0 jj = a) := by unfold Hid; rw [HD.out, foldF_end _ (Nat.le_refl _)]
            have HAL2 : Hid (b' = true ↔ ∀ i, i < jj + 1 → rl p i = (l.tr i).legs.length) := by
              unfold Hid
              rw [HBB.out, Bool.and_eq_true, HAL.out, decide_eq_true_eq]
              constructor
              · rintro ⟨q1, q2⟩ i hi
                by_cases e : i = jj
                · subst e; exact q2.symm
                · exact q1 i (by omega)
              · intro q
                exact ⟨fun i hi => q i (by omega), (q jj (by omega)).symm⟩
            obtain ⟨hb0, hb1⟩ := lateT_bd hT.out (e := a) (by omega)
            have hX := hS.ext
            clear HAL HBB
            go_wp2_with fail
            refine (late_any (HTJ.out.ext (hX.trans (by repeat (first | (with_reducible assumption) | (with_reducible exact Ext.refl _) | apply Ext.alloc | apply Ext.drewN | apply Ext.drew)))) hT.out a (by omega) (by omega)).mono ?_
            rintro e w1 ⟨rfl, hE⟩
            have hT1 := hS.trans (Ext.trans (by repeat (first | (with_reducible assumption) | (with_reducible exact Ext.refl _) | apply Ext.alloc | apply Ext.drewN | apply Ext.drew)) hE)
            have hY := hT1.ext
            go_wp2_with fail
            exact ⟨⟨jj + 1, q + lateT (l.tr jj) a, b', by omega, by go_num, rfl, rfl, by omega, by omega, by rw [HC.out, HNN.out, hv.out]; unfold Hid; omega, HAL2.out, hY⟩, (by simp [intOf]; omega)⟩
    · obtain rfl : jj = l.trains.length := by omega
      have hv : Hid (floorS l p 0 = q) := by unfold Hid; rw [HC.out, sumF_end _ (Nat.le_refl _)]; omega
      have hbe : Hid (b = true ↔ n = 0) := by
        unfold Hid
        rw [HAL.out]
        constructor
        · intro h
          have : remain l p = 0 := sumF_zero fun j _ hj => by have := h j hj; unfold rl at this; omega
          have := HN.out
          omega
        · rintro rfl
          exact remain_zero HG.out HN.out.symm
      have HEX := Lib.hid hE
      clear HC HAL hE
      have hov : over q acc = true := by rw [← hv.out]; exact HOVR.out
      have hgo : Hid (lookS l (fun _ => 0) n p last acc = acc) := lookS_over (fl := fun _ => 0) (by rw [hv.out]; exact hov)
      have hcc : ok = true ∧ decide (cst < q) = true := by
        cases acc with
        | none => cases hov
        | some cb => obtain ⟨c, b⟩ := cb; obtain ⟨q1, rfl, _⟩ := HM.out; exact ⟨q1, hov⟩
      obtain ⟨rfl, hd⟩ := hcc
      clear hov
      go_wp2_with fail
      exact bodyPost_ret (v := .tuple #[]) (by simp [results, Try.results87, go_sem]) rfl ⟨⟨_, rfl⟩, by rw [hgo.out]; exact lookPost_same HP.out HA.out (HEX.out.trans (by repeat (first | (with_reducible assumption) | (with_reducible exact Ext.refl _) | apply Ext.alloc | apply Ext.drewN | apply Ext.drew)))⟩
end Go.Proofs.Ythhkbfjolmgloaa
