/- laws.FnEasier answers true, at every pair of codes. No condition. (The walk; the row stands in a text behind.) -/
import Derived.Test.YthhkbfjolmgloaaMHSolveI
import Derived.Test.YthhkbfjolmgloaaML17a
import Derived.Test.YthhkbfjolmgloaaML9a
import Derived.Test.YthhkbfjolmgloaaM4La
import Derived.Test.YthhkbfjolmgloaaM2L17a
import Derived.Test.YthhkbfjolmgloaaM3L17a
import Derived.Test.YthhkbfjolmgloaaM2L13a
import Derived.BigQuiet
import Derived.Deep.QuietTactic
import Derived.StillTailTactics
import Derived.Deep.DeepCutAuto
import Derived.Deep.CutBlock
import Derived.Deep.RegionHeld3
namespace Go.Proofs.Ythhkbfjolmgloaa
open Go.RowKit Go.Deep
set_option linter.unusedVariables false
set_option linter.unusedSimpArgs false
theorem easier_best {l q : Line} {c : Int} {b : List (List Int)} (O : Ok l) (E : Easier l q) (h : bestR (solveR l) = ((true, c), b)) : ∃ c' b', bestR (solveR q) = ((true, c'), b') ∧ c' ≤ c := by
  unfold solveR at h
  rw [if_pos (right_iff.2 O)] at h
  cases hs : solveA l id with
  | none => rw [hs] at h; cases h
  | some cb =>
    obtain ⟨c0, b0⟩ := cb
    rw [hs] at h
    cases h
    obtain ⟨c', b', h1, h2⟩ := E.solve O (fl := id) (fl' := id) (fun x _ => Int.le_refl x) (fun x _ => Int.le_refl x) hs
    refine ⟨c', b', ?_, h2⟩
    unfold solveR
    rw [if_pos (right_iff.2 E.ok), h1]
    rfl
theorem wByte_n {w : World} {xs : List Int} {A : Option Addr} {cA k zN : Nat} {kz : Int} (hk' : kz = (k : Int)) (hz : byteW xs k = (zN : Int)) (hB : RdByte w A xs) (By : Bytes xs) (hn : xs.length ≤ 1048576) (hk : k ≤ 1000) :
    Calls Try.prog 63 #[.slice A xs.length cA, .int .i64 kz] w fun e w' => e = .returned (.int .i64 (zN : Int)) ∧ w' = w := by
  subst hk'
  rw [← hz]
  exact wByte_q hB By hn hk
theorem own_cap3 {w : World} {B : Nat} {e : TypeId} {size : Nat} {v : Value} {n : Nat} {xs : List Value} (h : w.ownsRow B e size v n xs) (hn : 0 < n) : ∃ g cap, v = .slice (some ⟨g, 0, none⟩) n cap ∧ n ≤ cap ∧ cap ≤ 9223372036854775807 ∧ B ≤ g ∧ g < w.heap.size := by
  rcases h.2 with ⟨h1, h2⟩ | ⟨g, cap, cur, h1, hb, hc, h4, h5, _⟩
  · omega
  · exact ⟨_, _, h1, h4, Nat.le_trans h5 (by decide), hb, box_lt hc⟩
theorem Lp.far1 {w wr : World} {bs : List (Nat × Array Value × TypeId)} (h : Lp w wr bs) {g : Nat} (hg : w.heap.size ≤ g) (hne : ∀ x, x ∈ bs → x.1 ≠ g) (j : Nat) (u : Value) : Lp w (wr.setCell ⟨g, j, none⟩ u) bs :=
  ⟨h.ext.setCell hg u, fun x hx => box_set_far (h.box x hx) j u (hne x hx)⟩
theorem leg_cell {xs : List Leg} {k : Nat} {x : Leg} (h : xs[k]? = some x) : (legCells xs)[k * 3]? = some (.int .i64 x.to) ∧ (legCells xs)[k * 3 + 1]? = some (.int .i64 x.run) ∧ (legCells xs)[k * 3 + 2]? = some (.int .i64 x.stay) := legCells_at h
/-- What stands behind the five ways: an easier line, made. -/
def Eased (l : Line) (wb : World) (g : Nat) (bs : List (Nat × Array Value × TypeId)) (wx : World) : Prop := ∃ (q : Line) (A0 A2 : Option Addr) (c0 c2 : Nat), Easier l q ∧ IsLine wx q (.agg #[.slice A0 q.tracks.length c0, .int .i64 q.gap, .slice A2 q.trains.length c2]) ∧ Lp wb wx ((g, #[.slice A0 q.tracks.length c0, .int .i64 q.gap, .slice A2 q.trains.length c2], 33) :: bs)
theorem field44 (a b c : Value) (W : World) : (Instr.field 44 (.agg #[a, b, c]) 0).run Try.prog W = .ok a W := by kernel_rfl
theorem Eased.of {l q : Line} {wb wx : World} {g n0 n2 c0 c2 : Nat} {A0 A2 : Option Addr} {gp : Int} {bs : List (Nat × Array Value × TypeId)} (E : Easier l q) (hI : IsLine wx q (.agg #[.slice A0 n0 c0, .int .i64 gp, .slice A2 n2 c2])) (hL : Lp wb wx ((g, #[.slice A0 n0 c0, .int .i64 gp, .slice A2 n2 c2], 33) :: bs)) : Eased l wb g bs wx := by
  obtain ⟨B0, d0, B2, d2, e, r0, r2⟩ := hI
  simp only [Value.agg.injEq, Array.mk.injEq, List.cons.injEq, Value.slice.injEq, Value.int.injEq, and_true, true_and] at e
  obtain ⟨⟨rfl, rfl, rfl⟩, rfl, rfl, rfl, rfl⟩ := e
  exact ⟨q, A0, A2, c0, c2, E, ⟨A0, c0, A2, c2, rfl, r0, r2⟩, hL⟩
set_option maxRecDepth 100000 in
set_option maxHeartbeats 8000000 in
theorem lawEasier_any {w : World} {xs ys : List Int} {A1 A4 : Option Addr} {c1 c4 : Nat} (hA : RdByte w A1 xs) (hA0 : ∀ b o, A1 = some ⟨b, o, none⟩ → b < w.heap.size) (hAB : Bytes xs) (hB : RdByte w A4 ys) (hB0 : ∀ b o, A4 = some ⟨b, o, none⟩ → b < w.heap.size) (hBB : Bytes ys) :
    Calls Try.prog 14 #[.slice A1 xs.length c1, .slice A4 ys.length c4] w fun e w' => e = .returned (.bool true) ∧ Ext w w' := by
  have HB := Lib.hid (fun (W : World) (e : Ext w W) => hB.ext e)
  clear hB hB0
  by_cases hn : xs.length ≤ 1048576
  · have hd0 : decide ((1048576 : Int) < (xs.length : Int)) = false := by simp; omega
    by_cases hm : ys.length ≤ 1048576
    · have hd1 : decide ((1048576 : Int) < (ys.length : Int)) = false := by simp; omega
      go_enter Try.func14, Try.ntmps14
      go_wp2_with fail
      refine (lines_any (most := 6) (hA.ext (by repeat (first | (with_reducible assumption) | (with_reducible exact Ext.refl _) | apply Ext.alloc | apply Ext.drewN | apply Ext.drew))) (fun b o e => by have := hA0 b o e; (first | exact this | (simp only [World.heap_drewN]; exact this))) hAB hn (by omega) (by omega)).mono ?_
      rintro e w1 ⟨v, rfl, hO, hE⟩
      obtain ⟨l, hl⟩ : ∃ l, Hid (drawLine xs 6 = l) := ⟨_, rfl⟩
      have HD : Hid (LineD 6 l) := by rw [← hl.out]; exact drawLine_ok hAB (by omega) (by omega)
      have HTK : Hid (∀ s, s < l.tracks.length → l.tk s ≤ 3) := by rw [← hl.out]; exact fun s hs => drawLine_tk hAB s hs
      have O := HD.out.ok
      rw [hl.out] at hO
      obtain ⟨A0, c0, A2, c2, rfl, h0, h2⟩ := hO.rd
      have HL1 : Hid (∀ W, Ext w1 W → IsLine W l (.agg #[.slice A0 l.tracks.length c0, .int .i64 l.gap, .slice A2 l.trains.length c2])) := fun W e => hO.rd.ext e
      have hX1 : Ext w w1 := Ext.trans (by repeat (first | (with_reducible assumption) | (with_reducible exact Ext.refl _) | apply Ext.alloc | apply Ext.drewN | apply Ext.drew)) hE
      clear hO h0 h2 hE
      have HO := Lib.hid O
      have HSZ := O.size_le4
      obtain ⟨r, hr⟩ : ∃ r, Hid (bestR (solveR l) = r) := ⟨_, rfl⟩
      obtain ⟨⟨code, at_⟩, p0⟩ := r
      have hsm := solveR_small l
      rw [hr.out] at hsm
      obtain ⟨hp5, hrl0⟩ := hsm
      simp only [] at hp5 hrl0
      have HLEN0 : Hid (∀ (i : Nat) (t : List Int), p0[i]? = some t → t.length ≤ 10) := fun i t ht => by
        have h := hrl0 i
        unfold rl at h
        rw [List.getD_eq_getElem?_getD, ht] at h
        simp only [Option.getD_some] at h
        omega
      clear hrl0 O
      have hS := (Lp.of_ext hX1).new #[.slice A0 l.tracks.length c0, .int .i64 l.gap, .slice A2 l.trains.length c2] 33
      obtain ⟨k1, k2, k3, k4⟩ := hS.open1
      go_wp2_with fail
      refine (impl_Solve_any (HL1.out _ (by repeat (first | (with_reducible assumption) | (with_reducible exact Ext.refl _) | apply Ext.alloc | apply Ext.drewN | apply Ext.drew))) HSZ).mono ?_
      rintro e w2 ⟨⟨AR, cR, gr, vs, rfl, hP⟩, hE⟩
      rw [hr.out] at hP ⊢
      simp only [] at hP
      simp only [bestV]
      have hX : Ext w1 w2 := Ext.trans (by repeat (first | (with_reducible assumption) | (with_reducible exact Ext.refl _) | apply Ext.alloc | apply Ext.drewN | apply Ext.drew)) hE
      have hT := (hS.trans (Ext.trans (by repeat (first | (with_reducible assumption) | (with_reducible exact Ext.refl _) | apply Ext.alloc | apply Ext.drewN | apply Ext.drew)) hE)).new #[.bool code, .int .i64 at_, .slice AR p0.length cR] 44
      have HP2 := Lib.hid (fun (W : World) (e : Ext w2 W) => hP.rd.ext e)
      have HL2 : Hid (∀ W, Ext w2 W → IsLine W l (.agg #[.slice A0 l.tracks.length c0, .int .i64 l.gap, .slice A2 l.trains.length c2])) := fun W e => HL1.out W (hX.trans e)
      clear hE hX hP k1 k2 k3 k4 hS HL1 hA hA0
      have hS := hT; clear hT
      go_upto_region 5 with fail
      have hXc : Ext w2 (w2.alloc (.cells #[.bool code, .int .i64 at_, .slice AR p0.length cR] 44)) := (by repeat (first | (with_reducible assumption) | (with_reducible exact Ext.refl _) | apply Ext.alloc | apply Ext.drewN | apply Ext.drew))
      generalize w2.alloc (.cells #[.bool code, .int .i64 at_, .slice AR p0.length cR] 44) = wk at hS hXc ⊢
      have hXw := hS.ext
      obtain ⟨k1, k2, b3, m3, b1, m1⟩ := hS.open2
      have HPk := Lib.hid (fun (W : World) (e : Ext wk W) => HP2.out W (hXc.trans e))
      have HLk : Hid (∀ W, Ext wk W → IsLine W l (.agg #[.slice A0 l.tracks.length c0, .int .i64 l.gap, .slice A2 l.trains.length c2])) := fun W e => HL2.out W (hXc.trans e)
      have HBk := Lib.hid (fun (W : World) (e : Ext wk W) => HB.out W (hXw.trans e))
      have hSk : Lp wk wk [(w2.heap.size, #[.bool code, .int .i64 at_, .slice AR p0.length cR], 44), (w1.heap.size, #[.slice A0 l.tracks.length c0, .int .i64 l.gap, .slice A2 l.trains.length c2], 33)] := ((Lp.nil wk).add (hS.box (w1.heap.size, #[.slice A0 l.tracks.length c0, .int .i64 l.gap, .slice A2 l.trains.length c2], 33) (by simp))).add (hS.box (w2.heap.size, #[.bool code, .int .i64 at_, .slice AR p0.length cR], 44) (by simp))
      have HK : Hid (∀ W, Ext wk W → Ext wk W ∧ (∀ j, W.cell? ⟨w1.heap.size, j, none⟩ = (#[.slice A0 l.tracks.length c0, .int .i64 l.gap, .slice A2 l.trains.length c2] : Array Value)[j]?) ∧ w1.heap.size < W.heap.size ∧ (∀ j, W.cell? ⟨w2.heap.size, j, none⟩ = (#[.bool code, .int .i64 at_, .slice AR p0.length cR] : Array Value)[j]?) ∧ w2.heap.size < W.heap.size) := fun W e =>
        ⟨e, fun j => (e.cells.1 _ _ m1).trans (b1 j), e.up _ m1, fun j => (e.cells.1 _ _ m3).trans (b3 j), e.up _ m3⟩
      clear HP2 HL2 HB hS hXc k1 k2 b3 m3 b1 m1
      go_cut [32] (fun s wx => s = .bool (!code) ∧ Ext wk wx)
      case first =>
        have hu : undef = Value.tuple #[] := rfl
        go_region_held3 (fun W => Ext wk W ∧ (∀ j, W.cell? ⟨w1.heap.size, j, none⟩ = (#[.slice A0 l.tracks.length c0, .int .i64 l.gap, .slice A2 l.trains.length c2] : Array Value)[j]?) ∧ w1.heap.size < W.heap.size ∧ (∀ j, W.cell? ⟨w2.heap.size, j, none⟩ = (#[.bool code, .int .i64 at_, .slice AR p0.length cR] : Array Value)[j]?) ∧ w2.heap.size < W.heap.size) (first | assumption | exact HK.out _ (Ext.drew (Ext.refl _)) | exact HK.out _ (Ext.trans (And.left (by assumption)) (by assumption))) (first  | (go_at_call 30; have hX := And.left (by assumption : Ext wk _ ∧ _); refine (wBest_same (a := code) (b := at_) (c := cR) (c' := cR9) (HPk.out _ hX) (HP9.out.ext (by repeat (first | (with_reducible assumption) | (with_reducible exact Ext.refl _) | apply Ext.alloc | apply Ext.drewN | apply Ext.drew))) (by omega) (fun i t ht => by have := HLEN0.out i t ht; omega)).mono ?_; rintro e wb ⟨rfl, hEb⟩)  | (go_at_call 28; have hX := And.left (by assumption : Ext wk _ ∧ _); with_reducible refine (spec_Solve_any (HLk.out _ hX) HSZ).mono ?_; rintro e wa ⟨hBI, hEa⟩; unfold BestIs at hBI; obtain ⟨AR9, cR9, gr9, vs9, rfl, hP9⟩ := hBI; rw [hr.out] at hP9 ⊢; simp only [] at hP9; simp only [bestV]; have HP9 := Lib.hid hP9.rd; clear hP9))
        all_goals
          go_wp2_with fail
          go_meet
          exact ⟨rfl, And.left (by assumption)⟩
      case rest =>
        obtain ⟨rfl, hXr⟩ := hcut
        have hS := hSk.trans hXr
        cases code with
        | false =>
          obtain ⟨k1, k2, k3, k4, k5, k6⟩ := hS.open2
          have HK2 : Hid (∀ W, Ext wc W → Ext wk W ∧ (∀ j, W.cell? ⟨w1.heap.size, j, none⟩ = (#[.slice A0 l.tracks.length c0, .int .i64 l.gap, .slice A2 l.trains.length c2] : Array Value)[j]?) ∧ w1.heap.size < W.heap.size ∧ (∀ j, W.cell? ⟨w2.heap.size, j, none⟩ = (#[.bool false, .int .i64 at_, .slice AR p0.length cR] : Array Value)[j]?) ∧ w2.heap.size < W.heap.size) := fun W e => HK.out W (hXr.trans e)
          have hfd : ∀ (a b c : Value) (W : World), (Instr.field 44 (.agg #[a, b, c]) 0).run Try.prog W = .ok a W := field44
          clear hS k1 k2 k3 k4 k5 k6 hSk
          go_upto_region 6 with fail
          go_region_held3 (fun W => Ext wk W ∧ (∀ j, W.cell? ⟨w1.heap.size, j, none⟩ = (#[.slice A0 l.tracks.length c0, .int .i64 l.gap, .slice A2 l.trains.length c2] : Array Value)[j]?) ∧ w1.heap.size < W.heap.size ∧ (∀ j, W.cell? ⟨w2.heap.size, j, none⟩ = (#[.bool false, .int .i64 at_, .slice AR p0.length cR] : Array Value)[j]?) ∧ w2.heap.size < W.heap.size) (first | assumption | exact HK2.out _ (Ext.drew (Ext.refl _)) | exact HK.out _ (Ext.trans (And.left (by assumption)) (by assumption))) (first  | (go_at_call 28; have hX := And.left (by assumption : Ext wk _ ∧ _); with_reducible refine (spec_Solve_any (HLk.out _ hX) HSZ).mono ?_; rintro e wa ⟨hBI, hEa⟩; unfold BestIs at hBI; obtain ⟨AR9, cR9, gr9, vs9, rfl, hP9⟩ := hBI; rw [hr.out] at hP9 ⊢; simp only [] at hP9; simp only [bestV]; have HP9 := Lib.hid hP9.rd; clear hP9))
          all_goals
            go_wp2_with fail
            go_ret
            exact ⟨rfl, hXw.trans (And.left (by assumption))⟩
        | true =>
          have hXwc := hXw.trans hXr
          obtain ⟨k1, k2, k3, k4, k5, k6⟩ := hS.open2
          go_wp2_with fail
          refine (wLater_any (d := 0) (HLk.out _ (hXr.trans (by repeat (first | (with_reducible assumption) | (with_reducible exact Ext.refl _) | apply Ext.alloc | apply Ext.drewN | apply Ext.drew)))) HO.out (by omega) (by omega)).mono ?_
          rintro e w5 ⟨v0, v2, vl, rfl, hOA, hE⟩
          rw [laterL_zero] at hOA
          have hnt := HD.out.some_
          have hn2 := HO.out.n2
          obtain ⟨gT, cT, rfl, hcT, hcT2, hloT, hltT⟩ := own_cap3 hOA.1 (by omega)
          obtain ⟨g2, cv2, rfl, hc2, hc22, hlo2, hlt2⟩ := own_cap3 hOA.2.1.own hnt
          have hX5 : Ext wc w5 := Ext.trans (by repeat (first | (with_reducible assumption) | (with_reducible exact Ext.refl _) | apply Ext.alloc | apply Ext.drewN | apply Ext.drew)) hE
          have HO5 := Lib.hid hOA
          have hw2 := box_lt (hS.box (w2.heap.size, #[.bool true, .int .i64 at_, .slice AR p0.length cR], 44) (by simp))
          simp only [] at hw2
          have hOA6 := hOA.ext ((Ext.refl w5).alloc (.cells #[.slice (some ⟨gT, 0, none⟩) l.tracks.length cT, .int .i64 l.gap, .slice (some ⟨g2, 0, none⟩) l.trains.length cv2] 33))
          have hSb : Lp wc wc [(w2.heap.size, #[.bool true, .int .i64 at_, .slice AR p0.length cR], 44)] := (Lp.nil wc).add (hS.box (w2.heap.size, #[.bool true, .int .i64 at_, .slice AR p0.length cR], 44) (by simp))
          have hS6 := (hSb.trans hX5).newAt (g := w5.heap.size) #[.slice (some ⟨gT, 0, none⟩) l.tracks.length cT, .int .i64 l.gap, .slice (some ⟨g2, 0, none⟩) l.trains.length cv2] 33 rfl
          have HBc := Lib.hid (fun (W : World) (e : Ext wc W) => HBk.out W (hXr.trans e))
          clear hE hOA k1 k2 k3 k4 k5 k6 hS hSb hSk HK HPk HLk HBk
          go_upto_region 8 with fail
          have hX58 : Ext w5 (w5.alloc (.cells #[.slice (some ⟨gT, 0, none⟩) l.tracks.length cT, .int .i64 l.gap, .slice (some ⟨g2, 0, none⟩) l.trains.length cv2] 33)) := (by repeat (first | (with_reducible assumption) | (with_reducible exact Ext.refl _) | apply Ext.alloc | apply Ext.drewN | apply Ext.drew))
          generalize w5.alloc (.cells #[.slice (some ⟨gT, 0, none⟩) l.tracks.length cT, .int .i64 l.gap, .slice (some ⟨g2, 0, none⟩) l.trains.length cv2] 33) = w6 at hOA6 hS6 hX58 ⊢
          obtain ⟨nt, hnte⟩ : ∃ x, Hid (l.trains.length = x) := ⟨_, rfl⟩
          obtain ⟨z0, hz0⟩ : ∃ z : Nat, Hid (byteW ys 0 = (z : Int)) := ⟨(byteW ys 0).toNat, by have := byteW_bd hBB 0; unfold Hid; omega⟩
          obtain ⟨z1, hz1⟩ : ∃ z : Nat, Hid (byteW ys 1 = (z : Int)) := ⟨(byteW ys 1).toNat, by have := byteW_bd hBB 1; unfold Hid; omega⟩
          obtain ⟨z2, hz2⟩ : ∃ z : Nat, Hid (byteW ys 2 = (z : Int)) := ⟨(byteW ys 2).toNat, by have := byteW_bd hBB 2; unfold Hid; omega⟩
          obtain ⟨z3, hz3⟩ : ∃ z : Nat, Hid (byteW ys 3 = (z : Int)) := ⟨(byteW ys 3).toNat, by have := byteW_bd hBB 3; unfold Hid; omega⟩
          obtain ⟨ti, hti⟩ : ∃ t, t = z1 % l.trains.length := ⟨_, rfl⟩
          have htil : ti < l.trains.length := by rw [hti]; exact Nat.mod_lt _ hnt
          have hmod1 : Int.tmod (z1 : Int) (l.trains.length : Int) = (ti : Int) := by rw [hti, Int.ofNat_tmod]
          have hne1 : ¬ (l.trains.length : Int) = 0 := by omega
          have HOA := Lib.hid hOA6
          obtain ⟨k1, k2, b6, m6, b2, m2⟩ := hS6.open2
          clear hOA6
          clear hti
          go_quiet ((go_at_call 63; exact Calls.quiet_of_same (wByte_n (k := 1) rfl hz1.out (HBc.out _ (hS6.ext.trans (by repeat (first | (with_reducible assumption) | (with_reducible exact Ext.refl _) | apply Ext.alloc | apply Ext.drewN | apply Ext.drew)))) hBB hm (by omega))))
          go_wp2_with fail
          have hS7 := hS6.drewN nq
          have HOA7 := Lib.hid (HOA.out.ext ((Ext.refl w6).drewN nq))
          have hX58 := hX58.drewN nq
          generalize w6.drewN nq = w7 at hS7 HOA7 hX58 ⊢
          clear HOA hS6 k1 k2 b6 m6 b2 m2 hmod1 hne1
          have HOA := HOA7
          have hS6 := hS7
          clear HOA7 hS7
          obtain ⟨k1, k2, b6, m6, b2, m2⟩ := hS6.open2
          have nl1 := HO.out.bd.nl1 ti htil
          obtain ⟨gl, cl, hvl, hcl, hcl2, hlol, hltl⟩ := own_cap3 (HOA.out.2.1.legs ti htil) nl1.1
          have hvl : vl ti = .slice (some ⟨gl, 0, none⟩) (l.tr ti).legs.length cl := hvl
          have r4 : w7.cell? ⟨g2, ti * 5 + 4, none⟩ = some (.slice (some ⟨gl, 0, none⟩) (l.tr ti).legs.length cl) := ownsRow_cell HOA.out.2.1.own (by rw [trRows_at (Line.tr_at htil) (by omega), ← hvl]; rfl)
          have HVL := Lib.hid hvl
          have hlt26 : g2 < w7.heap.size := (HOA.out.2.1.own.lt g2 rfl).2
          obtain ⟨xi, hxi⟩ : ∃ t, t = z2 % (l.tr ti).legs.length := ⟨_, rfl⟩
          have hxil : xi < (l.tr ti).legs.length := by rw [hxi]; exact Nat.mod_lt _ nl1.1
          have hmod2 : Int.tmod (z2 : Int) ((l.tr ti).legs.length : Int) = (xi : Int) := by rw [hxi, Int.ofNat_tmod]
          have hne2 : ¬ ((l.tr ti).legs.length : Int) = 0 := by omega
          obtain ⟨e5, he5⟩ : ∃ t, t = z0 % 5 := ⟨_, rfl⟩
          have hmod0 : Int.tmod (z0 : Int) 5 = (e5 : Int) := by rw [he5]; exact Int.ofNat_tmod z0 5
          have he55 : e5 < 5 := by omega
          clear hxi he5 hvl hcl hcl2
          go_quiet ((go_at_call 63; exact Calls.quiet_of_same (wByte_n (k := 2) rfl hz2.out (HBc.out _ (hS6.ext.trans (by repeat (first | (with_reducible assumption) | (with_reducible exact Ext.refl _) | apply Ext.alloc | apply Ext.drewN | apply Ext.drew)))) hBB hm (by omega))))
          go_wp2_with fail
          refine (wByte_n (k := 0) rfl hz0.out (HBc.out _ (hS6.ext.trans (by repeat (first | (with_reducible assumption) | (with_reducible exact Ext.refl _) | apply Ext.alloc | apply Ext.drewN | apply Ext.drew)))) hBB hm (by omega)).mono ?_
          rintro e w9 ⟨rfl, hw9⟩
          rw [hw9]
          clear hw9 w9
          go_upto_block 0 with fail
          have hS8 := hS6.drewN nq
          have HOA8 := Lib.hid (HOA.out.ext ((Ext.refl w7).drewN nq))
          have hX58 := hX58.drewN nq
          generalize w7.drewN nq = w8 at hS8 HOA8 hX58 ⊢
          clear HOA hS6 k1 k2 b6 m6 b2 m2 hmod2 hne2 hmod0 r4 hlt26
          go_cut [74] (fun s wx => Eased l wc w5.heap.size [(w2.heap.size, #[.bool true, .int .i64 at_, .slice AR p0.length cR], 44)] wx)
          case first =>
            obtain ⟨k1, k2, b6, m6, b2, m2⟩ := hS8.open2
            have f6 := box_frozen (hS8.box _ List.mem_cons_self)
            by_cases q0 : e5 = 0
            · have g0 : ((e5 : Int) == 0) = true := by simp [q0]
              clear q0
              obtain ⟨ji, hji⟩ : ∃ t, t = z1 % l.tracks.length := ⟨_, rfl⟩
              have hjil : ji < l.tracks.length := by rw [hji]; exact Nat.mod_lt _ (by omega)
              have hmod3 : Int.tmod (z1 : Int) (l.tracks.length : Int) = (ji : Int) := by rw [hji, Int.ofNat_tmod]
              have hne3 : ¬ (l.tracks.length : Int) = 0 := by omega
              have t0 : w8.cell? ⟨gT, ji, none⟩ = some (.int .i64 (l.tk ji)) := ownsRow_cell HOA8.out.1 (by rw [nums, List.getElem?_map, Line.tk_at hjil]; rfl)
              have tf := ownsRow_fr HOA8.out.1 ji
              have tl : gT < w8.heap.size := (HOA8.out.1.lt gT rfl).2
              have hb := HO.out.bd.tk ji hjil
              have hb3 := HTK.out ji hjil
              obtain ⟨tv, htv⟩ : ∃ x, Hid (l.tk ji = x) := ⟨_, rfl⟩
              rw [htv.out] at t0 hb hb3
              have hw3 : IntKind.i64.wrap (tv + 1) = tv + 1 := IntWalk.i64_in _ (by omega)
              have hne4 : ¬ l.tracks = [] := by intro e; rw [e] at hn2; simp at hn2
              clear hji
              go_upto_region 13 with fail
              refine wp_region_still_tail 12 (by kernel_rfl) (by kernel_rfl) ?_
              simp only [List.take_succ_cons, List.take_zero, List.drop_succ_cons, List.drop_zero]
              repeat still_step
              still_call (wByte_n (k := 1) rfl hz1.out (HBc.out _ (hS8.ext.trans (by repeat (first | (with_reducible assumption) | (with_reducible exact Ext.refl _) | apply Ext.alloc | apply Ext.drewN | apply Ext.drew)))) hBB hm (by omega))
              repeat still_step
              try refine wpStill_nil ?_
              have hS9 := (hS8.far1 hloT (far2 (by omega) (by omega)) ji (.int .i64 (tv + 1))).drew
              have hO9 := (HOA8.out.tk rfl ji (tv + 1)).ext (Ext.refl _).drew
              have HE9 := easier_tk HO.out (j := ji) (x := tv + 1) (by rw [htv.out]; omega) (by omega) (by omega)
              go_wp2_with fail
              go_meet
              exact Eased.of HE9 hO9.ownL.rd hS9
            · have g0 : ((e5 : Int) == 0) = false := by simp [q0]
              have hL8 : w8.ownsRow wc.heap.size 84 3 (.slice (some ⟨gl, 0, none⟩) (l.tr ti).legs.length cl) (l.tr ti).legs.length (legCells (l.tr ti).legs) := by have h := HOA8.out.2.1.legs ti htil; rw [HVL.out] at h; exact h
              obtain ⟨lc0, lc1, lc2⟩ := leg_cell (Line.leg_at hxil)
              have hgl5 : gl < w5.heap.size := ((HO5.out.2.1.legs ti htil).lt gl (by rw [HVL.out]; rfl)).2
              have x1 := ownsRow_cell hL8 lc1
              have x2 := ownsRow_cell hL8 lc2
              have xf := ownsRow_fr hL8
              have xl : gl < w8.heap.size := (hL8.lt gl rfl).2
              have hlb := HO.out.bd.leg ti xi htil hxil
              obtain ⟨x, hx⟩ : ∃ x, Hid (l.leg ti xi = x) := ⟨_, rfl⟩
              have HLA := Lib.hid (Line.leg_at hxil)
              have HE8 := Lib.hid (fun (y : Leg) => easier_leg (x := y) HO.out htil hxil)
              have HW8 := Lib.hid (fun (y : Leg) (u : Value) (j : Nat) => HOA8.out.leg (i := ti) (k := xi) (x := y) (u := u) (j := j) htil HVL.out rfl)
              rw [hx.out] at x1 x2 hlb HLA HE8
              have hz30 : (0 : Int) ≤ (z3 : Int) := by omega
              clear lc0 lc1 lc2 hL8
              by_cases q1 : e5 = 1
              · have g1 : ((e5 : Int) == 1) = true := by simp [q1]
                obtain ⟨rr, hrr⟩ : ∃ rr, Int.tmod (z3 : Int) x.run = rr := ⟨_, rfl⟩
                have hr0 : 0 ≤ rr := by rw [← hrr]; exact Int.tmod_nonneg _ hz30
                have hr1 : rr < x.run := by rw [← hrr]; exact Int.tmod_lt_of_pos _ (by omega)
                have hne3 : ¬ x.run = 0 := by omega
                have hw3 : IntKind.i64.wrap (1 + rr) = 1 + rr := IntWalk.i64_in _ (by omega)
                have xf1 := xf (xi * 3 + 1)
                clear q0 q1
                go_upto_region 15 with fail
                refine wp_region_still_tail 11 (by kernel_rfl) (by kernel_rfl) ?_
                simp only [List.take_succ_cons, List.take_zero, List.drop_succ_cons, List.drop_zero]
                repeat still_step
                still_call (wByte_n (k := 3) rfl hz3.out (HBc.out _ (hS8.ext.trans (by repeat (first | (with_reducible assumption) | (with_reducible exact Ext.refl _) | apply Ext.alloc | apply Ext.drewN | apply Ext.drew)))) hBB hm (by omega))
                repeat still_step
                try refine wpStill_nil ?_
                have hS9 := (hS8.far1 hlol (far2 (by omega) (by omega)) (xi * 3 + 1) (.int .i64 (1 + rr))).drew
                have hO9 := (HW8.out { x with run := 1 + rr } (.int .i64 (1 + rr)) (xi * 3 + 1) (legCells_set _ _ _ HLA.out (1 + rr)).1).ext (Ext.refl _).drew
                have HE9 := HE8.out { x with run := 1 + rr } rfl (by simp only []; omega) (by simp only []; omega) (by simp only []; omega) (by simp only []; omega)
                go_wp2_with fail
                go_meet
                exact Eased.of HE9 hO9.ownL.rd hS9
              · have g1 : ((e5 : Int) == 1) = false := by simp; omega
                by_cases q2 : e5 = 2
                · have g2' : ((e5 : Int) == 2) = true := by simp [q2]
                  obtain ⟨rr, hrr⟩ : ∃ rr, Int.tmod (z3 : Int) (x.stay + 1) = rr := ⟨_, rfl⟩
                  have hr0 : 0 ≤ rr := by rw [← hrr]; exact Int.tmod_nonneg _ hz30
                  have hr1 : rr < x.stay + 1 := by rw [← hrr]; exact Int.tmod_lt_of_pos _ (by omega)
                  have hne3 : ¬ x.stay + 1 = 0 := by omega
                  have hw3 : IntKind.i64.wrap (x.stay + 1) = x.stay + 1 := IntWalk.i64_in _ (by omega)
                  have xf2 := xf (xi * 3 + 2)
                  clear q0 q1 q2
                  go_upto_region 17 with fail
                  refine wp_region_still_tail 11 (by kernel_rfl) (by kernel_rfl) ?_
                  simp only [List.take_succ_cons, List.take_zero, List.drop_succ_cons, List.drop_zero]
                  repeat still_step
                  still_call (wByte_n (k := 3) rfl hz3.out (HBc.out _ (hS8.ext.trans (by repeat (first | (with_reducible assumption) | (with_reducible exact Ext.refl _) | apply Ext.alloc | apply Ext.drewN | apply Ext.drew)))) hBB hm (by omega))
                  repeat still_step
                  try refine wpStill_nil ?_
                  have hS9 := (hS8.far1 hlol (far2 (by omega) (by omega)) (xi * 3 + 2) (.int .i64 rr)).drew
                  have hO9 := (HW8.out { x with stay := rr } (.int .i64 rr) (xi * 3 + 2) (legCells_set _ _ _ HLA.out rr).2).ext (Ext.refl _).drew
                  have HE9 := HE8.out { x with stay := rr } rfl (by simp only []; omega) (by simp only []; omega) (by simp only []; omega) (by simp only []; omega)
                  go_wp2_with fail
                  go_meet
                  exact Eased.of HE9 hO9.ownL.rd hS9
                · have g2' : ((e5 : Int) == 2) = false := by simp; omega
                  have hgp := HO.out.bd.gap
                  by_cases q3 : e5 = 3
                  · have g3 : ((e5 : Int) == 3) = true := by simp [q3]
                    obtain ⟨gp, hgpe⟩ : ∃ x, Hid (l.gap = x) := ⟨_, rfl⟩
                    obtain ⟨rr, hrr⟩ : ∃ rr, Int.tmod (z3 : Int) (l.gap + 1) = rr := ⟨_, rfl⟩
                    have hr0 : 0 ≤ rr := by rw [← hrr]; exact Int.tmod_nonneg _ hz30
                    have hr1 : rr < l.gap + 1 := by rw [← hrr]; exact Int.tmod_lt_of_pos _ (by omega)
                    have hne3 : ¬ l.gap + 1 = 0 := by omega
                    have hw3 : IntKind.i64.wrap (l.gap + 1) = l.gap + 1 := IntWalk.i64_in _ (by omega)
                    clear q0 q1 q2 q3
                    go_upto_region 19 with fail
                    refine wp_region_still_tail 7 (by kernel_rfl) (by kernel_rfl) ?_
                    simp only [List.take_succ_cons, List.take_zero, List.drop_succ_cons, List.drop_zero]
                    repeat still_step
                    still_call (wByte_n (k := 3) rfl hz3.out (HBc.out _ (hS8.ext.trans (by repeat (first | (with_reducible assumption) | (with_reducible exact Ext.refl _) | apply Ext.alloc | apply Ext.drewN | apply Ext.drew)))) hBB hm (by omega))
                    repeat still_step
                    try refine wpStill_nil ?_
                    have hS9 := (hS8.set hX5.size (one1 (by omega)) 1 (.int .i64 rr)).drew
                    have hO9 := (HO5.out.ext (((hX58.setCell (p := ⟨w5.heap.size, 1, none⟩) (Nat.le_refl _) (.int .i64 rr))).drew)).gap rr
                    have HE9 := easier_gap HO.out hr0 (by omega)
                    go_wp2_with fail
                    go_meet
                    exact Eased.of HE9 hO9.ownL.rd hS9
                  · have g3 : ((e5 : Int) == 3) = false := by simp; omega
                    obtain ⟨n1, hn1⟩ : ∃ n1 : Nat, n1 = l.trains.length - 1 := ⟨_, rfl⟩
                    have hsub : IntKind.i64.wrap ((l.trains.length : Int) - 1) = (n1 : Int) := by rw [IntWalk.i64_in _ (by omega)]; omega
                    have hn1c : n1 ≤ cv2 := by omega
                    have hS9 := hS8.set hX5.size (one1 (by omega)) 2 (.slice (some ⟨g2, 0, none⟩) n1 cv2)
                    have hO9 := (HO5.out.ext (hX58.setCell (p := ⟨w5.heap.size, 2, none⟩) (Nat.le_refl _) (.slice (some ⟨g2, 0, none⟩) n1 cv2))).cut (m := n1) (c' := cv2) rfl (by omega)
                    have HE9 := easier_cut HO.out n1
                    clear q0 q1 q2 q3 hn1
                    go_wp2_with fail
                    go_meet
                    exact Eased.of HE9 hO9 hS9
          case rest =>
            obtain ⟨q, B0, B2, d0, d2, E, hI, hS⟩ := hcut
            obtain ⟨cq, bq, hq, hle⟩ := easier_best HO.out E hr.out
            have HSQ := E.ok.size_le4
            have HI := Lib.hid (fun (W : World) (e : Ext wc W) => hI.ext e)
            have HQ := Lib.hid hq
            have g6 : decide (cq ≤ at_) = true := decide_eq_true hle
            clear hI hq E HO5 HOA8 HVL hw2
            obtain ⟨k1, k2, k3, k4, k5, k6⟩ := hS.open2
            go_wp2_with fail
            refine (impl_Solve_any (HI.out _ (by repeat (first | (with_reducible assumption) | (with_reducible exact Ext.refl _) | apply Ext.alloc | apply Ext.drewN | apply Ext.drew))) HSQ).mono ?_
            rintro e w9 ⟨⟨AR9, cR9, gr9, vs9, rfl, hP9⟩, hE⟩
            rw [HQ.out] at hP9 ⊢
            simp only [bestV]
            have hT := (hS.trans (Ext.trans (by repeat (first | (with_reducible assumption) | (with_reducible exact Ext.refl _) | apply Ext.alloc | apply Ext.drewN | apply Ext.drew)) hE)).new #[.bool true, .int .i64 cq, .slice AR9 bq.length cR9] 44
            clear hE hP9 k1 k2 k3 k4 k5 k6 hS
            have hS := hT; clear hT
            obtain ⟨k1, k2, k3, k4, k5, k6, k7, k8⟩ := hS.open3
            go_wp2_with fail
            go_ret
            exact ⟨rfl, hXwc.trans hS.ext⟩
    · have hd1 : decide ((1048576 : Int) < (ys.length : Int)) = true := by simp; omega
      go_enter Try.func14, Try.ntmps14
      go_wp2_with fail
      go_ret
      exact ⟨rfl, (by repeat (first | (with_reducible assumption) | (with_reducible exact Ext.refl _) | apply Ext.alloc | apply Ext.drewN | apply Ext.drew))⟩
  · have hd0 : decide ((1048576 : Int) < (xs.length : Int)) = true := by simp; omega
    go_enter Try.func14, Try.ntmps14
    go_wp2_with fail
    go_ret
    exact ⟨rfl, (by repeat (first | (with_reducible assumption) | (with_reducible exact Ext.refl _) | apply Ext.alloc | apply Ext.drewN | apply Ext.drew))⟩
end Go.Proofs.Ythhkbfjolmgloaa
