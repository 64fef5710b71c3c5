/- laws.FnLater answers true, at every code. No condition. (The walk; the row stands in a text behind.) -/
import Derived.Test.YthhkbfjolmgloaaMHSolveI
import Derived.Test.YthhkbfjolmgloaaML17a
import Derived.Test.YthhkbfjolmgloaaM4La
import Derived.Test.YthhkbfjolmgloaaM2L17a
import Derived.Test.YthhkbfjolmgloaaM3L17a
import Derived.Test.YthhkbfjolmgloaaM2L13a
import Derived.Deep.DeepCutAuto
import Derived.Deep.RegionHeld3
namespace Go.Proofs.Ythhkbfjolmgloaa
open Go.RowKit
set_option linter.unusedVariables false
set_option linter.unusedSimpArgs false
theorem later_best {most : Int} {l : Line} {d : Int} (D : LineD most l) (h0 : 0 ≤ d) (h1 : d ≤ 1000) : bestR (solveR (laterL l d)) = ((bestR (solveR l)).1, laterP (bestR (solveR l)).2 d) := by
  have O := D.ok
  have O' := later_ok D h0 h1
  unfold solveR
  rw [if_pos (right_iff.2 O), if_pos (right_iff.2 O'), solve_later O O' h0 h1 (fl := id) (fl' := id) (fun x _ => Int.le_refl x) (fun x _ => Int.le_refl x)]
  cases solveA l id with
  | none => rfl
  | some cb => rfl
theorem best_num {l : Line} {i m : Nat} {x : List Int} {y : Int} (h : (bestR (solveR l)).2[i]? = some x) (hy : x[m]? = some y) : 0 ≤ y ∧ y ≤ 1000000 := by
  unfold solveR at h
  by_cases hr : right l = true
  · rw [if_pos hr] at h
    have O := right_iff.1 hr
    cases hs : solveA l id with
    | none => rw [hs] at h; simp [bestR] at h
    | some cb =>
      obtain ⟨c', b⟩ := cb
      rw [hs] at h
      simp only [bestR] at h
      obtain ⟨C, hc, _⟩ := solve_some O O.sum10 (fl := id) (fun x _ => Int.le_refl x) hs
      exact C.fits.at_ i x h m y hy
  · rw [if_neg hr] at h; simp [bestR] at h
set_option maxRecDepth 100000 in
set_option maxHeartbeats 8000000 in
theorem lawLater_any {w : World} {xs : List Int} {A1 : Option Addr} {c1 : Nat} (hA : RdByte w A1 xs) (hA0 : ∀ b o, A1 = some ⟨b, o, none⟩ → b < w.heap.size) (hAB : Bytes xs) :
    Calls Try.prog 15 #[.slice A1 xs.length c1] w fun e w' => e = .returned (.bool true) ∧ Ext w w' := by
  have HB := Lib.hid (fun (W : World) (e : Ext w W) => hA.ext e)
  have HB0 := Lib.hid hA0
  clear hA hA0
  by_cases hn : xs.length ≤ 1048576
  · have hd0 : decide ((1048576 : Int) < (xs.length : Int)) = false := by simp; omega
    obtain ⟨l, hl⟩ : ∃ l, Hid (drawLine xs 6 = l) := ⟨_, rfl⟩
    have HD : Hid (LineD 6 l) := by rw [← hl.out]; exact drawLine_ok hAB (by omega) (by omega)
    have HO := Lib.hid HD.out.ok
    have HSZ := HO.out.size_le4
    obtain ⟨d, hd⟩ : ∃ d, Hid (byteW xs 0 = d) := ⟨_, rfl⟩
    have hdb := byteW_bd hAB 0
    rw [hd.out] at hdb
    obtain ⟨hdb1, hdb2⟩ := hdb
    have HSZ2 := (later_ok HD.out hdb1 (show d ≤ 1000 by omega)).size_le4
    obtain ⟨r, hr⟩ : ∃ r, Hid (bestR (solveR l) = r) := ⟨_, rfl⟩
    have hlb := later_best HD.out hdb1 (show d ≤ 1000 by omega)
    have hnum : ∀ (i m : Nat) (x : List Int) (y : Int), (bestR (solveR l)).2[i]? = some x → x[m]? = some y → 0 ≤ y ∧ y ≤ 1000000 := fun i m x y h hy => best_num h hy
    obtain ⟨⟨code, at_⟩, p⟩ := r
    have hsm := solveR_small l
    rw [hr.out] at hsm hlb hnum
    obtain ⟨hp5, hrl⟩ := hsm
    simp only [] at hp5 hrl hlb hnum
    have HLB := Lib.hid hlb
    have HNUM := Lib.hid hnum
    have HLEN : Hid (∀ (i : Nat) (t : List Int), p[i]? = some t → t.length ≤ 10) := fun i t ht => by
      have h := hrl i
      unfold rl at h
      rw [List.getD_eq_getElem?_getD, ht] at h
      simp only [Option.getD_some] at h
      omega
    clear hrl hlb hnum
    go_enter Try.func15, Try.ntmps15
    go_wp2_with fail
    refine (lines_any (most := 6) (HB.out _ (by repeat (first | (with_reducible assumption) | (with_reducible exact Ext.refl _) | apply Ext.alloc | apply Ext.drewN | apply Ext.drew))) (fun b o e => HB0.out b o e) hAB hn (by omega) (by omega)).mono ?_
    rintro e w1 ⟨v, rfl, hO, hE⟩
    rw [hl.out] at hO
    obtain ⟨A0, c0, A2, c2, rfl, h0, h2⟩ := hO.rd
    have HL1 : Hid (∀ W, Ext w1 W → IsLine W l (.agg #[.slice A0 l.tracks.length c0, .int .i64 l.gap, .slice A2 l.trains.length c2])) := fun W e => hO.rd.ext e
    have hX1 : Ext w w1 := Ext.trans (by repeat (first | (with_reducible assumption) | (with_reducible exact Ext.refl _) | apply Ext.alloc | apply Ext.drewN | apply Ext.drew)) hE
    clear hO h0 h2 hE
    have hS := (Lp.of_ext hX1).new #[.slice A0 l.tracks.length c0, .int .i64 l.gap, .slice A2 l.trains.length c2] 33
    obtain ⟨k1, k2, k3, k4⟩ := hS.open1
    go_wp2_with fail
    refine (wByte_any (k := 0) (HB.out _ (Ext.trans hX1 (by repeat (first | (with_reducible assumption) | (with_reducible exact Ext.refl _) | apply Ext.alloc | apply Ext.drewN | apply Ext.drew)))) hAB hn (by omega)).mono ?_
    rintro e w2 ⟨rfl, hE⟩
    rw [hd.out]
    have hX2 : Ext w1 w2 := Ext.trans (by repeat (first | (with_reducible assumption) | (with_reducible exact Ext.refl _) | apply Ext.alloc | apply Ext.drewN | apply Ext.drew)) hE
    have hT := hS.trans (Ext.trans (by repeat (first | (with_reducible assumption) | (with_reducible exact Ext.refl _) | apply Ext.alloc | apply Ext.drewN | apply Ext.drew)) hE)
    have HL2 : Hid (∀ W, Ext w2 W → IsLine W l (.agg #[.slice A0 l.tracks.length c0, .int .i64 l.gap, .slice A2 l.trains.length c2])) := fun W e => HL1.out W (hX2.trans e)
    clear hE hX2 k1 k2 k3 k4 hS HL1 HB HB0
    have hS := hT; clear hT
    obtain ⟨k1, k2, k3, k4⟩ := hS.open1
    go_wp2_with fail
    refine (impl_Solve_any (HL2.out _ (by repeat (first | (with_reducible assumption) | (with_reducible exact Ext.refl _) | apply Ext.alloc | apply Ext.drewN | apply Ext.drew))) HSZ).mono ?_
    rintro e w3 ⟨⟨AR, cR, gr, vs, rfl, hP⟩, hE⟩
    rw [hr.out] at hP ⊢
    simp only [] at hP
    simp only [bestV]
    have hX : Ext w2 w3 := Ext.trans (by repeat (first | (with_reducible assumption) | (with_reducible exact Ext.refl _) | apply Ext.alloc | apply Ext.drewN | apply Ext.drew)) hE
    have hT := (hS.trans (Ext.trans (by repeat (first | (with_reducible assumption) | (with_reducible exact Ext.refl _) | apply Ext.alloc | apply Ext.drewN | apply Ext.drew)) hE)).new #[.bool code, .int .i64 at_, .slice AR p.length cR] 44
    have HP3 := Lib.hid (fun (W : World) (e : Ext w3 W) => hP.rd.ext e)
    have HL3 : Hid (∀ W, Ext w3 W → IsLine W l (.agg #[.slice A0 l.tracks.length c0, .int .i64 l.gap, .slice A2 l.trains.length c2])) := fun W e => HL2.out W (hX.trans e)
    clear hE hX hP k1 k2 k3 k4 hS HL2
    have hS := hT; clear hT
    obtain ⟨k1, k2, k3, k4, k5, k6⟩ := hS.open2
    go_wp2_with fail
    refine (wLater_any (HL3.out _ (by repeat (first | (with_reducible assumption) | (with_reducible exact Ext.refl _) | apply Ext.alloc | apply Ext.drewN | apply Ext.drew))) HO.out hdb1 (by omega)).mono ?_
    rintro e w4 ⟨v0, v2, vl, rfl, hOA, hE⟩
    have HQ4 : Hid (∀ W, Ext w4 W → IsLine W (laterL l d) (.agg #[v0, .int .i64 l.gap, v2])) := fun W e => (hOA.ext e).ownL.rd
    have hX : Ext w3 w4 := Ext.trans (by repeat (first | (with_reducible assumption) | (with_reducible exact Ext.refl _) | apply Ext.alloc | apply Ext.drewN | apply Ext.drew)) hE
    have hT := hS.trans (Ext.trans (by repeat (first | (with_reducible assumption) | (with_reducible exact Ext.refl _) | apply Ext.alloc | apply Ext.drewN | apply Ext.drew)) hE)
    have HP4 := Lib.hid (fun (W : World) (e : Ext w4 W) => HP3.out W (hX.trans e))
    have HL4 : Hid (∀ W, Ext w4 W → IsLine W l (.agg #[.slice A0 l.tracks.length c0, .int .i64 l.gap, .slice A2 l.trains.length c2])) := fun W e => HL3.out W (hX.trans e)
    clear hE hX hOA k1 k2 k3 k4 k5 k6 hS HL3 HP3
    have hS := hT; clear hT
    obtain ⟨k1, k2, k3, k4, k5, k6⟩ := hS.open2
    go_wp2_with fail
    refine (impl_Solve_any (HQ4.out _ (by repeat (first | (with_reducible assumption) | (with_reducible exact Ext.refl _) | apply Ext.alloc | apply Ext.drewN | apply Ext.drew))) HSZ2).mono ?_
    rintro e w5 ⟨⟨AR5, cR5, gr5, vs5, rfl, hP⟩, hE⟩
    rw [HLB.out] at hP ⊢
    simp only [] at hP
    simp only [bestV]
    rw [laterP_length]
    have hX : Ext w4 w5 := Ext.trans (by repeat (first | (with_reducible assumption) | (with_reducible exact Ext.refl _) | apply Ext.alloc | apply Ext.drewN | apply Ext.drew)) hE
    have hT := (hS.trans (Ext.trans (by repeat (first | (with_reducible assumption) | (with_reducible exact Ext.refl _) | apply Ext.alloc | apply Ext.drewN | apply Ext.drew)) hE)).new #[.bool code, .int .i64 at_, .slice AR5 p.length cR5] 44
    have HQ5 := Lib.hid (fun (W : World) (e : Ext w5 W) => hP.rd.ext e)
    have HP5 := Lib.hid (fun (W : World) (e : Ext w5 W) => HP4.out W (hX.trans e))
    have HL5 : Hid (∀ W, Ext w5 W → IsLine W l (.agg #[.slice A0 l.tracks.length c0, .int .i64 l.gap, .slice A2 l.trains.length c2])) := fun W e => HL4.out W (hX.trans e)
    clear hE hX hP k1 k2 k3 k4 k5 k6 hS HL4 HP4 HQ4
    have hS := hT; clear hT
    go_upto_region 7 with fail
    have hXc : Ext w5 (w5.alloc (.cells #[.bool code, .int .i64 at_, .slice AR5 p.length cR5] 44)) := (by repeat (first | (with_reducible assumption) | (with_reducible exact Ext.refl _) | apply Ext.alloc | apply Ext.drewN | apply Ext.drew))
    generalize w5.alloc (.cells #[.bool code, .int .i64 at_, .slice AR5 p.length cR5] 44) = wk at hS hXc ⊢
    obtain ⟨k1, k2, b5, m5, b3, m3, b1, m1⟩ := hS.open3
    have hXw := hS.ext
    have HQk := Lib.hid (fun (W : World) (e : Ext wk W) => HQ5.out W (hXc.trans e))
    have HPk := Lib.hid (fun (W : World) (e : Ext wk W) => HP5.out W (hXc.trans e))
    have HLk : Hid (∀ W, Ext wk W → IsLine W l (.agg #[.slice A0 l.tracks.length c0, .int .i64 l.gap, .slice A2 l.trains.length c2])) := fun W e => HL5.out W (hXc.trans e)
    have HK : Hid (∀ W, Ext wk W → Ext wk W ∧ (∀ j, W.cell? ⟨w1.heap.size, j, none⟩ = (#[.slice A0 l.tracks.length c0, .int .i64 l.gap, .slice A2 l.trains.length c2] : Array Value)[j]?) ∧ w1.heap.size < W.heap.size ∧ (∀ j, W.cell? ⟨w3.heap.size, j, none⟩ = (#[.bool code, .int .i64 at_, .slice AR p.length cR] : Array Value)[j]?) ∧ w3.heap.size < W.heap.size) := fun W e =>
      ⟨e, fun j => (e.cells.1 _ _ m1).trans (b1 j), e.up _ m1, fun j => (e.cells.1 _ _ m3).trans (b3 j), e.up _ m3⟩
    have hSk : Lp wk wk [(w5.heap.size, #[.bool code, .int .i64 at_, .slice AR5 p.length cR5], 44), (w3.heap.size, #[.bool code, .int .i64 at_, .slice AR p.length cR], 44)] := ((Lp.nil wk).add (hS.box (w3.heap.size, #[.bool code, .int .i64 at_, .slice AR p.length cR], 44) (by simp))).add (hS.box (w5.heap.size, #[.bool code, .int .i64 at_, .slice AR5 p.length cR5], 44) (by simp))
    clear HQ5 HP5 HL5 hS hXc k1 k2 b5 m5 b3 m3 b1 m1
    go_cut [26] (fun s wx => s = .bool false ∧ Ext wk wx)
    case first =>
      go_region_held3 (fun W => Ext wk W ∧ (∀ j, W.cell? ⟨w1.heap.size, j, none⟩ = (#[.slice A0 l.tracks.length c0, .int .i64 l.gap, .slice A2 l.trains.length c2] : Array Value)[j]?) ∧ w1.heap.size < W.heap.size ∧ (∀ j, W.cell? ⟨w3.heap.size, j, none⟩ = (#[.bool code, .int .i64 at_, .slice AR p.length cR] : Array Value)[j]?) ∧ w3.heap.size < W.heap.size) (first | assumption | exact HK.out _ (Ext.drew (Ext.refl _)) | exact HK.out _ (Ext.trans (And.left (by assumption)) (by assumption))) (first  | (go_at_call 30; have hX := And.left (by assumption : Ext wk _ ∧ _); refine (wBest_same (a := code) (b := at_) (c := cR) (c' := cR9) (HPk.out _ hX) (HP9.out.ext (by repeat (first | (with_reducible assumption) | (with_reducible exact Ext.refl _) | apply Ext.alloc | apply Ext.drewN | apply Ext.drew))) (by omega) (fun i t ht => by have := HLEN.out i t ht; omega)).mono ?_; rintro e wb ⟨rfl, hEb⟩)  | (go_at_call 28; have hX := And.left (by assumption : Ext wk _ ∧ _); with_reducible refine (spec_Solve_any (HLk.out _ hX) HSZ).mono ?_; rintro e wa ⟨hBI, hEa⟩; unfold BestIs at hBI; obtain ⟨AR9, cR9, gr9, vs9, rfl, hP9⟩ := hBI; rw [hr.out] at hP9 ⊢; simp only [] at hP9; simp only [bestV]; have HP9 := Lib.hid hP9.rd; clear hP9))
      all_goals
        go_wp2_with fail
        go_meet
        exact ⟨rfl, And.left (by assumption)⟩
    case rest =>
      obtain ⟨rfl, hXr⟩ := hcut
      have hS := hSk.trans hXr
      clear hSk HK HLk hXr
      obtain ⟨k1, k2, k3, k4, k5, k6⟩ := hS.open2
      have g1 : (code != code) = false := by simp
      have g2 : (at_ != at_) = false := by simp
      have g3 : ((p.length : Int) != (p.length : Int)) = false := by simp
      go_wp2_with fail
      clear g1 g2 g3 k1 k2 k3 k4 k5 k6
      go_loopw [54] (fun j wr => ∃ (i : Nat), i ≤ p.length ∧ j = .int .i64 i ∧ Lp wk wr [(w5.heap.size, #[.bool code, .int .i64 at_, .slice AR5 p.length cR5], 44), (w3.heap.size, #[.bool code, .int .i64 at_, .slice AR p.length cR], 44)]) (fun j _ => p.length - (intOf j).toNat)
      case atStart => exact ⟨0, Nat.zero_le _, rfl, hS⟩
      case round =>
        clear hS
        obtain ⟨i, hi, rfl, hS⟩ := hrel
        obtain ⟨k1, k2, k3, k4, k5, k6⟩ := hS.open2
        have hE1 := hS.ext
        by_cases hlt : i < p.length
        · obtain ⟨x, hx⟩ := hid_of_lt hlt
          have RA := HPk.out _ hE1
          have RB := HQk.out _ hE1
          obtain ⟨b, o, rfl, hb⟩ := RA.base hlt
          obtain ⟨b', o', rfl, hb'⟩ := RB.base (by rw [laterP_length]; exact hlt)
          obtain ⟨A4, c4, e4, hR⟩ := RA.at_ hx.out
          obtain ⟨A5, c5, f4, hR5⟩ := RB.at_ (laterP_at hx.out)
          rw [List.length_map] at f4
          have HI := Lib.hid (fun W (e : Ext wr W) => hR.ext e); have HJ := Lib.hid (fun W (e : Ext wr W) => hR5.ext e); clear hR hR5 RA RB
          have hN := HLEN.out _ _ hx.out
          have g4 : ((x.length : Int) != (x.length : Int)) = false := by simp
          go_wp2_with fail
          go_quiet (fail)
          go_wp2_with fail
          clear g4
          go_loopw [79] (fun j wi => ∃ (m : Nat), m ≤ x.length ∧ j = .int .i64 m ∧ Lp wk wi [(w5.heap.size, #[.bool code, .int .i64 at_, .slice (some ⟨b', o', none⟩) p.length cR5], 44), (w3.heap.size, #[.bool code, .int .i64 at_, .slice (some ⟨b, o, none⟩) p.length cR], 44)] ∧ Ext wr wi) (fun j _ => x.length - (intOf j).toNat)
          case atStart => exact ⟨0, Nat.zero_le _, rfl, (by repeat (first | (with_reducible exact hS) | apply Lp.alloc | apply Lp.drewN | apply Lp.drew)), (by repeat (first | (with_reducible assumption) | (with_reducible exact Ext.refl _) | apply Ext.alloc | apply Ext.drewN | apply Ext.drew))⟩
          case round =>
            clear hS k1 k2 k3 k4 k5 k6
            rename_i wq _ _ _ _ _ _
            obtain ⟨m, hm, rfl, hS, hEr⟩ := hrel
            obtain ⟨k1, k2, k3, k4, k5, k6⟩ := hS.open2
            by_cases hlm : m < x.length
            · obtain ⟨y, hy⟩ := hid_of_lt hlm
              obtain ⟨g, og, rfl, hg⟩ := (HI.out _ hEr).base hlm
              obtain ⟨g', og', rfl, hg'⟩ := (HJ.out _ hEr).base (by rw [List.length_map]; exact hlm)
              have f0 := (HI.out _ hEr).at_ hy.out
              have g0 := (HJ.out _ hEr).at_ (x := y + d) (by rw [List.getElem?_map, hy.out]; rfl)
              have e5 := (hEr.cells.1 _ _ (lt_of_cell e4)).trans e4
              have f5 := (hEr.cells.1 _ _ (lt_of_cell f4)).trans f4
              have hyb := HNUM.out i m x y hx.out hy.out
              have hwr : IntKind.i64.wrap (y + d) = y + d := IntWalk.i64_in _ (by omega)
              have g5 : (y + d != y + d) = false := by simp
              clear e4 f4
              go_wp2_with fail
              go_quiet (fail)
              go_wp2_with fail
              exact ⟨⟨m + 1, by omega, by go_num, (by repeat (first | (with_reducible exact hS) | apply Lp.alloc | apply Lp.drewN | apply Lp.drew)), (by repeat (first | (with_reducible assumption) | (with_reducible exact Ext.refl _) | apply Ext.alloc | apply Ext.drewN | apply Ext.drew))⟩, (by simp [intOf]; omega)⟩
            · go_wp2_with fail
              exact ⟨⟨i + 1, by omega, by go_num, hS⟩, (by simp [intOf]; omega)⟩
        · go_wp2_with fail
          go_ret
          exact ⟨rfl, hXw.trans hS.ext⟩
  · have hd0 : decide ((1048576 : Int) < (xs.length : Int)) = true := by simp; omega
    go_enter Try.func15, Try.ntmps15
    go_wp2_with fail
    go_ret
    exact ⟨rfl, (by repeat (first | (with_reducible assumption) | (with_reducible exact Ext.refl _) | apply Ext.alloc | apply Ext.drewN | apply Ext.drew))⟩
end Go.Proofs.Ythhkbfjolmgloaa
