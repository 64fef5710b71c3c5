/- laws.FnMeets answers true, at every pair of codes. No condition. (The walk; the row stands in a text behind.) -/
import Derived.Test.YthhkbfjolmgloaaMHSolveI
import Derived.Test.YthhkbfjolmgloaaML17a
import Derived.Test.YthhkbfjolmgloaaMHMeets
import Derived.Test.YthhkbfjolmgloaaM7L10a
import Derived.Test.YthhkbfjolmgloaaML9a
import Derived.Test.YthhkbfjolmgloaaM4La
import Derived.Test.YthhkbfjolmgloaaM2L17a
import Derived.Test.YthhkbfjolmgloaaM5L17a
import Derived.Test.YthhkbfjolmgloaaM2L13a
import Derived.Deep.DeepCutAuto
import Derived.Deep.RegionHeld3
namespace Go.Proofs.Ythhkbfjolmgloaa
open Go.RowKit Go.Deep
set_option linter.unusedVariables false
set_option linter.unusedSimpArgs false
theorem solo_best {l : Line} (O : Ok l) (h1 : l.trains.length = 1) : bestR (solveR l) = ((true, leastA l), [soloR (l.tr 0)]) := by
  unfold solveR
  rw [if_pos (right_iff.2 O), solo_solve O h1 (fl := id) (fun x _ => Int.le_refl x)]
  rfl
theorem solo_arrive {l : Line} (O : Ok l) (h1 : l.trains.length = 1) : arriveA l [soloR (l.tr 0)] 0 = aloneA l 0 := by
  have hr := right_iff.2 O
  have hs : shapeOk l [soloR (l.tr 0)] = true := shapeOk_iff.2 (solo_can O h1).fits
  have hb : inB 0 0 ((l.trains.length : Int) - 1) = true := by rw [inB_true, h1]; omega
  unfold arriveA aloneA
  rw [hr, hs, hb]
  exact solo_arr O h1
theorem own_slice2 {w : World} {B : Nat} {e : TypeId} {size : Nat} {v : Value} {n : Nat} {xs : List Value} (h : w.ownsRow B e size v n xs) : ∃ A c, v = .slice A n c := by
  rcases h.2 with ⟨h1, h2⟩ | ⟨g, cap, cur, h1, _⟩
  · exact ⟨none, 0, by rw [h1, h2]⟩
  · exact ⟨_, _, h1⟩
theorem own_cap2 {w : World} {B : Nat} {e : TypeId} {size : Nat} {v : Value} {n : Nat} {xs : List Value} (h : w.ownsRow B e size v n xs) (hn : 0 < n) : ∃ g cap, v = .slice (some ⟨g, 0, none⟩) n cap ∧ n ≤ cap ∧ cap ≤ 9223372036854775807 := by
  rcases h.2 with ⟨h1, h2⟩ | ⟨g, cap, cur, h1, _, _, h4, h5, _⟩
  · omega
  · exact ⟨_, _, h1, h4, Nat.le_trans h5 (by decide)⟩
theorem nums_at2 {D : List Int} {j : Nat} (h : j < D.length) : (nums D)[j]? = some (.int .i64 (D.getD j 0)) := by
  simp [nums, List.getD_eq_getElem?_getD, h]
theorem own_none {w : World} {B : Nat} {v : Value} {n : Nat} (h : w.ownsRow B 92 5 v n (nums [])) : ∃ A c, v = .slice A 0 c := by
  obtain ⟨A, c, hv⟩ := own_slice2 h
  have := h.1
  simp only [nums, List.map_nil, List.length_nil] at this
  obtain rfl : n = 0 := by omega
  exact ⟨A, c, hv⟩
theorem isPlan_mk2 {w : World} {p : List (List Int)} {A : Option Addr} {c : Nat} (h : RdRows w A p) : IsPlan w p (.agg #[.slice A p.length c]) := ⟨A, c, rfl, h⟩
theorem held_ext2 {wk W W' : World} {g1 g2 : Nat} {c1 c2 : Array Value} (h : Ext wk W ∧ (∀ j, W.cell? ⟨g1, j, none⟩ = c1[j]?) ∧ g1 < W.heap.size ∧ (∀ j, W.cell? ⟨g2, j, none⟩ = c2[j]?) ∧ g2 < W.heap.size) (e : Ext W W') : Ext wk W' ∧ (∀ j, W'.cell? ⟨g1, j, none⟩ = c1[j]?) ∧ g1 < W'.heap.size ∧ (∀ j, W'.cell? ⟨g2, j, none⟩ = c2[j]?) ∧ g2 < W'.heap.size :=
  ⟨h.1.trans e, fun j => (e.cells.1 _ _ h.2.2.1).trans (h.2.1 j), e.up _ h.2.2.1, fun j => (e.cells.1 _ _ h.2.2.2.2).trans (h.2.2.2.1 j), e.up _ h.2.2.2.2⟩
set_option maxRecDepth 100000 in
set_option maxHeartbeats 8000000 in
theorem lawMeets_any {w : World} {xs ys : List Int} {A1 A4 : Option Addr} {c1 c4 : Nat} (hA : RdByte w A1 xs) (hA0 : ∀ b o, A1 = some ⟨b, o, none⟩ → b < w.heap.size) (hAB : Bytes xs) (hB : RdByte w A4 ys) (hB0 : ∀ b o, A4 = some ⟨b, o, none⟩ → b < w.heap.size) (hBB : Bytes ys) :
    Calls Try.prog 20 #[.slice A1 xs.length c1, .slice A4 ys.length c4] w fun e w' => e = .returned (.bool true) ∧ Ext w w' := by
  have HB := Lib.hid (fun (W : World) (e : Ext w W) => hB.ext e)
  have HB0 := Lib.hid hB0
  clear hB hB0
  by_cases hn : xs.length ≤ 1048576
  · have hd0 : decide ((1048576 : Int) < (xs.length : Int)) = false := by simp; omega
    by_cases hm : ys.length ≤ 1048576
    · have hd1 : decide ((1048576 : Int) < (ys.length : Int)) = false := by simp; omega
      go_enter Try.func20, Try.ntmps20
      go_wp2_with fail
      refine (lines_any (most := 9) (hA.ext (by repeat (first | (with_reducible assumption) | (with_reducible exact Ext.refl _) | apply Ext.alloc | apply Ext.drewN | apply Ext.drew))) (fun b o e => by have := hA0 b o e; (first | exact this | (simp only [World.heap_drewN]; exact this))) hAB hn (by omega) (by omega)).mono ?_
      rintro e w1 ⟨v, rfl, hO, hE⟩
      obtain ⟨l, hl⟩ : ∃ l, Hid (drawLine xs 9 = l) := ⟨_, rfl⟩
      have HD : Hid (LineD 9 l) := by rw [← hl.out]; exact drawLine_ok hAB (by omega) (by omega)
      have O := HD.out.ok
      rw [hl.out] at hO
      obtain ⟨A0, c0, A2, c2, rfl, h0, h2⟩ := hO.rd
      have HL1 : Hid (∀ W, Ext w1 W → IsLine W l (.agg #[.slice A0 l.tracks.length c0, .int .i64 l.gap, .slice A2 l.trains.length c2])) := fun W e => hO.rd.ext e
      have hX1 : Ext w w1 := Ext.trans (by repeat (first | (with_reducible assumption) | (with_reducible exact Ext.refl _) | apply Ext.alloc | apply Ext.drewN | apply Ext.drew)) hE
      clear hO h0 h2 hE
      have HO := Lib.hid O
      have HSZ := O.size_le4
      have hS := (Lp.of_ext hX1).new #[.slice A0 l.tracks.length c0, .int .i64 l.gap, .slice A2 l.trains.length c2] 33
      obtain ⟨k1, k2, k3, k4⟩ := hS.open1
      go_wp2_with fail
      refine (aPlan_any (HL1.out _ (by repeat (first | (with_reducible assumption) | (with_reducible exact Ext.refl _) | apply Ext.alloc | apply Ext.drewN | apply Ext.drew))) HO.out (HB.out _ (Ext.trans hX1 (by repeat (first | (with_reducible assumption) | (with_reducible exact Ext.refl _) | apply Ext.alloc | apply Ext.drewN | apply Ext.drew)))) (fun b o e => Nat.lt_of_lt_of_le (HB0.out b o e) (Ext.trans hX1 (by repeat (first | (with_reducible assumption) | (with_reducible exact Ext.refl _) | apply Ext.alloc | apply Ext.drewN | apply Ext.drew))).size) hBB hm HSZ).mono ?_
      rintro e w2 ⟨p, AP, cP, gr, vs, rfl, hP, hp5, hrl, hE⟩
      have HLEN : Hid (∀ (i : Nat) (t : List Int), p[i]? = some t → t.length ≤ 1048576) := fun i t ht => by
        have h := hrl i
        unfold rl at h
        rw [List.getD_eq_getElem?_getD, ht] at h
        simp only [Option.getD_some] at h
        omega
      have hpn : p.length ≤ 1048576 := by omega
      have hX2 : Ext w1 w2 := Ext.trans (by repeat (first | (with_reducible assumption) | (with_reducible exact Ext.refl _) | apply Ext.alloc | apply Ext.drewN | apply Ext.drew)) hE
      have hT := (hS.trans (Ext.trans (by repeat (first | (with_reducible assumption) | (with_reducible exact Ext.refl _) | apply Ext.alloc | apply Ext.drewN | apply Ext.drew)) hE)).new #[.slice AP p.length cP] 42
      have HL2 : Hid (∀ W, Ext w2 W → IsLine W l (.agg #[.slice A0 l.tracks.length c0, .int .i64 l.gap, .slice A2 l.trains.length c2])) := fun W e => HL1.out W (hX2.trans e)
      have HP2 : Hid (∀ W, Ext w2 W → RdRows W AP p) := fun W e => (hP.ext e).rd
      clear hE hX2 hP hrl k1 k2 k3 k4 hS HL1 HB HB0 hA hA0
      have hS := hT; clear hT
      obtain ⟨k1, k2, k3, k4, k5, k6⟩ := hS.open2
      obtain ⟨D, hD⟩ : ∃ D, Hid (meetsA l p = D) := ⟨_, rfl⟩
      have hF := meetsA_fives l p
      rw [hD.out] at hF
      have HF := Lib.hid hF
      clear hF
      go_wp2_with fail
      refine (impl_Meets_any (p := p) (HL2.out _ (by repeat (first | (with_reducible assumption) | (with_reducible exact Ext.refl _) | apply Ext.alloc | apply Ext.drewN | apply Ext.drew))) ⟨AP, cP, rfl, HP2.out _ (by repeat (first | (with_reducible assumption) | (with_reducible exact Ext.refl _) | apply Ext.alloc | apply Ext.drewN | apply Ext.drew))⟩ HSZ hpn HLEN.out).mono ?_
      rw [hD.out]
      rintro e w3 ⟨r, N, rfl, hN, hR, hE⟩
      have hX3 : Ext w2 w3 := Ext.trans (by repeat (first | (with_reducible assumption) | (with_reducible exact Ext.refl _) | apply Ext.alloc | apply Ext.drewN | apply Ext.drew)) hE
      have hT := hS.trans (Ext.trans (by repeat (first | (with_reducible assumption) | (with_reducible exact Ext.refl _) | apply Ext.alloc | apply Ext.drewN | apply Ext.drew)) hE)
      have HL3 : Hid (∀ W, Ext w3 W → IsLine W l (.agg #[.slice A0 l.tracks.length c0, .int .i64 l.gap, .slice A2 l.trains.length c2])) := fun W e => HL2.out W (hX3.trans e)
      have HP3 : Hid (∀ W, Ext w3 W → RdRows W AP p) := fun W e => HP2.out W (hX3.trans e)
      obtain ⟨Ar, cr, rfl⟩ := own_slice2 hR
      have hND : D.length = N * 5 := by have := hR.1; rwa [nums_length] at this
      have HR3 := Lib.hid (fun (W : World) (e : Ext w3 W) => ownsRow_ext hR e)
      clear hE hX3 hR k1 k2 k3 k4 k5 k6 hS HL2 HP2
      have hS := hT; clear hT
      obtain ⟨k1, k2, k3, k4, k5, k6⟩ := hS.open2
      go_wp2_with fail
      refine (spec_Meets_any (p := p) (HL3.out _ (by repeat (first | (with_reducible assumption) | (with_reducible exact Ext.refl _) | apply Ext.alloc | apply Ext.drewN | apply Ext.drew))) ⟨AP, cP, rfl, HP3.out _ (by repeat (first | (with_reducible assumption) | (with_reducible exact Ext.refl _) | apply Ext.alloc | apply Ext.drewN | apply Ext.drew))⟩ HSZ hpn HLEN.out).mono ?_
      rw [hD.out]
      rintro e w4 ⟨r4, N4, rfl, hN4, hR, hE⟩
      have hX4 : Ext w3 w4 := Ext.trans (by repeat (first | (with_reducible assumption) | (with_reducible exact Ext.refl _) | apply Ext.alloc | apply Ext.drewN | apply Ext.drew)) hE
      have hT := hS.trans hX4
      obtain ⟨Ar4, cr4, rfl⟩ := own_slice2 hR
      have hND4 : D.length = N4 * 5 := by have := hR.1; rwa [nums_length] at this
      obtain rfl : N4 = N := by omega
      have HL4 : Hid (∀ W, Ext w4 W → IsLine W l (.agg #[.slice A0 l.tracks.length c0, .int .i64 l.gap, .slice A2 l.trains.length c2])) := fun W e => HL3.out W (hX4.trans e)
      have HR4 := Lib.hid (HR3.out w4 hX4)
      have HQ4 := Lib.hid hR
      have HND := Lib.hid hND
      clear hE hX4 hR k1 k2 k3 k4 k5 k6 hS HL3 HP3 HR3 hND hND4 hN4
      have hS := hT; clear hT
      obtain ⟨k1, k2, k3, k4, k5, k6⟩ := hS.open2
      have hXw := hS.ext
      have g1 : ((N4 : Int) != (N4 : Int)) = false := by simp
      go_wp2_with fail
      clear g1 k1 k2 k3 k4 k5 k6
      have hS8 : Lp w4 w4 [(w1.heap.size, #[.slice A0 l.tracks.length c0, .int .i64 l.gap, .slice A2 l.trains.length c2], 33)] := (Lp.nil w4).add (hS.box (w1.heap.size, #[.slice A0 l.tracks.length c0, .int .i64 l.gap, .slice A2 l.trains.length c2], 33) (by simp))
      clear hS
      go_loopw [38] (fun j wr => ∃ (i : Nat), i ≤ N4 ∧ j = .int .i64 i ∧ Lp w4 wr [(w1.heap.size, #[.slice A0 l.tracks.length c0, .int .i64 l.gap, .slice A2 l.trains.length c2], 33)]) (fun j _ => N4 - (intOf j).toNat)
      case atStart => exact ⟨0, Nat.zero_le _, rfl, hS8⟩
      case round =>
        clear hS8
        obtain ⟨i, hi, rfl, hS⟩ := hrel
        obtain ⟨k1, k2, k3, k4⟩ := hS.open1
        by_cases hlt : i < N4
        · obtain ⟨g, cg, hv, hcg, _⟩ := own_cap2 HR4.out (by omega)
          obtain ⟨g', cg', hv', hcg', _⟩ := own_cap2 HQ4.out (by omega)
          simp only [Value.slice.injEq, true_and] at hv hv'
          obtain ⟨rfl, rfl⟩ := hv
          obtain ⟨rfl, rfl⟩ := hv'
          have hDl := HND.out
          have hlg := (HR4.out.lt g rfl).2
          have hlg' := (HQ4.out.lt g' rfl).2
          obtain ⟨hab, hft⟩ := HF.out.ok i (by omega)
          have m0 := ownsRow_cell HR4.out (nums_at2 (D := D) (j := i * 5) (by omega))
          have m1 := ownsRow_cell HR4.out (nums_at2 (D := D) (j := i * 5 + 1) (by omega))
          have m2 := ownsRow_cell HR4.out (nums_at2 (D := D) (j := i * 5 + 2) (by omega))
          have m3 := ownsRow_cell HR4.out (nums_at2 (D := D) (j := i * 5 + 3) (by omega))
          have m4 := ownsRow_cell HR4.out (nums_at2 (D := D) (j := i * 5 + 4) (by omega))
          have n0 := ownsRow_cell HQ4.out (nums_at2 (D := D) (j := i * 5) (by omega))
          have n1 := ownsRow_cell HQ4.out (nums_at2 (D := D) (j := i * 5 + 1) (by omega))
          have n2 := ownsRow_cell HQ4.out (nums_at2 (D := D) (j := i * 5 + 2) (by omega))
          have n3 := ownsRow_cell HQ4.out (nums_at2 (D := D) (j := i * 5 + 3) (by omega))
          have n4 := ownsRow_cell HQ4.out (nums_at2 (D := D) (j := i * 5 + 4) (by omega))
          rw [show 5 * i = i * 5 by omega] at hab hft
          generalize D.getD (i * 5) 0 = a0 at m0 n0 hab
          generalize D.getD (i * 5 + 1) 0 = a1 at m1 n1 hab
          generalize D.getD (i * 5 + 2) 0 = a2 at m2 n2
          generalize D.getD (i * 5 + 3) 0 = a3 at m3 n3 hft
          generalize D.getD (i * 5 + 4) 0 = a4 at m4 n4 hft
          have g5 : decide (a1 ≤ a0) = false := decide_eq_false (by omega)
          have g6 : decide (a4 < a3) = false := decide_eq_false (by omega)
          clear hab hft hDl
          go_wp2_with fail
          go_quiet (fail)
          go_wp2_with fail
          exact ⟨⟨i + 1, by omega, by go_num, (by repeat (first | (with_reducible exact hS) | apply Lp.alloc | apply Lp.drewN | apply Lp.drew))⟩, (by simp [intOf]; omega)⟩
        · have hX5 := hS.ext
          have hnt := HD.out.some_
          have O1 : Ok (cutTr l 1) := cutTr_ok HO.out 1
          have hlen1 : (cutTr l 1).trains.length = 1 := by simp only [cutTr, List.length_take]; omega
          obtain ⟨q, hq⟩ : ∃ q, Hid (cutTr l 1 = q) := ⟨_, rfl⟩
          have hsb := solo_best O1 hlen1
          have hsa := solo_arrive O1 hlen1
          have hsc := solo_can O1 hlen1
          have HSZ2 := O1.size_le4
          have hme := meetsA_one (p := [soloR ((cutTr l 1).tr 0)]) hlen1
          rw [hq.out] at hsb hsa hsc hme HSZ2 hlen1
          obtain ⟨pq, hpq⟩ : ∃ pq, Hid ([soloR (q.tr 0)] = pq) := ⟨_, rfl⟩
          rw [hpq.out] at hsb hsa hsc hme
          obtain ⟨lq, hlq⟩ : ∃ x, Hid (leastA q = x) := ⟨_, rfl⟩
          obtain ⟨aq, haq⟩ : ∃ x, Hid (aloneA q 0 = x) := ⟨_, rfl⟩
          rw [hlq.out] at hsb
          rw [haq.out] at hsa
          have HSB := Lib.hid hsb
          have HSA := Lib.hid hsa
          have HME := Lib.hid hme
          have hpq1 : pq.length ≤ 1048576 := by rw [hsc.fits.rows, hlen1]; omega
          have HLENQ : Hid (∀ (i : Nat) (t : List Int), pq[i]? = some t → t.length ≤ 1048576) := fun i t ht => by
            have := (hsc.fits.len_le hsc.ok ht).2
            omega
          clear hsb hsa hsc hme O1 hlen1 O
          go_wp2_with fail
          refine (wLater_any (d := 0) (HL4.out _ (hX5.trans (by repeat (first | (with_reducible assumption) | (with_reducible exact Ext.refl _) | apply Ext.alloc | apply Ext.drewN | apply Ext.drew)))) HO.out (by omega) (by omega)).mono ?_
          rintro e w5 ⟨v0, v2, vl, rfl, hOA, hE⟩
          rw [laterL_zero] at hOA
          have hX6 : Ext w4 w5 := hX5.trans (Ext.trans (by repeat (first | (with_reducible assumption) | (with_reducible exact Ext.refl _) | apply Ext.alloc | apply Ext.drewN | apply Ext.drew)) hE)
          obtain ⟨gT, cT, rfl, hcT, _⟩ := own_cap2 hOA.2.1.own hnt
          obtain ⟨Av, cv, rfl⟩ := own_slice2 hOA.1
          have HQ : Hid (∀ W, Ext w5 W → IsLine W q (.agg #[.slice Av l.tracks.length cv, .int .i64 l.gap, .slice (some ⟨gT, 0, none⟩) 1 cT])) := fun W e => by rw [← hq.out]; exact (hOA.ext e).cut (c' := cT) rfl hnt
          have h1c : (1 : Nat) ≤ cT := by omega
          have HOX := Lib.hid hOA
          have hS6 := (Lp.nil w5).newAt (g := w5.heap.size) #[.slice Av l.tracks.length cv, .int .i64 l.gap, .slice (some ⟨gT, 0, none⟩) 1 cT] 33 rfl
          clear hS hE k1 k2 k3 k4 hOA HR4 HQ4
          go_upto_region 17 with fail
          obtain ⟨k1, k2, k3, k4⟩ := hS6.open1
          go_wp2_with fail
          refine (impl_Solve_any (HQ.out _ (by repeat (first | (with_reducible assumption) | (with_reducible exact Ext.refl _) | apply Ext.alloc | apply Ext.drewN | apply Ext.drew))) HSZ2).mono ?_
          rintro e w6 ⟨⟨AR, cR, gr6, vs6, rfl, hP6⟩, hE⟩
          rw [HSB.out] at hP6 ⊢
          simp only [] at hP6
          simp only [bestV]
          have hX7 : Ext w5 w6 := Ext.trans (by repeat (first | (with_reducible assumption) | (with_reducible exact Ext.refl _) | apply Ext.alloc | apply Ext.drewN | apply Ext.drew)) hE
          have hT := (hS6.trans (Ext.trans (by repeat (first | (with_reducible assumption) | (with_reducible exact Ext.refl _) | apply Ext.alloc | apply Ext.drewN | apply Ext.drew)) hE)).new #[.bool true, .int .i64 lq, .slice AR pq.length cR] 44
          have HP6 := Lib.hid (fun (W : World) (e : Ext w6 W) => (hP6.ext e).rd)
          have HQ6 : Hid (∀ W, Ext w6 W → IsLine W q (.agg #[.slice Av l.tracks.length cv, .int .i64 l.gap, .slice (some ⟨gT, 0, none⟩) 1 cT])) := fun W e => HQ.out W (hX7.trans e)
          clear hE hX7 hP6 k1 k2 k3 k4 hS6 HQ
          have hS := hT; clear hT
          go_upto_region 18 with fail
          have hXc : Ext w6 (w6.alloc (.cells #[.bool true, .int .i64 lq, .slice AR pq.length cR] 44)) := (by repeat (first | (with_reducible assumption) | (with_reducible exact Ext.refl _) | apply Ext.alloc | apply Ext.drewN | apply Ext.drew))
          generalize w6.alloc (.cells #[.bool true, .int .i64 lq, .slice AR pq.length cR] 44) = wk at hS hXc ⊢
          obtain ⟨k1, k2, b5, m5, b3, m3⟩ := hS.open2
          have hXk := (hXw.trans hX6).trans hS.ext
          have HPk := Lib.hid (fun (W : World) (e : Ext wk W) => HP6.out W (hXc.trans e))
          have HQk : Hid (∀ W, Ext wk W → IsLine W q (.agg #[.slice Av l.tracks.length cv, .int .i64 l.gap, .slice (some ⟨gT, 0, none⟩) 1 cT])) := fun W e => HQ6.out W (hXc.trans e)
          have HK : Hid (∀ W, Ext wk W → Ext wk W ∧ (∀ j, W.cell? ⟨w5.heap.size, j, none⟩ = (#[.slice Av l.tracks.length cv, .int .i64 l.gap, .slice (some ⟨gT, 0, none⟩) 1 cT] : Array Value)[j]?) ∧ w5.heap.size < W.heap.size ∧ (∀ j, W.cell? ⟨w6.heap.size, j, none⟩ = (#[.bool true, .int .i64 lq, .slice AR pq.length cR] : Array Value)[j]?) ∧ w6.heap.size < W.heap.size) := fun W e =>
            ⟨e, fun j => (e.cells.1 _ _ m3).trans (b3 j), e.up _ m3, fun j => (e.cells.1 _ _ m5).trans (b5 j), e.up _ m5⟩
          have g7 : (lq == lq) = true := by simp
          have g8 : (aq == aq) = true := by simp
          clear HP6 HQ6 hXc hS k1 k2 b5 m5 b3 m3 HL4 HF
          go_region_held3 (fun W => Ext wk W ∧ (∀ j, W.cell? ⟨w5.heap.size, j, none⟩ = (#[.slice Av l.tracks.length cv, .int .i64 l.gap, .slice (some ⟨gT, 0, none⟩) 1 cT] : Array Value)[j]?) ∧ w5.heap.size < W.heap.size ∧ (∀ j, W.cell? ⟨w6.heap.size, j, none⟩ = (#[.bool true, .int .i64 lq, .slice AR pq.length cR] : Array Value)[j]?) ∧ w6.heap.size < W.heap.size) (first | assumption | exact HK.out _ (Ext.drew (Ext.refl _)) | exact held_ext2 (by assumption) (by assumption)) (first  | (go_at_call 34; have hX := And.left (by assumption : Ext wk _ ∧ _); with_reducible refine (impl_Least_any (HQk.out _ hX) HSZ2).mono ?_; rw [hlq.out]; rintro e wa ⟨rfl, hEa⟩)  | (go_at_call 41; have hX := And.left (by assumption : Ext wk _ ∧ _); with_reducible refine (impl_Arrives_any (p := pq) (HQk.out _ hX) (isPlan_mk2 (c := cR) (HPk.out _ hX)) HSZ2 hpq1 HLENQ.out 0).mono ?_; rw [HSA.out]; rintro e wa ⟨rfl, hEa⟩)  | (go_at_call 36; have hX := And.left (by assumption : Ext wk _ ∧ _); with_reducible refine (impl_Alone_any (HQk.out _ hX) HSZ2 0).mono ?_; rw [haq.out]; rintro e wa ⟨rfl, hEa⟩)  | (go_at_call 47; have hX := And.left (by assumption : Ext wk _ ∧ _); with_reducible refine (impl_Meets_any (p := pq) (HQk.out _ hX) (isPlan_mk2 (c := cR) (HPk.out _ hX)) HSZ2 hpq1 HLENQ.out).mono ?_; rw [HME.out]; rintro e wa ⟨rz, Nz, rfl, _, hRz, hEa⟩; obtain ⟨Az, cz, rfl⟩ := own_none hRz))
          all_goals
            go_wp2_with fail
            go_ret
            exact ⟨rfl, hXk.trans (And.left (by assumption))⟩
    · have hd1 : decide ((1048576 : Int) < (ys.length : Int)) = true := by simp; omega
      go_enter Try.func20, Try.ntmps20
      go_wp2_with fail
      go_ret
      exact ⟨rfl, (by repeat (first | (with_reducible assumption) | (with_reducible exact Ext.refl _) | apply Ext.alloc | apply Ext.drewN | apply Ext.drew))⟩
  · have hd0 : decide ((1048576 : Int) < (xs.length : Int)) = true := by simp; omega
    go_enter Try.func20, Try.ntmps20
    go_wp2_with fail
    go_ret
    exact ⟨rfl, (by repeat (first | (with_reducible assumption) | (with_reducible exact Ext.refl _) | apply Ext.alloc | apply Ext.drewN | apply Ext.drew))⟩
end Go.Proofs.Ythhkbfjolmgloaa
