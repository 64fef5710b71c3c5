/- laws.FnSooner answers true, at every pair of codes. No condition. (The walk; the row stands in a text behind.) -/
import Derived.Test.YthhkbfjolmgloaaMHPlaceI
import Derived.Test.YthhkbfjolmgloaaML15a
import Derived.Test.YthhkbfjolmgloaaMHImplCheck
import Derived.Test.YthhkbfjolmgloaaMHSpecCheck
import Derived.Test.YthhkbfjolmgloaaMHCost
import Derived.Test.YthhkbfjolmgloaaMHOrderI
import Derived.Test.YthhkbfjolmgloaaML9a
import Derived.Test.YthhkbfjolmgloaaM4La
import Derived.Test.YthhkbfjolmgloaaM2L17a
import Derived.Test.YthhkbfjolmgloaaM5L17a
import Derived.Test.YthhkbfjolmgloaaM2L13a
import Derived.Deep.DeepCutAuto
import Derived.Deep.RegionHeld3
namespace Go.Proofs.Ythhkbfjolmgloaa
open Go.RowKit
set_option linter.unusedVariables false
set_option linter.unusedSimpArgs false
theorem isPlan_mk {w : World} {p : List (List Int)} {A : Option Addr} {c : Nat} (h : RdRows w A p) : IsPlan w p (.agg #[.slice A p.length c]) := ⟨A, c, rfl, h⟩
set_option maxRecDepth 100000 in
set_option maxHeartbeats 8000000 in
theorem lawSooner_any {w : World} {xs ys : List Int} {A1 A4 : Option Addr} {c1 c4 : Nat} (hA : RdByte w A1 xs) (hA0 : ∀ b o, A1 = some ⟨b, o, none⟩ → b < w.heap.size) (hAB : Bytes xs) (hB : RdByte w A4 ys) (hB0 : ∀ b o, A4 = some ⟨b, o, none⟩ → b < w.heap.size) (hBB : Bytes ys) :
    Calls Try.prog 19 #[.slice A1 xs.length c1, .slice A4 ys.length c4] w fun e w' => e = .returned (.bool true) ∧ Ext w w' := by
  have HB := Lib.hid (fun (W : World) (e : Ext w W) => hB.ext e)
  have HB0 := Lib.hid hB0
  clear hB hB0
  by_cases hn : xs.length ≤ 1048576
  · have hd0 : decide ((1048576 : Int) < (xs.length : Int)) = false := by simp; omega
    by_cases hm : ys.length ≤ 1048576
    · have hd1 : decide ((1048576 : Int) < (ys.length : Int)) = false := by simp; omega
      go_enter Try.func19, Try.ntmps19
      go_wp2_with fail
      refine (lines_any (most := 9) (hA.ext (by repeat (first | (with_reducible assumption) | (with_reducible exact Ext.refl _) | apply Ext.alloc | apply Ext.drewN | apply Ext.drew))) (fun b o e => by have := hA0 b o e; (first | exact this | (simp only [World.heap_drewN]; exact this))) hAB hn (by omega) (by omega)).mono ?_
      rintro e w1 ⟨v, rfl, hO, hE⟩
      obtain ⟨l, hl⟩ : ∃ l, Hid (drawLine xs 9 = l) := ⟨_, rfl⟩
      have O : Ok l := by rw [← hl.out]; exact (drawLine_ok hAB (by omega) (by omega)).ok
      rw [hl.out] at hO
      obtain ⟨A0, c0, A2, c2, rfl, h0, h2⟩ := hO.rd
      have HL1 : Hid (∀ W, Ext w1 W → IsLine W l (.agg #[.slice A0 l.tracks.length c0, .int .i64 l.gap, .slice A2 l.trains.length c2])) := fun W e => hO.rd.ext e
      have hX1 : Ext w w1 := Ext.trans (by repeat (first | (with_reducible assumption) | (with_reducible exact Ext.refl _) | apply Ext.alloc | apply Ext.drewN | apply Ext.drew)) hE
      clear hO h0 h2 hE
      have HO := Lib.hid O
      have HSZ := O.size_le4
      have hS := (Lp.of_ext hX1).new #[.slice A0 l.tracks.length c0, .int .i64 l.gap, .slice A2 l.trains.length c2] 33
      obtain ⟨k1, k2, k3, k4⟩ := hS.open1
      go_wp2_with fail
      refine (aPlan_any (HL1.out _ (by repeat (first | (with_reducible assumption) | (with_reducible exact Ext.refl _) | apply Ext.alloc | apply Ext.drewN | apply Ext.drew))) HO.out (HB.out _ (Ext.trans hX1 (by repeat (first | (with_reducible assumption) | (with_reducible exact Ext.refl _) | apply Ext.alloc | apply Ext.drewN | apply Ext.drew)))) (fun b o e => Nat.lt_of_lt_of_le (HB0.out b o e) (Ext.trans hX1 (by repeat (first | (with_reducible assumption) | (with_reducible exact Ext.refl _) | apply Ext.alloc | apply Ext.drewN | apply Ext.drew))).size) hBB hm HSZ).mono ?_
      rintro e w2 ⟨p, AP, cP, gr, vs, rfl, hP, hp5, hrl, hE⟩
      have HLEN : Hid (∀ (i : Nat) (t : List Int), p[i]? = some t → t.length ≤ 1048576) := fun i t ht => by
        have h := hrl i
        unfold rl at h
        rw [List.getD_eq_getElem?_getD, ht] at h
        simp only [Option.getD_some] at h
        omega
      have hpn : p.length ≤ 1048576 := by omega
      have hX2 : Ext w1 w2 := Ext.trans (by repeat (first | (with_reducible assumption) | (with_reducible exact Ext.refl _) | apply Ext.alloc | apply Ext.drewN | apply Ext.drew)) hE
      have hT := (hS.trans (Ext.trans (by repeat (first | (with_reducible assumption) | (with_reducible exact Ext.refl _) | apply Ext.alloc | apply Ext.drewN | apply Ext.drew)) hE)).new #[.slice AP p.length cP] 42
      have HL2 : Hid (∀ W, Ext w2 W → IsLine W l (.agg #[.slice A0 l.tracks.length c0, .int .i64 l.gap, .slice A2 l.trains.length c2])) := fun W e => HL1.out W (hX2.trans e)
      have HP2 : Hid (∀ W, Ext w2 W → RdRows W AP p) := fun W e => (hP.ext e).rd
      clear hE hX2 hP hrl k1 k2 k3 k4 hS HL1 HB HB0 hA hA0
      have hS := hT; clear hT
      obtain ⟨k1, k2, k3, k4, k5, k6⟩ := hS.open2
      obtain ⟨cc, hcc⟩ : ∃ cc, Hid (checkA l p = cc) := ⟨_, rfl⟩
      obtain ⟨q0, q1, q2, q3⟩ := cc
      go_wp2_with fail
      refine (impl_Check_any (p := p) (HL2.out _ (by repeat (first | (with_reducible assumption) | (with_reducible exact Ext.refl _) | apply Ext.alloc | apply Ext.drewN | apply Ext.drew))) ⟨AP, cP, rfl, HP2.out _ (by repeat (first | (with_reducible assumption) | (with_reducible exact Ext.refl _) | apply Ext.alloc | apply Ext.drewN | apply Ext.drew))⟩ HSZ hpn HLEN.out).mono ?_
      rw [hcc.out]
      rintro e w3 ⟨rfl, hE⟩
      simp only [clV]
      have hX3 : Ext w2 w3 := Ext.trans (by repeat (first | (with_reducible assumption) | (with_reducible exact Ext.refl _) | apply Ext.alloc | apply Ext.drewN | apply Ext.drew)) hE
      have hT := (hS.trans (Ext.trans (by repeat (first | (with_reducible assumption) | (with_reducible exact Ext.refl _) | apply Ext.alloc | apply Ext.drewN | apply Ext.drew)) hE)).new #[.int .i64 q0, .int .i64 q1, .int .i64 q2, .int .i64 q3] 48
      have HL3 : Hid (∀ W, Ext w3 W → IsLine W l (.agg #[.slice A0 l.tracks.length c0, .int .i64 l.gap, .slice A2 l.trains.length c2])) := fun W e => HL2.out W (hX3.trans e)
      have HP3 : Hid (∀ W, Ext w3 W → RdRows W AP p) := fun W e => HP2.out W (hX3.trans e)
      clear hE hX3 k1 k2 k3 k4 k5 k6 hS HL2 HP2
      have hS := hT; clear hT
      go_upto_region 6 with fail
      have hXc : Ext w3 (w3.alloc (.cells #[.int .i64 q0, .int .i64 q1, .int .i64 q2, .int .i64 q3] 48)) := (by repeat (first | (with_reducible assumption) | (with_reducible exact Ext.refl _) | apply Ext.alloc | apply Ext.drewN | apply Ext.drew))
      generalize w3.alloc (.cells #[.int .i64 q0, .int .i64 q1, .int .i64 q2, .int .i64 q3] 48) = wk at hS hXc ⊢
      obtain ⟨k1, k2, b5, m5, b3, m3, b1, m1⟩ := hS.open3
      have hXw := hS.ext
      have HPk := Lib.hid (fun (W : World) (e : Ext wk W) => HP3.out W (hXc.trans e))
      have HLk : Hid (∀ W, Ext wk W → IsLine W l (.agg #[.slice A0 l.tracks.length c0, .int .i64 l.gap, .slice A2 l.trains.length c2])) := fun W e => HL3.out W (hXc.trans e)
      have HK : Hid (∀ W, Ext wk W → Ext wk W ∧ (∀ j, W.cell? ⟨w1.heap.size, j, none⟩ = (#[.slice A0 l.tracks.length c0, .int .i64 l.gap, .slice A2 l.trains.length c2] : Array Value)[j]?) ∧ w1.heap.size < W.heap.size ∧ (∀ j, W.cell? ⟨w2.heap.size, j, none⟩ = (#[.slice AP p.length cP] : Array Value)[j]?) ∧ w2.heap.size < W.heap.size ∧ (∀ j, W.cell? ⟨w3.heap.size, j, none⟩ = (#[.int .i64 q0, .int .i64 q1, .int .i64 q2, .int .i64 q3] : Array Value)[j]?) ∧ w3.heap.size < W.heap.size) := fun W e =>
        ⟨e, fun j => (e.cells.1 _ _ m1).trans (b1 j), e.up _ m1, fun j => (e.cells.1 _ _ m3).trans (b3 j), e.up _ m3, fun j => (e.cells.1 _ _ m5).trans (b5 j), e.up _ m5⟩
      have hSk : Lp wk wk [(w3.heap.size, #[.int .i64 q0, .int .i64 q1, .int .i64 q2, .int .i64 q3], 48), (w2.heap.size, #[.slice AP p.length cP], 42), (w1.heap.size, #[.slice A0 l.tracks.length c0, .int .i64 l.gap, .slice A2 l.trains.length c2], 33)] := (((Lp.nil wk).add (hS.box (w1.heap.size, #[.slice A0 l.tracks.length c0, .int .i64 l.gap, .slice A2 l.trains.length c2], 33) (by simp))).add (hS.box (w2.heap.size, #[.slice AP p.length cP], 42) (by simp))).add (hS.box (w3.heap.size, #[.int .i64 q0, .int .i64 q1, .int .i64 q2, .int .i64 q3], 48) (by simp))
      clear HP3 HL3 hS hXc k1 k2 b5 m5 b3 m3 b1 m1
      go_cut [32] (fun s wx => s = .bool false ∧ Ext wk wx)
      case first =>
        go_region_held3 (fun W => Ext wk W ∧ (∀ j, W.cell? ⟨w1.heap.size, j, none⟩ = (#[.slice A0 l.tracks.length c0, .int .i64 l.gap, .slice A2 l.trains.length c2] : Array Value)[j]?) ∧ w1.heap.size < W.heap.size ∧ (∀ j, W.cell? ⟨w2.heap.size, j, none⟩ = (#[.slice AP p.length cP] : Array Value)[j]?) ∧ w2.heap.size < W.heap.size ∧ (∀ j, W.cell? ⟨w3.heap.size, j, none⟩ = (#[.int .i64 q0, .int .i64 q1, .int .i64 q2, .int .i64 q3] : Array Value)[j]?) ∧ w3.heap.size < W.heap.size) (first | assumption | exact HK.out _ (Ext.drew (Ext.refl _)) | exact HK.out _ (Ext.trans (And.left (by assumption)) (by assumption))) (first  | (go_at_call 43; have hX := And.left (by assumption : Ext wk _ ∧ _); with_reducible refine (spec_Check_any (p := p) (HLk.out _ hX) (isPlan_mk (c := cP) (HPk.out _ hX)) HSZ hpn HLEN.out).mono ?_; rw [hcc.out]; rintro e wa ⟨rfl, hEa⟩; simp only [clV]))
        all_goals
          go_wp2_with fail
          go_meet
          exact ⟨by simp, And.left (by assumption)⟩
      case rest =>
        obtain ⟨rfl, hXr⟩ := hcut
        have hS := hSk.trans hXr
        clear hSk HK hXr
        obtain ⟨k1, k2, k3, k4, k5, k6, k7, k8⟩ := hS.open3
        have hX4 := hS.ext
        go_wp2_with fail
        refine (impl_Order_any (p := p) (HLk.out _ (hX4.trans (by repeat (first | (with_reducible assumption) | (with_reducible exact Ext.refl _) | apply Ext.alloc | apply Ext.drewN | apply Ext.drew)))) ⟨AP, cP, rfl, HPk.out _ (hX4.trans (by repeat (first | (with_reducible assumption) | (with_reducible exact Ext.refl _) | apply Ext.alloc | apply Ext.drewN | apply Ext.drew)))⟩ HSZ hpn HLEN.out).mono ?_
        rintro e w5 ⟨r, N, rfl, hN, hR, hE⟩
        obtain ⟨hNl, Ao, co, rfl, hRo⟩ := rd_of_ownsP hR
        have HRo := Lib.hid (fun (W : World) (e : Ext w5 W) => RdInt.ext hRo e)
        have hT := hS.trans (Ext.trans (by repeat (first | (with_reducible assumption) | (with_reducible exact Ext.refl _) | apply Ext.alloc | apply Ext.drewN | apply Ext.drew)) hE)
        clear hE hRo hR k1 k2 k3 k4 k5 k6 k7 k8 hS hX4
        have hS := hT; clear hT
        obtain ⟨k1, k2, k3, k4, k5, k6, k7, k8⟩ := hS.open3
        by_cases hz : q0 = 0
        · subst hz
          have C : Can l p := checkA_zero (by rw [hcc.out])
          have hcan : canB l p = true := by unfold canB; rw [C.check]; rfl
          obtain ⟨q, hpl, Cq, hle, hcost⟩ := sooner C
          have hcanq : canB l q = true := by unfold canB; rw [Cq.check]; rfl
          obtain ⟨od, hod⟩ : ∃ od, Hid (orderA l p = od) := ⟨_, rfl⟩
          rw [hod.out] at hpl HRo hNl ⊢
          have HPL := Lib.hid hpl
          have HCP := Lib.hid C
          have HCQ := Lib.hid Cq
          have HLE := Lib.hid hle
          have hon : od.length ≤ 1048576 := by omega
          have hqn : q.length ≤ 1048576 := by rw [Cq.fits.rows]; have := HO.out.ntr; omega
          have hcostp : Hid (costA l p = costF l p) := by unfold Hid costA; rw [if_pos hcan]
          have hcostq : Hid (costA l q = costF l q) := by unfold Hid costA; rw [if_pos hcanq]
          have HCL := Lib.hid hcost
          have HLENQ : Hid (∀ (i : Nat) (t : List Int), q[i]? = some t → t.length ≤ 1048576) := fun i t ht => by
            have := (HCQ.out.fits.len_le HO.out ht).2
            omega
          clear C Cq hle hcost hcan hcanq hpl hNl
          go_wp2_with fail
          refine (impl_Place_any co (HLk.out _ (hS.ext.trans (by repeat (first | (with_reducible assumption) | (with_reducible exact Ext.refl _) | apply Ext.alloc | apply Ext.drewN | apply Ext.drew)))) HSZ (HRo.out _ (by repeat (first | (with_reducible assumption) | (with_reducible exact Ext.refl _) | apply Ext.alloc | apply Ext.drewN | apply Ext.drew))) hon).mono ?_
          rintro e w6 ⟨hBI, hE⟩
          unfold PlacedIs at hBI
          obtain ⟨AR, cR, gr2, vs2, rfl, hQ⟩ := hBI
          rw [HPL.out] at hQ ⊢
          simp only [] at hQ
          simp only [placedV]
          have hX6 : Ext w5 w6 := Ext.trans (by repeat (first | (with_reducible assumption) | (with_reducible exact Ext.refl _) | apply Ext.alloc | apply Ext.drewN | apply Ext.drew)) hE
          have HQ6 := Lib.hid (fun (W : World) (e : Ext w6 W) => (hQ.ext e).rd)
          have hT := (hS.trans hX6).new #[.int .i64 0, .int .i64 0, .slice AR q.length cR] 73
          clear hE hQ k1 k2 k3 k4 k5 k6 k7 k8 hX6 HRo hS
          have hS := hT; clear hT
          go_upto_region 12 with fail
          have hX7 : Ext w6 (w6.alloc (.cells #[.int .i64 0, .int .i64 0, .slice AR q.length cR] 73)) := (by repeat (first | (with_reducible assumption) | (with_reducible exact Ext.refl _) | apply Ext.alloc | apply Ext.drewN | apply Ext.drew))
          generalize w6.alloc (.cells #[.int .i64 0, .int .i64 0, .slice AR q.length cR] 73) = w7 at hS hX7 ⊢
          have HP7 := HPk.out w7 hS.ext
          have HQ7 := HQ6.out w7 hX7
          obtain ⟨b3, o3, br, or', cr, SP⟩ := seeP HO.out HCP.out.fits HP7
          obtain ⟨b4, o4, br4, or4, cr4, SQ⟩ := seeP HO.out HCQ.out.fits HQ7
          have HSP := Lib.hid SP
          have HSQ := Lib.hid SQ
          have HP8 := Lib.hid (fun (W : World) (e : Ext w7 W) => RdRows.ext HP7 e)
          have HQ8 := Lib.hid (fun (W : World) (e : Ext w7 W) => RdRows.ext HQ7 e)
          have HL8 : Hid (∀ W, Ext w7 W → IsLine W l (.agg #[.slice A0 l.tracks.length c0, .int .i64 l.gap, .slice A2 l.trains.length c2])) := fun W e => HLk.out W (hS.ext.trans e)
          have hS8 : Lp w7 w7 [(w6.heap.size, #[.int .i64 0, .int .i64 0, .slice AR q.length cR], 73), (w2.heap.size, #[.slice AP p.length cP], 42), (w1.heap.size, #[.slice A0 l.tracks.length c0, .int .i64 l.gap, .slice A2 l.trains.length c2], 33)] := (((Lp.nil w7).add (hS.box (w1.heap.size, #[.slice A0 l.tracks.length c0, .int .i64 l.gap, .slice A2 l.trains.length c2], 33) (by simp))).add (hS.box (w2.heap.size, #[.slice AP p.length cP], 42) (by simp))).add (hS.box (w6.heap.size, #[.int .i64 0, .int .i64 0, .slice AR q.length cR], 73) (by simp))
          have hXw7 := hXw.trans hS.ext
          have g1 : ((q.length : Int) != (p.length : Int)) = false := by rw [HCQ.out.fits.rows, HCP.out.fits.rows]; simp
          clear SP SQ HP7 HQ7 HQ6 HPk HLk hX7 hS HPL
          obtain ⟨k1, k2, k3, k4, k5, k6, k7, k8⟩ := hS8.open3
          go_wp2_with fail
          clear k1 k2 k3 k4 k5 k6 k7 k8 g1
          go_loopw [67] (fun j wr => ∃ (i : Nat), i ≤ p.length ∧ j = .int .i64 i ∧ Lp w7 wr [(w6.heap.size, #[.int .i64 0, .int .i64 0, .slice AR q.length cR], 73), (w2.heap.size, #[.slice AP p.length cP], 42), (w1.heap.size, #[.slice A0 l.tracks.length c0, .int .i64 l.gap, .slice A2 l.trains.length c2], 33)]) (fun j _ => p.length - (intOf j).toNat)
          case atStart => exact ⟨0, Nat.zero_le _, rfl, hS8⟩
          case round =>
            clear hS8
            obtain ⟨i, hi, rfl, hS⟩ := hrel
            obtain ⟨k1, k2, k3, k4, k5, k6, k7, k8⟩ := hS.open3
            by_cases hlt : i < p.length
            · have hil : i < l.trains.length := by rw [← HCP.out.fits.rows]; exact hlt
              have hiq : i < q.length := by rw [HCQ.out.fits.rows]; exact hil
              obtain ⟨rfl, hb3⟩ := HSP.out.base (by omega)
              obtain ⟨rfl, hb4⟩ := HSQ.out.base (by omega)
              obtain ⟨r0, hbr⟩ := HSP.out.row i hil
              obtain ⟨r4, hbr4⟩ := HSQ.out.row i hil
              have g4 : (((l.tr i).legs.length : Int) != ((l.tr i).legs.length : Int)) = false := by simp
              have nl10 := (HO.out.bd.nl1 i hil).2
              go_wp2_with fail
              go_quiet (fail)
              go_wp2_with fail
              clear g4
              go_loopw [90] (fun j wi => ∃ (m : Nat), m ≤ (l.tr i).legs.length ∧ j = .int .i64 m ∧ Lp w7 wi [(w6.heap.size, #[.int .i64 0, .int .i64 0, .slice (some ⟨b4, o4, none⟩) q.length cR], 73), (w2.heap.size, #[.slice (some ⟨b3, o3, none⟩) p.length cP], 42), (w1.heap.size, #[.slice A0 l.tracks.length c0, .int .i64 l.gap, .slice A2 l.trains.length c2], 33)]) (fun j _ => (l.tr i).legs.length - (intOf j).toNat)
              case atStart => exact ⟨0, Nat.zero_le _, rfl, (by repeat (first | (with_reducible exact hS) | apply Lp.alloc | apply Lp.drewN | apply Lp.drew))⟩
              case round =>
                clear hS k1 k2 k3 k4 k5 k6 k7 k8
                obtain ⟨m, hm2, rfl, hS⟩ := hrel
                obtain ⟨k1, k2, k3, k4, k5, k6, k7, k8⟩ := hS.open3
                by_cases hlm : m < (l.tr i).legs.length
                · have s0 := HSP.out.st i m hil hlm
                  have s4 := HSQ.out.st i m hil hlm
                  have hle := HLE.out i m hil hlm
                  obtain ⟨sp, hsp⟩ : ∃ x, Hid (st p i m = x) := ⟨_, rfl⟩
                  obtain ⟨sq, hsq⟩ : ∃ x, Hid (st q i m = x) := ⟨_, rfl⟩
                  rw [hsp.out] at s0 hle
                  rw [hsq.out] at s4 hle
                  have g5 : decide (sp < sq) = false := decide_eq_false (by omega)
                  go_wp2_with fail
                  go_quiet (fail)
                  go_wp2_with fail
                  exact ⟨⟨m + 1, by omega, by go_num, (by repeat (first | (with_reducible exact hS) | apply Lp.alloc | apply Lp.drewN | apply Lp.drew))⟩, (by simp [intOf]; omega)⟩
                · go_wp2_with fail
                  exact ⟨⟨i + 1, by omega, by go_num, hS⟩, (by simp [intOf]; omega)⟩
            · have hX8 := hS.ext
              have HK2 : Hid (∀ W, Ext wr W → Ext w7 W ∧ (∀ j, W.cell? ⟨w1.heap.size, j, none⟩ = (#[.slice A0 l.tracks.length c0, .int .i64 l.gap, .slice A2 l.trains.length c2] : Array Value)[j]?) ∧ w1.heap.size < W.heap.size ∧ (∀ j, W.cell? ⟨w2.heap.size, j, none⟩ = (#[.slice AP p.length cP] : Array Value)[j]?) ∧ w2.heap.size < W.heap.size ∧ (∀ j, W.cell? ⟨w6.heap.size, j, none⟩ = (#[.int .i64 0, .int .i64 0, .slice AR q.length cR] : Array Value)[j]?) ∧ w6.heap.size < W.heap.size) := fun W e =>
                ⟨hX8.trans e, fun j => (e.cells.1 _ _ k8).trans (k7 j), e.up _ k8, fun j => (e.cells.1 _ _ k6).trans (k5 j), e.up _ k6, fun j => (e.cells.1 _ _ k4).trans (k3 j), e.up _ k4⟩
              have hXw8 := hXw7.trans hX8
              have HK3 : ∀ W W' : World, (Ext w7 W ∧ (∀ j, W.cell? ⟨w1.heap.size, j, none⟩ = (#[.slice A0 l.tracks.length c0, .int .i64 l.gap, .slice A2 l.trains.length c2] : Array Value)[j]?) ∧ w1.heap.size < W.heap.size ∧ (∀ j, W.cell? ⟨w2.heap.size, j, none⟩ = (#[.slice AP p.length cP] : Array Value)[j]?) ∧ w2.heap.size < W.heap.size ∧ (∀ j, W.cell? ⟨w6.heap.size, j, none⟩ = (#[.int .i64 0, .int .i64 0, .slice AR q.length cR] : Array Value)[j]?) ∧ w6.heap.size < W.heap.size) → Ext W W' → Ext w7 W' ∧ (∀ j, W'.cell? ⟨w1.heap.size, j, none⟩ = (#[.slice A0 l.tracks.length c0, .int .i64 l.gap, .slice A2 l.trains.length c2] : Array Value)[j]?) ∧ w1.heap.size < W'.heap.size ∧ (∀ j, W'.cell? ⟨w2.heap.size, j, none⟩ = (#[.slice AP p.length cP] : Array Value)[j]?) ∧ w2.heap.size < W'.heap.size ∧ (∀ j, W'.cell? ⟨w6.heap.size, j, none⟩ = (#[.int .i64 0, .int .i64 0, .slice AR q.length cR] : Array Value)[j]?) ∧ w6.heap.size < W'.heap.size := fun W W' ⟨h1, h2, h3, h4, h5, h6, h7⟩ e =>
                ⟨h1.trans e, fun j => (e.cells.1 _ _ h3).trans (h2 j), e.up _ h3, fun j => (e.cells.1 _ _ h5).trans (h4 j), e.up _ h5, fun j => (e.cells.1 _ _ h7).trans (h6 j), e.up _ h7⟩
              obtain ⟨cp, hcp⟩ : ∃ x, Hid (costF l p = x) := ⟨_, rfl⟩
              obtain ⟨cq, hcq⟩ : ∃ x, Hid (costF l q = x) := ⟨_, rfl⟩
              have HCPv : Hid (costA l p = cp) := by unfold Hid; rw [hcostp.out, hcp.out]
              have HCQv : Hid (costA l q = cq) := by unfold Hid; rw [hcostq.out, hcq.out]
              have hcl := HCL.out
              rw [hcp.out, hcq.out] at hcl
              have g6 : decide (cq ≤ cp) = true := decide_eq_true hcl
              clear hS k1 k2 k3 k4 k5 k6 k7 k8 hcl
              go_upto_region 26 with fail
              go_region_held3 (fun W => Ext w7 W ∧ (∀ j, W.cell? ⟨w1.heap.size, j, none⟩ = (#[.slice A0 l.tracks.length c0, .int .i64 l.gap, .slice A2 l.trains.length c2] : Array Value)[j]?) ∧ w1.heap.size < W.heap.size ∧ (∀ j, W.cell? ⟨w2.heap.size, j, none⟩ = (#[.slice AP p.length cP] : Array Value)[j]?) ∧ w2.heap.size < W.heap.size ∧ (∀ j, W.cell? ⟨w6.heap.size, j, none⟩ = (#[.int .i64 0, .int .i64 0, .slice AR q.length cR] : Array Value)[j]?) ∧ w6.heap.size < W.heap.size) (first | assumption | exact HK2.out _ (Ext.drew (Ext.refl _)) | exact HK3 _ _ (by assumption) (by assumption)) (first  | (go_at_call 33; have hX := And.left (by assumption : Ext w7 _ ∧ _); with_reducible refine (impl_Cost_any (p := p) (HL8.out _ hX) (isPlan_mk (c := cP) (HP8.out _ hX)) HSZ hpn HLEN.out).mono ?_; rw [HCPv.out]; rintro e wa ⟨rfl, hEa⟩)  | (go_at_call 33; have hX := And.left (by assumption : Ext w7 _ ∧ _); with_reducible refine (impl_Cost_any (p := q) (HL8.out _ hX) (isPlan_mk (c := cR) (HQ8.out _ hX)) HSZ hqn HLENQ.out).mono ?_; rw [HCQv.out]; rintro e wa ⟨rfl, hEa⟩))
              all_goals
                go_wp2_with fail
                go_ret
                exact ⟨rfl, hXw7.trans (And.left (by assumption))⟩
        · have hcan : canB l p = false := by unfold canB; rw [hcc.out]; simpa using hz
          have ho0 : orderA l p = [] := by unfold orderA; rw [hcan]; rfl
          have hco : Hid (costA l p = -1) := by unfold Hid costA; rw [hcan]; rfl
          have hne : (q0 != 0) = true := by simpa using hz
          rw [ho0]
          have HX5 := hS.ext
          have g7 : (((([] : List Int).length : Nat) : Int) == 0) = true := by rfl
          clear hz
          go_wp2_with fail
          refine (impl_Cost_any (p := p) (HLk.out _ (hS.ext.trans (by repeat (first | (with_reducible assumption) | (with_reducible exact Ext.refl _) | apply Ext.alloc | apply Ext.drewN | apply Ext.drew)))) (isPlan_mk (c := cP) (HPk.out _ (hS.ext.trans (by repeat (first | (with_reducible assumption) | (with_reducible exact Ext.refl _) | apply Ext.alloc | apply Ext.drewN | apply Ext.drew))))) HSZ hpn HLEN.out).mono ?_
          rw [hco.out]
          rintro e w6 ⟨rfl, hE⟩
          go_wp2_with fail
          go_ret
          exact ⟨rfl, hXw.trans (hS.ext.trans (Ext.trans (by repeat (first | (with_reducible assumption) | (with_reducible exact Ext.refl _) | apply Ext.alloc | apply Ext.drewN | apply Ext.drew)) hE))⟩
    · have hd1 : decide ((1048576 : Int) < (ys.length : Int)) = true := by simp; omega
      go_enter Try.func19, Try.ntmps19
      go_wp2_with fail
      go_ret
      exact ⟨rfl, (by repeat (first | (with_reducible assumption) | (with_reducible exact Ext.refl _) | apply Ext.alloc | apply Ext.drewN | apply Ext.drew))⟩
  · have hd0 : decide ((1048576 : Int) < (xs.length : Int)) = true := by simp; omega
    go_enter Try.func19, Try.ntmps19
    go_wp2_with fail
    go_ret
    exact ⟨rfl, (by repeat (first | (with_reducible assumption) | (with_reducible exact Ext.refl _) | apply Ext.alloc | apply Ext.drewN | apply Ext.drew))⟩
end Go.Proofs.Ythhkbfjolmgloaa
