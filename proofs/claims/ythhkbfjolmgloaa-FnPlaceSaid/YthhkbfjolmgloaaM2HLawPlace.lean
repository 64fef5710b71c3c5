/- laws.FnPlace answers true, at every pair of codes. No condition. (The walk; the row stands in a text behind.) -/
import Derived.Test.YthhkbfjolmgloaaMHPlaceI
import Derived.Test.YthhkbfjolmgloaaML15a
import Derived.Test.YthhkbfjolmgloaaMHImplCheck
import Derived.Test.YthhkbfjolmgloaaMHOrderX
import Derived.Test.YthhkbfjolmgloaaM2L9a
import Derived.Test.YthhkbfjolmgloaaM2L17a
import Derived.Test.YthhkbfjolmgloaaM2L0a
import Derived.Test.YthhkbfjolmgloaaM2L13a
import Derived.Deep.DeepCutAuto
namespace Go.Proofs.Ythhkbfjolmgloaa
open Go.RowKit
set_option linter.unusedVariables false
set_option linter.unusedSimpArgs false
theorem Ok.size_le {l : Line} (O : Ok l) : l.size ≤ 1048576 := by
  have h1 := O.ntr; have h2 := O.nlegs; have h3 := O.bd.tracks
  unfold Line.size
  omega
set_option maxRecDepth 100000 in
set_option maxHeartbeats 8000000 in
theorem lawPlace_any {w : World} {xs ys : List Int} {A1 A4 : Option Addr} {c1 c4 : Nat} (hA : RdByte w A1 xs) (hA0 : ∀ b o, A1 = some ⟨b, o, none⟩ → b < w.heap.size) (hAB : Bytes xs) (hB : RdByte w A4 ys) (hB0 : ∀ b o, A4 = some ⟨b, o, none⟩ → b < w.heap.size) (hBB : Bytes ys) :
    Calls Try.prog 13 #[.slice A1 xs.length c1, .slice A4 ys.length c4] w fun e w' => e = .returned (.bool true) ∧ Ext w w' := by
  have HB := Lib.hid (fun (W : World) (e : Ext w W) => hB.ext e)
  have HB0 := Lib.hid hB0
  clear hB hB0
  by_cases hn : xs.length ≤ 1048576
  · have hd0 : decide ((1048576 : Int) < (xs.length : Int)) = false := by simp; omega
    by_cases hm : ys.length ≤ 1048576
    · have hd1 : decide ((1048576 : Int) < (ys.length : Int)) = false := by simp; omega
      go_enter Try.func13, Try.ntmps13
      go_wp2_with fail
      refine (lines_any (most := 9) (hA.ext (by repeat (first | (with_reducible assumption) | (with_reducible exact Ext.refl _) | apply Ext.alloc | apply Ext.drewN | apply Ext.drew))) (fun b o e => by have := hA0 b o e; (first | exact this | (simp only [World.heap_drewN]; exact this))) hAB hn (by omega) (by omega)).mono ?_
      rintro e w1 ⟨v, rfl, hO, hE⟩
      obtain ⟨l, hl⟩ : ∃ l, Hid (drawLine xs 9 = l) := ⟨_, rfl⟩
      have O : Ok l := by rw [← hl.out]; exact (drawLine_ok hAB (by omega) (by omega)).ok
      rw [hl.out] at hO
      obtain ⟨A0, c0, A2, c2, rfl, h0, h2⟩ := hO.rd
      have HL1 : Hid (∀ W, Ext w1 W → IsLine W l (.agg #[.slice A0 l.tracks.length c0, .int .i64 l.gap, .slice A2 l.trains.length c2])) := fun W e => hO.rd.ext e
      have hX1 : Ext w w1 := Ext.trans (by repeat (first | (with_reducible assumption) | (with_reducible exact Ext.refl _) | apply Ext.alloc | apply Ext.drewN | apply Ext.drew)) hE
      clear hO h0 h2 hE
      have HO := Lib.hid O
      have HSZ := O.size_le
      have hS := (Lp.of_ext hX1).new #[.slice A0 l.tracks.length c0, .int .i64 l.gap, .slice A2 l.trains.length c2] 33
      obtain ⟨k1, k2, k3, k4⟩ := hS.open1
      go_wp2_with fail
      refine (anOrder_any (HL1.out _ (by repeat (first | (with_reducible assumption) | (with_reducible exact Ext.refl _) | apply Ext.alloc | apply Ext.drewN | apply Ext.drew))) HO.out (HB.out _ (Ext.trans hX1 (by repeat (first | (with_reducible assumption) | (with_reducible exact Ext.refl _) | apply Ext.alloc | apply Ext.drewN | apply Ext.drew)))) (fun b o e => Nat.lt_of_lt_of_le (HB0.out b o e) (Ext.trans hX1 (by repeat (first | (with_reducible assumption) | (with_reducible exact Ext.refl _) | apply Ext.alloc | apply Ext.drewN | apply Ext.drew))).size) hBB hm).mono ?_
      rintro e w2 ⟨o, AO, cO, rfl, ho10, hRO, hE⟩
      have hT := hS.trans (Ext.trans (by repeat (first | (with_reducible assumption) | (with_reducible exact Ext.refl _) | apply Ext.alloc | apply Ext.drewN | apply Ext.drew)) hE)
      have hX2 : Ext w1 w2 := Ext.trans (by repeat (first | (with_reducible assumption) | (with_reducible exact Ext.refl _) | apply Ext.alloc | apply Ext.drewN | apply Ext.drew)) hE
      have HRO := Lib.hid (fun (W : World) (e : Ext w2 W) => RdInt.ext hRO e)
      have HL2 : Hid (∀ W, Ext w2 W → IsLine W l (.agg #[.slice A0 l.tracks.length c0, .int .i64 l.gap, .slice A2 l.trains.length c2])) := fun W e => HL1.out W (hX2.trans e)
      clear hE hX2 hRO k1 k2 k3 k4 hS HL1
      have hS := hT; clear hT
      obtain ⟨k1, k2, k3, k4⟩ := hS.open1
      obtain ⟨r, hr⟩ : ∃ r, Hid (placeA l o = r) := ⟨_, rfl⟩
      obtain ⟨⟨code, at_⟩, p⟩ := r
      have hsm := placeA_small l o
      rw [hr.out] at hsm
      obtain ⟨hp5, hrl⟩ := hsm
      simp only [] at hp5 hrl
      have HLEN : Hid (∀ (i : Nat) (t : List Int), p[i]? = some t → t.length ≤ 1048576) := fun i t ht => by
        have h := hrl i
        unfold rl at h
        rw [List.getD_eq_getElem?_getD, ht] at h
        simp only [Option.getD_some] at h
        omega
      clear hrl
      go_wp2_with fail
      refine (impl_Place_any cO (HL2.out _ (by repeat (first | (with_reducible assumption) | (with_reducible exact Ext.refl _) | apply Ext.alloc | apply Ext.drewN | apply Ext.drew))) HSZ (HRO.out _ (by repeat (first | (with_reducible assumption) | (with_reducible exact Ext.refl _) | apply Ext.alloc | apply Ext.drewN | apply Ext.drew))) (by omega)).mono ?_
      rintro e w3 ⟨⟨AR, cR, gr, vs, rfl, hP⟩, hE⟩
      rw [hr.out] at hP ⊢
      simp only [] at hP
      simp only [placedV]
      have hX : Ext w2 w3 := Ext.trans (by repeat (first | (with_reducible assumption) | (with_reducible exact Ext.refl _) | apply Ext.alloc | apply Ext.drewN | apply Ext.drew)) hE
      have hT := (hS.trans hX).new #[.int .i64 code, .int .i64 at_, .slice AR p.length cR] 73
      have HP3 := Lib.hid (fun (W : World) (e : Ext w3 W) => hP.rd.ext e)
      have HL3 : Hid (∀ W, Ext w3 W → IsLine W l (.agg #[.slice A0 l.tracks.length c0, .int .i64 l.gap, .slice A2 l.trains.length c2])) := fun W e => HL2.out W (hX.trans e)
      have HRO3 := Lib.hid (fun (W : World) (e : Ext w3 W) => HRO.out W (hX.trans e))
      clear hE hX hP k1 k2 k3 k4 hS HL2 HRO
      have hS := hT; clear hT
      obtain ⟨k1, k2, k3, k4, k5, k6⟩ := hS.open2
      go_wp2_with fail
      refine (spec_Place_any cO (HL3.out _ (by repeat (first | (with_reducible assumption) | (with_reducible exact Ext.refl _) | apply Ext.alloc | apply Ext.drewN | apply Ext.drew))) HSZ (HRO3.out _ (by repeat (first | (with_reducible assumption) | (with_reducible exact Ext.refl _) | apply Ext.alloc | apply Ext.drewN | apply Ext.drew))) (by omega)).mono ?_
      rintro e w4 ⟨⟨AR4, cR4, gr4, vs4, rfl, hP⟩, hE⟩
      rw [hr.out] at hP ⊢
      simp only [] at hP
      simp only [placedV]
      have hX : Ext w3 w4 := Ext.trans (by repeat (first | (with_reducible assumption) | (with_reducible exact Ext.refl _) | apply Ext.alloc | apply Ext.drewN | apply Ext.drew)) hE
      have hT := (hS.trans (Ext.trans (by repeat (first | (with_reducible assumption) | (with_reducible exact Ext.refl _) | apply Ext.alloc | apply Ext.drewN | apply Ext.drew)) hE)).new #[.int .i64 code, .int .i64 at_, .slice AR4 p.length cR4] 73
      have HP4 := Lib.hid (fun (W : World) (e : Ext w4 W) => HP3.out W (hX.trans e))
      have HQ4 := Lib.hid (fun (W : World) (e : Ext w4 W) => hP.rd.ext e)
      have HL4 : Hid (∀ W, Ext w4 W → IsLine W l (.agg #[.slice A0 l.tracks.length c0, .int .i64 l.gap, .slice A2 l.trains.length c2])) := fun W e => HL3.out W (hX.trans e)
      have HRO4 := Lib.hid (fun (W : World) (e : Ext w4 W) => HRO3.out W (hX.trans e))
      clear hE hX hP k1 k2 k3 k4 k5 k6 hS HL3 HRO3 HP3
      have hS := hT; clear hT
      obtain ⟨k1, k2, k3, k4, k5, k6, k7, k8⟩ := hS.open3
      go_wp2_with fail
      refine (wPlan_same (p := p) ⟨AR, cR, rfl, HP4.out _ (by repeat (first | (with_reducible assumption) | (with_reducible exact Ext.refl _) | apply Ext.alloc | apply Ext.drewN | apply Ext.drew))⟩ ⟨AR4, cR4, rfl, HQ4.out _ (by repeat (first | (with_reducible assumption) | (with_reducible exact Ext.refl _) | apply Ext.alloc | apply Ext.drewN | apply Ext.drew))⟩ (by omega) (fun i t ht => by have := HLEN.out i t ht; omega)).mono ?_
      rintro e w5 ⟨rfl, hE⟩
      have hX : Ext w4 w5 := Ext.trans (by repeat (first | (with_reducible assumption) | (with_reducible exact Ext.refl _) | apply Ext.alloc | apply Ext.drewN | apply Ext.drew)) hE
      have hT := hS.trans hE
      have HP5 := Lib.hid (fun (W : World) (e : Ext w5 W) => HP4.out W (hX.trans e))
      have HL5 : Hid (∀ W, Ext w5 W → IsLine W l (.agg #[.slice A0 l.tracks.length c0, .int .i64 l.gap, .slice A2 l.trains.length c2])) := fun W e => HL4.out W (hX.trans e)
      have HRO5 := Lib.hid (fun (W : World) (e : Ext w5 W) => HRO4.out W (hX.trans e))
      clear hE hX k1 k2 k3 k4 k5 k6 k7 k8 hS HL4 HRO4 HP4 HQ4
      have hS := hT; clear hT
      obtain ⟨k1, k2, k3, k4, k5, k6, k7, k8⟩ := hS.open3
      by_cases hcd : code = 0
      · subst hcd
        obtain ⟨-, -, -, cz, hz0⟩ := placeA_zero hr.out
        have C : Can l p := placeA_can hr.out
        have HK := Lib.hid C.check
        have HC := Lib.hid C
        have HZ0 := Lib.hid hz0
        clear hz0 hr
        go_wp2_with fail
        refine (impl_Check_any (p := p) (HL5.out _ (by repeat (first | (with_reducible assumption) | (with_reducible exact Ext.refl _) | apply Ext.alloc | apply Ext.drewN | apply Ext.drew))) ⟨AR, cR, rfl, HP5.out _ (by repeat (first | (with_reducible assumption) | (with_reducible exact Ext.refl _) | apply Ext.alloc | apply Ext.drewN | apply Ext.drew))⟩ HSZ (by omega) HLEN.out).mono ?_
        rw [HK.out]
        rintro e w6 ⟨rfl, hE⟩
        simp only [clV]
        have hT := hS.trans hE
        have HP6 := HP5.out w6 (Ext.trans (by repeat (first | (with_reducible assumption) | (with_reducible exact Ext.refl _) | apply Ext.alloc | apply Ext.drewN | apply Ext.drew)) hE)
        have HRO6 := HRO5.out w6 (Ext.trans (by repeat (first | (with_reducible assumption) | (with_reducible exact Ext.refl _) | apply Ext.alloc | apply Ext.drewN | apply Ext.drew)) hE)
        clear hE k1 k2 k3 k4 k5 k6 k7 k8 hS HL5 HRO5 HP5
        have hS := hT; clear hT
        obtain ⟨k1, k2, k3, k4, k5, k6, k7, k8⟩ := hS.open3
        obtain ⟨b3, o3, br, or', cr, SP⟩ := seeP HC.out.ok HC.out.fits HP6
        have HQ := Lib.hid SP
        have n5 := HO.out.ntr
        have hp7 : ∀ j, w6.cell? ⟨w3.heap.size, j, none⟩ = (#[.int .i64 0, .int .i64 at_, .slice AR p.length cR] : Array Value)[j]? := k5
        have hl7 : w3.heap.size < w6.heap.size := k6
        have hXL := hS.ext
        clear SP k1 k2 k3 k4 k5 k6 hS HP6
        have hmk := fun W => run_make_row' (P := Try.prog) 23 3 (.int .i64 0) 8 Try.underlying23 info3 rfl .i64 .i64 l.trains.length (by omega) (by omega) W
        rw [madeCells_int, numsN_zero] at hmk
        go_wp2_with fail
        clear hmk k7 k8
        have hS : Lp w6 _ _ := (Lp.nil w6).newAt (g := w6.heap.size) (numsN (List.replicate l.trains.length 0)) 3 rfl
        go_loopw [10, 68] (fun s10 j wr => ∃ (k : Nat) (q : List (List Int)) (last : Int) (nx : List Nat), k ≤ o.length ∧ j = .int .i64 k ∧ s10 = .int .i64 last ∧ Hid (Placing l o k q last) ∧ Hid (placeS l k (o.drop k) q last = (((0, cz), p) : PlR)) ∧ nx.length = l.trains.length ∧ Hid (∀ i, i < l.trains.length → nx.getD i 0 = (q.getD i []).length) ∧
          Lp w6 wr [(w6.heap.size, numsN nx, 3)]) (fun _ j _ => o.length - (intOf j).toNat)
        case atStart => exact ⟨0, _, 0, _, Nat.zero_le _, rfl, rfl, Placing.start l o, by rw [List.drop_zero]; exact HZ0.out, by simp, fun i hi => by simp [List.getD_eq_getElem?_getD, List.getElem?_replicate, hi], hS⟩
        case round =>
          clear hS
          obtain ⟨k, q, last, nx, hk, rfl, rfl, HPL, HZ, hnx, HNX, hS⟩ := hrel
          obtain ⟨k1, k2, k3, k4⟩ := hS.open1
          by_cases hlk : k < o.length
          · obtain ⟨x, hx⟩ := hid_of_lt hlk
            obtain ⟨i, t, rfl, hi, hm1, hlt, hst, hm2, HZ2, HP2⟩ := HPL.out.went HO.out ho10 hx.out HZ.out
            obtain ⟨m, HM⟩ : ∃ m, Hid ((q.getD i []).length = m) := ⟨_, rfl⟩
            rw [HM.out] at hm1 hst hm2
            have HZ2 := Lib.hid HZ2
            have HP2 := Lib.hid HP2
            obtain ⟨bo, oo, rfl, hbo⟩ := HRO6.base hlk
            have f0 := HRO6.at_ hx.out
            obtain ⟨rfl, hb3⟩ := HQ.out.base (by omega)
            obtain ⟨r0, hbr⟩ := HQ.out.row i hi
            have s0 := HQ.out.st i m hi hm1
            rw [hst] at s0
            have n0 : wr.cell? ⟨w6.heap.size, i, none⟩ = some (.int .i64 (m : Int)) := by rw [k3, numsN_at (by omega), HNX.out i hi, HM.out]
            have e7 := hp7 2
            have hd2 : decide (t < last) = false := by simp; omega
            have hpl : i < p.length := by rw [HC.out.fits.rows]; exact hi
            have hm10 := (HO.out.bd.nl1 i hi).2
            clear hst hm2 k3
            have fr := box_frozen (hS.box _ List.mem_cons_self)
            go_wp2_with fail
            go_quiet (fail)
            go_wp2_with fail
            have hSN : Lp w6 ((wr.drewN nq).setCell ⟨w6.heap.size, i, none⟩ (.int .i64 ((m : Int) + 1))) [(w6.heap.size, numsN (nx.set i (m + 1)), 3)] := by
              rw [numsN_set]; exact (hS.drewN nq).set (Nat.le_refl _) (fun x hx => by cases hx) i _
            have HN2 : ∀ j, j < l.trains.length → (nx.set i (m + 1)).getD j 0 = ((put q i t).getD j []).length := fun j hj => by
              rw [put_len (show i < q.length by rw [HPL.out.good.rows]; exact hi)]
              by_cases e : j = i
              · subst e
                rw [if_pos rfl, HM.out]
                simp [List.getD_eq_getElem?_getD, hnx, hj]
              · rw [if_neg e, ← HNX.out j hj]
                simp [List.getD_eq_getElem?_getD, List.getElem?_set, Ne.symm e]
            exact ⟨⟨k + 1, put q i t, t, nx.set i (m + 1), by omega, by go_num, rfl, HP2.out, HZ2.out, by simp [hnx], HN2, hSN⟩, (by simp [intOf]; omega)⟩
          · go_wp2_with fail
            go_ret
            exact ⟨rfl, hXL.trans hS.ext⟩
      · have hne : (code != 0) = true := by simp; omega
        go_wp2_with fail
        go_ret
        exact ⟨rfl, hS.ext⟩
    · have hd1 : decide ((1048576 : Int) < (ys.length : Int)) = true := by simp; omega
      go_enter Try.func13, Try.ntmps13
      go_wp2_with fail
      go_ret
      exact ⟨rfl, (by repeat (first | (with_reducible assumption) | (with_reducible exact Ext.refl _) | apply Ext.alloc | apply Ext.drewN | apply Ext.drew))⟩
  · have hd0 : decide ((1048576 : Int) < (xs.length : Int)) = true := by simp; omega
    go_enter Try.func13, Try.ntmps13
    go_wp2_with fail
    go_ret
    exact ⟨rfl, (by repeat (first | (with_reducible assumption) | (with_reducible exact Ext.refl _) | apply Ext.alloc | apply Ext.drewN | apply Ext.drew))⟩
end Go.Proofs.Ythhkbfjolmgloaa
