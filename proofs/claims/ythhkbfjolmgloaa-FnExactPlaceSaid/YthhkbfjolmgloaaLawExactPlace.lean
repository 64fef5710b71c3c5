/- laws.FnExactPlace answers true, at every line and order that can be read. No condition. (The walk; the row stands in a text behind.) -/
import Derived.Test.YthhkbfjolmgloaaPlaceI
import Derived.Test.YthhkbfjolmgloaaSeqP
import Derived.Test.YthhkbfjolmgloaaLawLineOk
import Derived.Test.YthhkbfjolmgloaaOpen
import Derived.Deep.DeepCutAuto
namespace Go.Proofs.Ythhkbfjolmgloaa
open Go.RowKit
set_option linter.unusedVariables false
set_option linter.unusedSimpArgs false
theorem far3 {b1 b2 b3 lo hi : Nat} {c1 c2 c3 : Array Value} {t1 t2 t3 : TypeId} (h1 : b1 < lo ∨ hi ≤ b1) (h2 : b2 < lo ∨ hi ≤ b2) (h3 : b3 < lo ∨ hi ≤ b3) : ∀ x, x ∈ [(b1, c1, t1), (b2, c2, t2), (b3, c3, t3)] → x.1 < lo ∨ hi ≤ x.1 := by
  intro x hx
  simp only [List.mem_cons, List.not_mem_nil, or_false] at hx
  rcases hx with rfl | rfl | rfl
  · exact h1
  · exact h2
  · exact h3
set_option maxRecDepth 100000 in
set_option maxHeartbeats 8000000 in
theorem lawExactPlace_any {w : World} {l : Line} {order : List Int} {u v : Value} (hl : IsLine w l u) (R : l.Room) (ho : ∃ A c, v = .slice A order.length c ∧ RdInt w A order) (hon : order.length ≤ 9223372036854775807) :
    Calls Try.prog 16 #[u, v] w fun e w' => e = .returned (.bool true) ∧ Ext w w' := by
  have HL := Lib.hid (fun (W : World) (e : Ext w W) => hl.ext e)
  obtain ⟨A0, c0, A2, c2, rfl, h0, h2⟩ := hl
  obtain ⟨Ao, co, rfl, h3⟩ := ho
  have HQ := Lib.hid (fun (W : World) (e : Ext w W) => RdInt.ext h3 e)
  clear h0 h2 h3
  by_cases hn : order.length ≤ 1048576
  · have hd0 : decide ((1048576 : Int) < (order.length : Int)) = false := by simp; omega
    by_cases hs : l.size ≤ 1048576
    · have hc : cut 1048576 l.size = 1048576 - l.size := cut_ok (by omega)
      have S := Line.small_of hs
      have hc0 : (0 : Int) ≤ 1048576 - l.size := by omega
      obtain ⟨r, hr⟩ : ∃ r, Hid (placeA l order = r) := ⟨_, rfl⟩
      obtain ⟨⟨code, at_⟩, p⟩ := r
      have hsm := placeA_small l order
      rw [hr.out] at hsm
      obtain ⟨hp5, hrl⟩ := hsm
      simp only [] at hp5 hrl
      have HRL := Lib.hid hrl
      have hcn : cntN (rl p) p.length ≤ 1000000 := by have := cntN_le hrl p.length; omega
      have HLEN : Hid (∀ (i : Nat) (t : List Int), p[i]? = some t → t.length ≤ 1048576) := fun i t ht => by
        have h := hrl i
        unfold rl at h
        rw [List.getD_eq_getElem?_getD, ht] at h
        simp only [Option.getD_some] at h
        omega
      clear hrl
      go_enter Try.func16, Try.ntmps16
      go_wp2_with fail
      refine (szLine_any (HL.out _ (by repeat (first | (with_reducible assumption) | (with_reducible exact Ext.refl _) | apply Ext.alloc | apply Ext.drewN | apply Ext.drew))) R _ (by omega) (by omega)).mono ?_
      rintro e w1 ⟨rfl, hE⟩
      have hS := (Lp.start1 w #[.slice A0 l.tracks.length c0, .int .i64 l.gap, .slice A2 l.trains.length c2] 26).trans hE; clear hE
      obtain ⟨k1, k2, k3, k4⟩ := hS.open1
      rw [hc]
      go_wp2_with fail
      refine (toLine_any (HL.out _ (by repeat (first | (with_reducible exact hS.ext) | (with_reducible assumption) | (with_reducible exact Ext.refl _) | with_reducible apply Ext.alloc | with_reducible apply Ext.drewN | with_reducible apply Ext.drew | with_reducible refine Ext.setCell ?_ (by simp only []; omega) _))) S).mono ?_
      rintro e w2 ⟨u2, rfl, hU, hE⟩
      have hT := hS.trans (Ext.trans (by repeat (first | (with_reducible assumption) | (with_reducible exact Ext.refl _) | apply Ext.alloc | apply Ext.drewN | apply Ext.drew)) hE)
      have HU2 := Lib.hid hU.rd
      clear hU hE k1 k2 k3 k4 hS
      have hS := hT; clear hT
      obtain ⟨k1, k2, k3, k4⟩ := hS.open1
      go_wp2_with fail
      refine (toIntS_any co (HQ.out _ (by repeat (first | (with_reducible exact hS.ext) | (with_reducible assumption) | (with_reducible exact Ext.refl _) | with_reducible apply Ext.alloc | with_reducible apply Ext.drewN | with_reducible apply Ext.drew | with_reducible refine Ext.setCell ?_ (by simp only []; omega) _))) hn).mono ?_
      rintro e w3 ⟨rfl, hbx, hE⟩
      have HO3 := Lib.hid (rdInt_of_box hbx)
      have HU3 := Lib.hid (HU2.out.ext (Ext.trans (by repeat (first | (with_reducible assumption) | (with_reducible exact Ext.refl _) | apply Ext.alloc | apply Ext.drewN | apply Ext.drew)) hE))
      have hT := hS.trans (Ext.trans (by repeat (first | (with_reducible assumption) | (with_reducible exact Ext.refl _) | apply Ext.alloc | apply Ext.drewN | apply Ext.drew)) hE)
      clear hE hbx k1 k2 k3 k4 hS HU2
      have hS := hT; clear hT
      obtain ⟨k1, k2, k3, k4⟩ := hS.open1
      go_wp2_with fail
      refine (spec_Place_any order.length (HU3.out.ext (by repeat (first | (with_reducible assumption) | (with_reducible exact Ext.refl _) | apply Ext.alloc | apply Ext.drewN | apply Ext.drew))) hs (RdInt.ext HO3.out (by repeat (first | (with_reducible assumption) | (with_reducible exact Ext.refl _) | apply Ext.alloc | apply Ext.drewN | apply Ext.drew))) hn).mono ?_
      rintro e w4 ⟨⟨AR, cR, gr, vs, rfl, hP⟩, hE⟩
      rw [hr.out] at hP ⊢
      simp only [] at hP
      simp only [placedV]
      have hT := hS.trans (Ext.trans (by repeat (first | (with_reducible assumption) | (with_reducible exact Ext.refl _) | apply Ext.alloc | apply Ext.drewN | apply Ext.drew)) hE)
      have HPS := Lib.hid hP.rd
      clear hE hP k1 k2 k3 k4 hS HU3 HO3
      have hS := hT; clear hT
      obtain ⟨k1, k2, k3, k4⟩ := hS.open1
      have c3 : ∀ j, w4.cell? ⟨w.heap.size, j, none⟩ = (#[.slice A0 l.tracks.length c0, .int .i64 l.gap, .slice A2 l.trains.length c2] : Array Value)[j]? := k3
      have c4 := k4
      have hE4 := Lib.hid hS.ext
      have HL4 := Lib.hid (fun (W : World) (e : Ext w4 W) => HL.out W (hE4.out.trans e))
      have HQ4 := Lib.hid (fun (W : World) (e : Ext w4 W) => HQ.out W (hE4.out.trans e))
      clear k1 k2 k3 k4 hS HL HQ
      go_wp2_with fail
      refine (toLine_any (HL4.out _ (by repeat (first | (with_reducible assumption) | (with_reducible exact Ext.refl _) | apply Ext.alloc | apply Ext.drewN | apply Ext.drew))) S).mono ?_
      rintro e w5 ⟨u5, rfl, hU, hE⟩
      have hS := (Lp.start1 w4 #[.int .i64 code, .int .i64 at_, .slice AR p.length cR] 73).trans hE
      have HU5 := Lib.hid hU.rd
      have HM5 := Lib.hid hU.mline
      obtain ⟨g0, g2, rfl⟩ := hU.form
      rw [alloc_size] at HM5
      have hl5 : w4.heap.size + 1 ≤ w5.heap.size := by have := hE.size; rw [alloc_size] at this; exact this
      clear hE hU
      obtain ⟨k1, k2, k3, k4⟩ := hS.open1
      go_wp2_with fail
      refine (toIntS_any co (HQ4.out _ (by repeat (first | (with_reducible exact hS.ext) | (with_reducible assumption) | (with_reducible exact Ext.refl _) | with_reducible apply Ext.alloc | with_reducible apply Ext.drewN | with_reducible apply Ext.drew | with_reducible refine Ext.setCell ?_ (by simp only []; omega) _))) hn).mono ?_
      rintro e w6 ⟨rfl, hbx, hE⟩
      have hT := (hS.newAt (g := w5.heap.size) #[.slice (some ⟨g0, 0, none⟩) l.tracks.length l.tracks.length, .int .i64 l.gap, .slice (some ⟨g2, 0, none⟩) l.trains.length l.trains.length] 33 rfl).trans hE
      have hX56 : Ext w5 w6 := Ext.trans (by repeat (first | (with_reducible assumption) | (with_reducible exact Ext.refl _) | apply Ext.alloc | apply Ext.drewN | apply Ext.drew)) hE
      rw [alloc_size] at hbx ⊢
      have HO6 := Lib.hid (rdInt_of_box hbx)
      have HMo6 : Hid (MRow (w5.heap.size + 1) w6.heap.size w6 3 (.slice (some ⟨w5.heap.size + 1, 0, none⟩) order.length order.length) order.length 1) := OwnInts.mrow ⟨_, rfl, Nat.le_refl _, hbx⟩
      have HU6 := Lib.hid (HU5.out.ext hX56)
      have HM6 := Lib.hid (HM5.out.ext hX56)
      have hl6 : w5.heap.size + 1 ≤ w6.heap.size := by have := hE.size; rw [alloc_size] at this; exact this
      clear hE hbx hX56 HU5 HM5 k1 k2 k3 k4 hS
      have hS := hT; clear hT
      obtain ⟨k1, k2, k3, k4, k5, k6⟩ := hS.open2
      go_wp2_with fail
      refine (impl_Place_any order.length (HU6.out.ext (by repeat (first | (with_reducible assumption) | (with_reducible exact Ext.refl _) | apply Ext.alloc | apply Ext.drewN | apply Ext.drew))) hs (RdInt.ext HO6.out (by repeat (first | (with_reducible assumption) | (with_reducible exact Ext.refl _) | apply Ext.alloc | apply Ext.drewN | apply Ext.drew))) hn).mono ?_
      rintro e w7 ⟨⟨AR7, cR7, gr7, vs7, rfl, hP⟩, hE⟩
      rw [hr.out] at hP ⊢
      simp only [] at hP
      simp only [placedV]
      have hX : Ext w6 w7 := Ext.trans (by repeat (first | (with_reducible assumption) | (with_reducible exact Ext.refl _) | apply Ext.alloc | apply Ext.drewN | apply Ext.drew)) hE
      have hT := hS.trans hX
      have HP7 : Hid (PRows w7 w6.heap.size p AR7 gr7 vs7) := hP
      have HU7 := Lib.hid (HU6.out.ext hX)
      have HM7 := Lib.hid (HM6.out.ext hX)
      have HO7 := Lib.hid (RdInt.ext HO6.out hX)
      have HMo7 := Lib.hid (HMo6.out.ext hX)
      have hl7 : w6.heap.size ≤ w7.heap.size := hX.size
      clear hE hP hX HU6 HM6 HO6 HMo6 k1 k2 k3 k4 k5 k6 hS
      have hS := hT; clear hT
      obtain ⟨k1, k2, k3, k4, k5, k6⟩ := hS.open2
      go_wp2_with fail
      refine (eqPlaced_same (a := code) (b := at_) (c := cR7) (c' := cR) (HP7.out.rd.ext (by repeat (first | (with_reducible assumption) | (with_reducible exact Ext.refl _) | apply Ext.alloc | apply Ext.drewN | apply Ext.drew))) (HPS.out.ext (by repeat (first | (with_reducible exact hS.ext) | (with_reducible assumption) | (with_reducible exact Ext.refl _) | with_reducible apply Ext.alloc | with_reducible apply Ext.drewN | with_reducible apply Ext.drew | with_reducible refine Ext.setCell ?_ (by simp only []; omega) _))) (by omega) HLEN.out).mono ?_
      rintro e w8 ⟨rfl, hE⟩
      have hT := (hS.newAt (g := w7.heap.size) #[.int .i64 code, .int .i64 at_, .slice AR7 p.length cR7] 73 rfl).trans hE
      have hX : Ext w7 w8 := Ext.trans (by repeat (first | (with_reducible assumption) | (with_reducible exact Ext.refl _) | apply Ext.alloc | apply Ext.drewN | apply Ext.drew)) hE
      have HP8 := Lib.hid (HP7.out.ext hX)
      have HU8 := Lib.hid (HU7.out.ext hX)
      have HM8 := Lib.hid (HM7.out.ext hX)
      have HO8 := Lib.hid (RdInt.ext HO7.out hX)
      have HMo8 := Lib.hid (HMo7.out.ext hX)
      have hl8 : w7.heap.size + 1 ≤ w8.heap.size := by have := hE.size; rw [alloc_size] at this; exact this
      have hlP := (HP7.out.within hl7)
      clear hE hX HP7 HU7 HM7 HO7 HMo7 k1 k2 k3 k4 k5 k6 hS
      have hS := hT; clear hT
      obtain ⟨k1, k2, k3, k4, k5, k6, k7, k8⟩ := hS.open3
      go_upto_region 13 with fail
      go_cut [42] (fun s wx => s = .bool false ∧ Ext w8 wx)
      case first =>
        go_region_with (first  | (go_at_call 23; refine (toLine_any (HL4.out _ (by repeat (first | (with_reducible exact hS.ext) | (with_reducible assumption) | (with_reducible exact Ext.refl _) | with_reducible apply Ext.alloc | with_reducible apply Ext.drewN | with_reducible apply Ext.drew | with_reducible refine Ext.setCell ?_ (by simp only []; omega) _))) S).mono ?_; rintro e wa ⟨ua, rfl, hUa, hEa⟩; have hXa : Ext w8 wa := Ext.trans (by repeat (first | (with_reducible assumption) | (with_reducible exact Ext.refl _) | apply Ext.alloc | apply Ext.drewN | apply Ext.drew)) hEa; have hT := hS.trans hXa; obtain ⟨m1, m2, m3, m4, m5, m6, m7, m8⟩ := hT.open3; have HUa := Lib.hid hUa.rd; clear hUa)  | (go_at_call 26; refine (eqLine_same (HU8.out.ext hXa) HUa.out R).mono ?_; rintro e wb ⟨rfl, hEb⟩))
        all_goals
          go_wp2_with fail
          go_meet
          exact ⟨rfl, hXa.trans hEb⟩
      case rest =>
        obtain ⟨rfl, hXb⟩ := hcut
        have HPb := Lib.hid (HP8.out.ext hXb)
        have HMb := Lib.hid (HM8.out.ext hXb)
        have HOb := Lib.hid (RdInt.ext HO8.out hXb)
        have HMob := Lib.hid (HMo8.out.ext hXb)
        have hTb := hS.trans hXb
        clear k1 k2 k3 k4 k5 k6 k7 k8 hS hXb HP8 HU8 HM8 HO8 HMo8
        have hS := hTb; clear hTb
        obtain ⟨k1, k2, k3, k4, k5, k6, k7, k8⟩ := hS.open3
        have hlf : w4.heap.size + 1 ≤ w5.heap.size ∧ w5.heap.size + 1 ≤ w6.heap.size ∧ w6.heap.size ≤ w7.heap.size := ⟨hl5, hl6, hl7⟩
        go_wp2_with fail
        refine (toIntS_any co (HQ4.out _ (by repeat (first | (with_reducible exact hS.ext) | (with_reducible assumption) | (with_reducible exact Ext.refl _) | with_reducible apply Ext.alloc | with_reducible apply Ext.drewN | with_reducible apply Ext.drew | with_reducible refine Ext.setCell ?_ (by simp only []; omega) _))) hn).mono ?_
        rintro e wd ⟨rfl, hbx, hE⟩
        have hX : Ext wc wd := Ext.trans (by repeat (first | (with_reducible assumption) | (with_reducible exact Ext.refl _) | apply Ext.alloc | apply Ext.drewN | apply Ext.drew)) hE
        have HX := Lib.hid (rdInt_of_box hbx)
        have hT := hS.trans hX
        have HPd := Lib.hid (HPb.out.ext hX)
        have HMd := Lib.hid (HMb.out.ext hX)
        have HOd := Lib.hid (RdInt.ext HOb.out hX)
        have HMod := Lib.hid (HMob.out.ext hX)
        clear hE hbx hX HPb HMb HOb HMob k1 k2 k3 k4 k5 k6 k7 k8 hS
        have hS := hT; clear hT
        obtain ⟨k1, k2, k3, k4, k5, k6, k7, k8⟩ := hS.open3
        go_wp2_with fail
        refine (eqIntS_same _ _ (RdInt.ext HOd.out (by repeat (first | (with_reducible assumption) | (with_reducible exact Ext.refl _) | apply Ext.alloc | apply Ext.drewN | apply Ext.drew))) (RdInt.ext HX.out (by repeat (first | (with_reducible assumption) | (with_reducible exact Ext.refl _) | apply Ext.alloc | apply Ext.drewN | apply Ext.drew))) (by omega)).mono ?_
        rintro e we ⟨rfl, hE⟩
        have hX : Ext wd we := Ext.trans (by repeat (first | (with_reducible assumption) | (with_reducible exact Ext.refl _) | apply Ext.alloc | apply Ext.drewN | apply Ext.drew)) hE
        have hT := hS.trans hX
        have HPe := Lib.hid (HPd.out.ext hX)
        have HMe := Lib.hid (HMd.out.ext hX)
        have HMoe := Lib.hid (HMod.out.ext hX)
        clear hE hX HX HPd HMd HOd HMod k1 k2 k3 k4 k5 k6 k7 k8 hS
        have hS := hT; clear hT
        obtain ⟨k1, k2, k3, k4, k5, k6, k7, k8⟩ := hS.open3
        go_wp2_with fail
        refine (markLine_any HMe.out S 1 (by omega) (by omega)).mono ?_
        rintro e wf ⟨kf, rfl, hk0, hk1, hMk⟩
        have hT := hS.marked hMk (by omega) (far3 (by omega) (by omega) (by omega))
        have HPf := Lib.hid (HPe.out.marked hMk (by omega))
        have HMof := Lib.hid (HMoe.out.mk hMk)
        clear hMk HPe HMe HMoe k1 k2 k3 k4 k5 k6 k7 k8 hS
        have hS := hT; clear hT
        obtain ⟨k1, k2, k3, k4, k5, k6, k7, k8⟩ := hS.open3
        go_wp2_with fail
        refine (markIntS_any HMof.out hn kf hk0 (by omega)).mono ?_
        rintro e wg ⟨rfl, hMk⟩
        have hT := hS.marked hMk (by omega) (far3 (by omega) (by omega) (by omega))
        have HPg := Lib.hid (HPf.out.marked hMk (by omega))
        clear hMk HPf HMof k1 k2 k3 k4 k5 k6 k7 k8 hS
        have hS := hT; clear hT
        obtain ⟨k1, k2, k3, k4, k5, k6, k7, k8⟩ := hS.open3
        have hdk : decide (kf + (order.length : Int) < 0) = false := by simp; omega
        go_wp2_with fail
        refine (eqPlaced_same (a := code) (b := at_) (c := cR7) (c' := cR) (HPg.out.rd.ext (by repeat (first | (with_reducible assumption) | (with_reducible exact Ext.refl _) | apply Ext.alloc | apply Ext.drewN | apply Ext.drew))) (HPS.out.ext (by repeat (first | (with_reducible exact hS.ext) | (with_reducible assumption) | (with_reducible exact Ext.refl _) | with_reducible apply Ext.alloc | with_reducible apply Ext.drewN | with_reducible apply Ext.drew | with_reducible refine Ext.setCell ?_ (by simp only []; omega) _))) (by omega) HLEN.out).mono ?_
        rintro e wh ⟨rfl, hE⟩
        have hX : Ext wg wh := Ext.trans (by repeat (first | (with_reducible assumption) | (with_reducible exact Ext.refl _) | apply Ext.alloc | apply Ext.drewN | apply Ext.drew)) hE
        have hT := hS.trans hX
        have HPh := Lib.hid (HPg.out.ext hX)
        clear hE hX HPg k1 k2 k3 k4 k5 k6 k7 k8 hS
        have hS := hT; clear hT
        obtain ⟨k1, k2, k3, k4, k5, k6, k7, k8⟩ := hS.open3
        go_wp2_with fail
        refine (markPlaced_seq (a := code) (b := at_) (lo := w6.heap.size) (hi := w7.heap.size) (HPh.out.hdr cR7) HPh.out.rows3 HPh.out.apartL hlP (by omega) hcn).mono ?_
        rintro e wi ⟨rfl, hMk, hSq⟩
        have hT := hS.marked hMk (by omega) (far3 (by omega) (by omega) (by omega))
        have HHi := Lib.hid ((HPh.out.hdr cR7).mk hMk (by decide))
        have HSi := Lib.hid hSq
        clear hMk hSq HPh k1 k2 k3 k4 k5 k6 k7 k8 hS
        have hS := hT; clear hT
        obtain ⟨k1, k2, k3, k4, k5, k6, k7, k8⟩ := hS.open3
        have hdc : decide (1 + (cntN (rl p) p.length : Int) < 0) = false := by simp; omega
        have hne : ((1 + (cntN (rl p) p.length : Int)) != (1 + (cntN (rl p) p.length : Int))) = false := by simp
        go_wp2_with fail
        refine (heldPlaced_seq (a := code) (b := at_) HHi.out HSi.out (by omega) hcn).mono ?_
        rintro e wj ⟨rfl, hE⟩
        have hX : Ext wi wj := Ext.trans (by repeat (first | (with_reducible assumption) | (with_reducible exact Ext.refl _) | apply Ext.alloc | apply Ext.drewN | apply Ext.drew)) hE
        have hT := hS.trans hX
        have HHj := Lib.hid (HHi.out.ext hX)
        have HSj := Lib.hid (HSi.out.ext hX)
        clear hE hX HHi HSi k1 k2 k3 k4 k5 k6 k7 k8 hS
        have hS := hT; clear hT
        obtain ⟨k1, k2, k3, k4, k5, k6, k7, k8⟩ := hS.open3
        go_wp2_with fail
        refine (toLine_any (HL4.out _ (by repeat (first | (with_reducible exact hS.ext) | (with_reducible assumption) | (with_reducible exact Ext.refl _) | with_reducible apply Ext.alloc | with_reducible apply Ext.drewN | with_reducible apply Ext.drew | with_reducible refine Ext.setCell ?_ (by simp only []; omega) _))) S).mono ?_
        rintro e wk ⟨uk, rfl, hU, hE⟩
        have hX : Ext wj wk := Ext.trans (by repeat (first | (with_reducible assumption) | (with_reducible exact Ext.refl _) | apply Ext.alloc | apply Ext.drewN | apply Ext.drew)) hE
        have hT := hS.trans hX
        have HUk := Lib.hid hU.rd
        have HHk := Lib.hid (HHj.out.ext hX)
        have HSk := Lib.hid (HSj.out.ext hX)
        clear hU hE hX HHj HSj k1 k2 k3 k4 k5 k6 k7 k8 hS
        have hS := hT; clear hT
        obtain ⟨k1, k2, k3, k4, k5, k6, k7, k8⟩ := hS.open3
        go_wp2_with fail
        refine (toIntS_any co (HQ4.out _ (by repeat (first | (with_reducible exact hS.ext) | (with_reducible assumption) | (with_reducible exact Ext.refl _) | with_reducible apply Ext.alloc | with_reducible apply Ext.drewN | with_reducible apply Ext.drew | with_reducible refine Ext.setCell ?_ (by simp only []; omega) _))) hn).mono ?_
        rintro e wl ⟨rfl, hbx, hE⟩
        have hX : Ext wk wl := Ext.trans (by repeat (first | (with_reducible assumption) | (with_reducible exact Ext.refl _) | apply Ext.alloc | apply Ext.drewN | apply Ext.drew)) hE
        have hT := hS.trans hX
        have HOl := Lib.hid (rdInt_of_box hbx)
        have HUl := Lib.hid (HUk.out.ext hX)
        have HHl := Lib.hid (HHk.out.ext hX)
        have HSl := Lib.hid (HSk.out.ext hX)
        clear hbx hE hX HHk HSk HUk k1 k2 k3 k4 k5 k6 k7 k8 hS
        have hS := hT; clear hT
        obtain ⟨k1, k2, k3, k4, k5, k6, k7, k8⟩ := hS.open3
        go_wp2_with fail
        refine (impl_Place_any order.length (HUl.out.ext (by repeat (first | (with_reducible assumption) | (with_reducible exact Ext.refl _) | apply Ext.alloc | apply Ext.drewN | apply Ext.drew))) hs (RdInt.ext HOl.out (by repeat (first | (with_reducible assumption) | (with_reducible exact Ext.refl _) | apply Ext.alloc | apply Ext.drewN | apply Ext.drew))) hn).mono ?_
        rintro e wm ⟨⟨ARd, cRd, grd, vsd, rfl, hP⟩, hE⟩
        rw [hr.out] at hP ⊢
        simp only [] at hP
        simp only [placedV]
        have hX : Ext wl wm := Ext.trans (by repeat (first | (with_reducible assumption) | (with_reducible exact Ext.refl _) | apply Ext.alloc | apply Ext.drewN | apply Ext.drew)) hE
        have hT := hS.trans hX
        have HPm := Lib.hid hP.rd
        have HHm := Lib.hid (HHl.out.ext hX)
        have HSm := Lib.hid (HSl.out.ext hX)
        clear hP hE hX HHl HSl HUl HOl k1 k2 k3 k4 k5 k6 k7 k8 hS
        have hS := hT; clear hT
        obtain ⟨k1, k2, k3, k4, k5, k6, k7, k8⟩ := hS.open3
        go_wp2_with fail
        refine (eqPlaced_same (a := code) (b := at_) (c := cRd) (c' := cR) (HPm.out.ext (by repeat (first | (with_reducible assumption) | (with_reducible exact Ext.refl _) | apply Ext.alloc | apply Ext.drewN | apply Ext.drew))) (HPS.out.ext (by repeat (first | (with_reducible exact hS.ext) | (with_reducible assumption) | (with_reducible exact Ext.refl _) | with_reducible apply Ext.alloc | with_reducible apply Ext.drewN | with_reducible apply Ext.drew | with_reducible refine Ext.setCell ?_ (by simp only []; omega) _))) (by omega) HLEN.out).mono ?_
        rintro e wn ⟨rfl, hE⟩
        have hX : Ext wm wn := Ext.trans (by repeat (first | (with_reducible assumption) | (with_reducible exact Ext.refl _) | apply Ext.alloc | apply Ext.drewN | apply Ext.drew)) hE
        have hT := hS.trans hX
        have HHn := Lib.hid (HHm.out.ext hX)
        have HSn := Lib.hid (HSm.out.ext hX)
        clear hE hX HHm HSm HPm k1 k2 k3 k4 k5 k6 k7 k8 hS
        have hS := hT; clear hT
        obtain ⟨k1, k2, k3, k4, k5, k6, k7, k8⟩ := hS.open3
        go_wp2_with fail
        refine (heldPlaced_seq (a := code) (b := at_) HHn.out HSn.out (by omega) hcn).mono ?_
        rintro e wo ⟨rfl, hE⟩
        have hX : Ext wn wo := Ext.trans (by repeat (first | (with_reducible assumption) | (with_reducible exact Ext.refl _) | apply Ext.alloc | apply Ext.drewN | apply Ext.drew)) hE
        have hT := hE4.out.trans (hS.ext.trans hX)
        clear hE hX HHn HSn k1 k2 k3 k4 k5 k6 k7 k8 hS
        go_wp2_with fail
        go_ret
        exact ⟨rfl, hT⟩
    · have hc : cut 1048576 l.size = -1 := cut_neg (by omega)
      go_enter Try.func16, Try.ntmps16
      go_wp2_with fail
      refine (szLine_any (HL.out _ (by repeat (first | (with_reducible assumption) | (with_reducible exact Ext.refl _) | apply Ext.alloc | apply Ext.drewN | apply Ext.drew))) R _ (by omega) (by omega)).mono ?_
      rintro e w1 ⟨rfl, hE⟩
      rw [hc]
      go_wp2_with fail
      go_ret
      exact ⟨rfl, Ext.trans (by repeat (first | (with_reducible assumption) | (with_reducible exact Ext.refl _) | apply Ext.alloc | apply Ext.drewN | apply Ext.drew)) hE⟩
  · have hd0 : decide ((1048576 : Int) < (order.length : Int)) = true := by simp; omega
    go_enter Try.func16, Try.ntmps16
    go_wp2_with fail
    go_ret
    exact ⟨rfl, (by repeat (first | (with_reducible assumption) | (with_reducible exact Ext.refl _) | apply Ext.alloc | apply Ext.drewN | apply Ext.drew))⟩
section
open Go.ChangeShapes Go.WideShapes Go.Deep
set_option maxRecDepth 100000 in
set_option maxHeartbeats 1000000 in
theorem open_ints_arg {H : Type} {enc : TypeId × Value → H} {W : World} {sp : Nat → Bool} {held : Bool} {b0 : Nat} {v : Value} {d : DataW H} {p : List MemPlace} (hv : Value.okWide Try.prog W .any b0 23 v) (h : DataW.Trod enc Try.prog W 0 sp held 23 v d p) :
    ∃ l : List Int, (∃ A c, v = .slice A l.length c ∧ RdInt W A l) ∧ l.length ≤ 9223372036854775807 := by
  obtain ⟨a, n, c, rfl⟩ := okWide_slice Try.underlying23 hv
  obtain ⟨fuel, hf⟩ := h
  obtain ⟨A, k, xs, he, hR, hle, _⟩ := trod_ints (cs := [.slice a n c]) hf
  obtain ⟨rfl, rfl, rfl⟩ : a = A ∧ n = xs.length ∧ c = k := by simpa using he
  exact ⟨xs, ⟨a, c, rfl, hR⟩, hle⟩
end
end Go.Proofs.Ythhkbfjolmgloaa
