/- laws.FnExactSolve answers true, at every line that can be read. No condition. (The walk; the row stands in a text behind.) -/
import Derived.Test.YthhkbfjolmgloaaMHSolveI
import Derived.Test.YthhkbfjolmgloaaML17a
import Derived.Test.YthhkbfjolmgloaaMHLawLineOk
import Derived.Test.YthhkbfjolmgloaaML0a
import Derived.Deep.DeepCutAuto
namespace Go.Proofs.Ythhkbfjolmgloaa
open Go.RowKit
set_option linter.unusedVariables false
set_option linter.unusedSimpArgs false
theorem far3 {b1 b2 b3 lo hi : Nat} {c1 c2 c3 : Array Value} {t1 t2 t3 : TypeId} (h1 : b1 < lo ∨ hi ≤ b1) (h2 : b2 < lo ∨ hi ≤ b2) (h3 : b3 < lo ∨ hi ≤ b3) : ∀ x, x ∈ [(b1, c1, t1), (b2, c2, t2), (b3, c3, t3)] → x.1 < lo ∨ hi ≤ x.1 := by
  intro x hx
  simp only [List.mem_cons, List.not_mem_nil, or_false] at hx
  rcases hx with rfl | rfl | rfl
  · exact h1
  · exact h2
  · exact h3
set_option maxRecDepth 100000 in
set_option maxHeartbeats 8000000 in
theorem lawExactSolve_any {w : World} {l : Line} {u : Value} (hl : IsLine w l u) (R : l.Room) :
    Calls Try.prog 18 #[u] w fun e w' => e = .returned (.bool true) ∧ Ext w w' := by
  have HL := Lib.hid (fun (W : World) (e : Ext w W) => hl.ext e)
  obtain ⟨A0, c0, A2, c2, rfl, h0, h2⟩ := hl
  clear h0 h2
  · by_cases hs : l.size ≤ 1048576
    · have hc : cut 1048576 l.size = 1048576 - l.size := cut_ok (by omega)
      have S := Line.small_of hs
      have hc0 : (0 : Int) ≤ 1048576 - l.size := by omega
      obtain ⟨r, hr⟩ : ∃ r, Hid (bestR (solveR l) = r) := ⟨_, rfl⟩
      obtain ⟨⟨code, at_⟩, p⟩ := r
      have hsm := solveR_small l
      rw [hr.out] at hsm
      obtain ⟨hp5, hrl⟩ := hsm
      simp only [] at hp5 hrl
      have HRL := Lib.hid hrl
      have hcn : cntN (rl p) p.length ≤ 1000000 := by have := cntN_le hrl p.length; omega
      have HLEN : Hid (∀ (i : Nat) (t : List Int), p[i]? = some t → t.length ≤ 1048576) := fun i t ht => by
        have h := hrl i
        unfold rl at h
        rw [List.getD_eq_getElem?_getD, ht] at h
        simp only [Option.getD_some] at h
        omega
      clear hrl
      go_enter Try.func18, Try.ntmps18
      go_wp2_with fail
      refine (szLine_any (HL.out _ (by repeat (first | (with_reducible assumption) | (with_reducible exact Ext.refl _) | apply Ext.alloc | apply Ext.drewN | apply Ext.drew))) R _ (by omega) (by omega)).mono ?_
      rintro e w1 ⟨rfl, hE⟩
      have hS := (Lp.start1 w #[.slice A0 l.tracks.length c0, .int .i64 l.gap, .slice A2 l.trains.length c2] 26).trans hE; clear hE
      obtain ⟨k1, k2, k3, k4⟩ := hS.open1
      rw [hc]
      go_wp2_with fail
      refine (toLine_any (HL.out _ (by repeat (first | (with_reducible exact hS.ext) | (with_reducible assumption) | (with_reducible exact Ext.refl _) | with_reducible apply Ext.alloc | with_reducible apply Ext.drewN | with_reducible apply Ext.drew | with_reducible refine Ext.setCell ?_ (by simp only []; omega) _))) S).mono ?_
      rintro e w2 ⟨u2, rfl, hU, hE⟩
      have hT := hS.trans (Ext.trans (by repeat (first | (with_reducible assumption) | (with_reducible exact Ext.refl _) | apply Ext.alloc | apply Ext.drewN | apply Ext.drew)) hE)
      have HU2 := Lib.hid hU.rd
      clear hU hE k1 k2 k3 k4 hS
      have hS := hT; clear hT
      obtain ⟨k1, k2, k3, k4⟩ := hS.open1
      go_wp2_with fail
      refine (spec_Solve_any (HU2.out.ext (by repeat (first | (with_reducible assumption) | (with_reducible exact Ext.refl _) | apply Ext.alloc | apply Ext.drewN | apply Ext.drew))) hs).mono ?_
      rintro e w4 ⟨⟨AR, cR, gr, vs, rfl, hP⟩, hE⟩
      rw [hr.out] at hP ⊢
      simp only [] at hP
      simp only [bestV]
      have hT := hS.trans (Ext.trans (by repeat (first | (with_reducible assumption) | (with_reducible exact Ext.refl _) | apply Ext.alloc | apply Ext.drewN | apply Ext.drew)) hE)
      have HPS := Lib.hid hP.rd
      clear hE hP k1 k2 k3 k4 hS HU2
      have hS := hT; clear hT
      obtain ⟨k1, k2, k3, k4⟩ := hS.open1
      have c3 : ∀ j, w4.cell? ⟨w.heap.size, j, none⟩ = (#[.slice A0 l.tracks.length c0, .int .i64 l.gap, .slice A2 l.trains.length c2] : Array Value)[j]? := k3
      have c4 := k4
      have hE4 := Lib.hid hS.ext
      have HL4 := Lib.hid (fun (W : World) (e : Ext w4 W) => HL.out W (hE4.out.trans e))
      clear k1 k2 k3 k4 hS HL
      go_wp2_with fail
      refine (toLine_any (HL4.out _ (by repeat (first | (with_reducible assumption) | (with_reducible exact Ext.refl _) | apply Ext.alloc | apply Ext.drewN | apply Ext.drew))) S).mono ?_
      rintro e w5 ⟨u5, rfl, hU, hE⟩
      have hS := (Lp.start1 w4 #[.bool code, .int .i64 at_, .slice AR p.length cR] 44).trans hE
      have HU5 := Lib.hid hU.rd
      have HM5 := Lib.hid hU.mline
      obtain ⟨g0, g2, rfl⟩ := hU.form
      rw [alloc_size] at HM5
      have hl5 : w4.heap.size + 1 ≤ w5.heap.size := by have := hE.size; rw [alloc_size] at this; exact this
      clear hE hU
      have hS5 := hS.newAt (g := w5.heap.size) #[.slice (some ⟨g0, 0, none⟩) l.tracks.length l.tracks.length, .int .i64 l.gap, .slice (some ⟨g2, 0, none⟩) l.trains.length l.trains.length] 33 rfl
      obtain ⟨k1, k2, k3, k4⟩ := hS.open1
      go_wp2_with fail
      refine (impl_Solve_any (HU5.out.ext (by repeat (first | (with_reducible assumption) | (with_reducible exact Ext.refl _) | apply Ext.alloc | apply Ext.drewN | apply Ext.drew))) hs).mono ?_
      rintro e w7 ⟨⟨AR7, cR7, gr7, vs7, rfl, hP⟩, hE⟩
      rw [hr.out] at hP ⊢
      simp only [] at hP
      simp only [bestV]
      have hX : Ext w5 w7 := Ext.trans (by repeat (first | (with_reducible assumption) | (with_reducible exact Ext.refl _) | apply Ext.alloc | apply Ext.drewN | apply Ext.drew)) hE
      have hT := hS5.trans hE
      have HP7 : Hid (PRows w7 (w5.heap.size + 1) p AR7 gr7 vs7) := by rw [alloc_size] at hP; exact hP
      have HU7 := Lib.hid (HU5.out.ext hX)
      have HM7 := Lib.hid (HM5.out.ext hX)
      have hl7 : w5.heap.size + 1 ≤ w7.heap.size := by have := hE.size; rw [alloc_size] at this; exact this
      clear hE hP hX HU5 HM5 k1 k2 k3 k4 hS hS5
      have hS := hT; clear hT
      obtain ⟨k1, k2, k3, k4, k5, k6⟩ := hS.open2
      go_wp2_with fail
      refine (eqBest_same (a := code) (b := at_) (c := cR7) (c' := cR) (HP7.out.rd.ext (by repeat (first | (with_reducible assumption) | (with_reducible exact Ext.refl _) | apply Ext.alloc | apply Ext.drewN | apply Ext.drew))) (HPS.out.ext (by repeat (first | (with_reducible exact hS.ext) | (with_reducible assumption) | (with_reducible exact Ext.refl _) | with_reducible apply Ext.alloc | with_reducible apply Ext.drewN | with_reducible apply Ext.drew | with_reducible refine Ext.setCell ?_ (by simp only []; omega) _))) (by omega) HLEN.out).mono ?_
      rintro e w8 ⟨rfl, hE⟩
      have hT := (hS.newAt (g := w7.heap.size) #[.bool code, .int .i64 at_, .slice AR7 p.length cR7] 44 rfl).trans hE
      have hX : Ext w7 w8 := Ext.trans (by repeat (first | (with_reducible assumption) | (with_reducible exact Ext.refl _) | apply Ext.alloc | apply Ext.drewN | apply Ext.drew)) hE
      have HP8 := Lib.hid (HP7.out.ext hX)
      have HU8 := Lib.hid (HU7.out.ext hX)
      have HM8 := Lib.hid (HM7.out.ext hX)
      have hl8 : w7.heap.size + 1 ≤ w8.heap.size := by have := hE.size; rw [alloc_size] at this; exact this
      have hlP := (HP7.out.within hl7)
      clear hE hX HP7 HU7 HM7 k1 k2 k3 k4 k5 k6 hS
      have hS := hT; clear hT
      obtain ⟨k1, k2, k3, k4, k5, k6, k7, k8⟩ := hS.open3
      go_upto_region 10 with fail
      go_cut [31] (fun s wx => s = .bool false ∧ Ext w8 wx)
      case first =>
        go_region_with (first  | (go_at_call 23; refine (toLine_any (HL4.out _ (by repeat (first | (with_reducible exact hS.ext) | (with_reducible assumption) | (with_reducible exact Ext.refl _) | with_reducible apply Ext.alloc | with_reducible apply Ext.drewN | with_reducible apply Ext.drew | with_reducible refine Ext.setCell ?_ (by simp only []; omega) _))) S).mono ?_; rintro e wa ⟨ua, rfl, hUa, hEa⟩; have hXa : Ext w8 wa := Ext.trans (by repeat (first | (with_reducible assumption) | (with_reducible exact Ext.refl _) | apply Ext.alloc | apply Ext.drewN | apply Ext.drew)) hEa; have hT := hS.trans hXa; obtain ⟨m1, m2, m3, m4, m5, m6, m7, m8⟩ := hT.open3; have HUa := Lib.hid hUa.rd; clear hUa)  | (go_at_call 26; refine (eqLine_same (HU8.out.ext hXa) HUa.out R).mono ?_; rintro e wb ⟨rfl, hEb⟩))
        all_goals
          go_wp2_with fail
          go_meet
          exact ⟨rfl, hXa.trans hEb⟩
      case rest =>
        obtain ⟨rfl, hXb⟩ := hcut
        have HPb := Lib.hid (HP8.out.ext hXb)
        have HMb := Lib.hid (HM8.out.ext hXb)
        have hTb := hS.trans hXb
        clear k1 k2 k3 k4 k5 k6 k7 k8 hS hXb HP8 HU8 HM8
        have hS := hTb; clear hTb
        obtain ⟨k1, k2, k3, k4, k5, k6, k7, k8⟩ := hS.open3
        have hlf : w4.heap.size + 1 ≤ w5.heap.size ∧ w5.heap.size + 1 ≤ w7.heap.size := ⟨hl5, hl7⟩
        go_wp2_with fail
        refine (markLine_any HMb.out S 1 (by omega) (by omega)).mono ?_
        rintro e wf ⟨kf, rfl, hk0, hk1, hMk⟩
        have hT := hS.marked hMk (by omega) (far3 (by omega) (by omega) (by omega))
        have HPf := Lib.hid (HPb.out.marked hMk (by omega))
        clear hMk HPb HMb k1 k2 k3 k4 k5 k6 k7 k8 hS
        have hS := hT; clear hT
        obtain ⟨k1, k2, k3, k4, k5, k6, k7, k8⟩ := hS.open3
        have hdk : decide (kf < 0) = false := by simp; omega
        go_wp2_with fail
        refine (eqBest_same (a := code) (b := at_) (c := cR7) (c' := cR) (HPf.out.rd.ext (by repeat (first | (with_reducible assumption) | (with_reducible exact Ext.refl _) | apply Ext.alloc | apply Ext.drewN | apply Ext.drew))) (HPS.out.ext (by repeat (first | (with_reducible exact hS.ext) | (with_reducible assumption) | (with_reducible exact Ext.refl _) | with_reducible apply Ext.alloc | with_reducible apply Ext.drewN | with_reducible apply Ext.drew | with_reducible refine Ext.setCell ?_ (by simp only []; omega) _))) (by omega) HLEN.out).mono ?_
        rintro e wh ⟨rfl, hE⟩
        have hX : Ext wf wh := Ext.trans (by repeat (first | (with_reducible assumption) | (with_reducible exact Ext.refl _) | apply Ext.alloc | apply Ext.drewN | apply Ext.drew)) hE
        have hT := hS.trans hX
        have HPh := Lib.hid (HPf.out.ext hX)
        clear hE hX HPf k1 k2 k3 k4 k5 k6 k7 k8 hS
        have hS := hT; clear hT
        obtain ⟨k1, k2, k3, k4, k5, k6, k7, k8⟩ := hS.open3
        go_wp2_with fail
        refine (markBest_seq (a := code) (b := at_) (lo := w5.heap.size + 1) (hi := w7.heap.size) (HPh.out.hdr cR7) HPh.out.rows3 HPh.out.apartL hlP (by omega) hcn).mono ?_
        rintro e wi ⟨rfl, hMk, hSq⟩
        have hT := hS.marked hMk (by omega) (far3 (by omega) (by omega) (by omega))
        have HHi := Lib.hid ((HPh.out.hdr cR7).mk hMk (by decide))
        have HSi := Lib.hid hSq
        clear hMk hSq HPh k1 k2 k3 k4 k5 k6 k7 k8 hS
        have hS := hT; clear hT
        obtain ⟨k1, k2, k3, k4, k5, k6, k7, k8⟩ := hS.open3
        have hdc : decide (1 + (cntN (rl p) p.length : Int) < 0) = false := by simp; omega
        have hne : ((1 + (cntN (rl p) p.length : Int)) != (1 + (cntN (rl p) p.length : Int))) = false := by simp
        go_wp2_with fail
        refine (heldBest_seq (a := code) (b := at_) HHi.out HSi.out (by omega) hcn).mono ?_
        rintro e wj ⟨rfl, hE⟩
        have hX : Ext wi wj := Ext.trans (by repeat (first | (with_reducible assumption) | (with_reducible exact Ext.refl _) | apply Ext.alloc | apply Ext.drewN | apply Ext.drew)) hE
        have hT := hS.trans hX
        have HHj := Lib.hid (HHi.out.ext hX)
        have HSj := Lib.hid (HSi.out.ext hX)
        clear hE hX HHi HSi k1 k2 k3 k4 k5 k6 k7 k8 hS
        have hS := hT; clear hT
        obtain ⟨k1, k2, k3, k4, k5, k6, k7, k8⟩ := hS.open3
        go_wp2_with fail
        refine (toLine_any (HL4.out _ (by repeat (first | (with_reducible exact hS.ext) | (with_reducible assumption) | (with_reducible exact Ext.refl _) | with_reducible apply Ext.alloc | with_reducible apply Ext.drewN | with_reducible apply Ext.drew | with_reducible refine Ext.setCell ?_ (by simp only []; omega) _))) S).mono ?_
        rintro e wk ⟨uk, rfl, hU, hE⟩
        have hX : Ext wj wk := Ext.trans (by repeat (first | (with_reducible assumption) | (with_reducible exact Ext.refl _) | apply Ext.alloc | apply Ext.drewN | apply Ext.drew)) hE
        have hT := hS.trans hX
        have HUk := Lib.hid hU.rd
        have HHk := Lib.hid (HHj.out.ext hX)
        have HSk := Lib.hid (HSj.out.ext hX)
        clear hU hE hX HHj HSj k1 k2 k3 k4 k5 k6 k7 k8 hS
        have hS := hT; clear hT
        obtain ⟨k1, k2, k3, k4, k5, k6, k7, k8⟩ := hS.open3
        go_wp2_with fail
        refine (impl_Solve_any (HUk.out.ext (by repeat (first | (with_reducible assumption) | (with_reducible exact Ext.refl _) | apply Ext.alloc | apply Ext.drewN | apply Ext.drew))) hs).mono ?_
        rintro e wm ⟨⟨ARd, cRd, grd, vsd, rfl, hP⟩, hE⟩
        rw [hr.out] at hP ⊢
        simp only [] at hP
        simp only [bestV]
        have hX : Ext wk wm := Ext.trans (by repeat (first | (with_reducible assumption) | (with_reducible exact Ext.refl _) | apply Ext.alloc | apply Ext.drewN | apply Ext.drew)) hE
        have hT := hS.trans hX
        have HPm := Lib.hid hP.rd
        have HHm := Lib.hid (HHk.out.ext hX)
        have HSm := Lib.hid (HSk.out.ext hX)
        clear hP hE hX HHk HSk HUk k1 k2 k3 k4 k5 k6 k7 k8 hS
        have hS := hT; clear hT
        obtain ⟨k1, k2, k3, k4, k5, k6, k7, k8⟩ := hS.open3
        go_wp2_with fail
        refine (eqBest_same (a := code) (b := at_) (c := cRd) (c' := cR) (HPm.out.ext (by repeat (first | (with_reducible assumption) | (with_reducible exact Ext.refl _) | apply Ext.alloc | apply Ext.drewN | apply Ext.drew))) (HPS.out.ext (by repeat (first | (with_reducible exact hS.ext) | (with_reducible assumption) | (with_reducible exact Ext.refl _) | with_reducible apply Ext.alloc | with_reducible apply Ext.drewN | with_reducible apply Ext.drew | with_reducible refine Ext.setCell ?_ (by simp only []; omega) _))) (by omega) HLEN.out).mono ?_
        rintro e wn ⟨rfl, hE⟩
        have hX : Ext wm wn := Ext.trans (by repeat (first | (with_reducible assumption) | (with_reducible exact Ext.refl _) | apply Ext.alloc | apply Ext.drewN | apply Ext.drew)) hE
        have hT := hS.trans hX
        have HHn := Lib.hid (HHm.out.ext hX)
        have HSn := Lib.hid (HSm.out.ext hX)
        clear hE hX HHm HSm HPm k1 k2 k3 k4 k5 k6 k7 k8 hS
        have hS := hT; clear hT
        obtain ⟨k1, k2, k3, k4, k5, k6, k7, k8⟩ := hS.open3
        go_wp2_with fail
        refine (heldBest_seq (a := code) (b := at_) HHn.out HSn.out (by omega) hcn).mono ?_
        rintro e wo ⟨rfl, hE⟩
        have hX : Ext wn wo := Ext.trans (by repeat (first | (with_reducible assumption) | (with_reducible exact Ext.refl _) | apply Ext.alloc | apply Ext.drewN | apply Ext.drew)) hE
        have hT := hE4.out.trans (hS.ext.trans hX)
        clear hE hX HHn HSn k1 k2 k3 k4 k5 k6 k7 k8 hS
        go_wp2_with fail
        go_ret
        exact ⟨rfl, hT⟩
    · have hc : cut 1048576 l.size = -1 := cut_neg (by omega)
      go_enter Try.func18, Try.ntmps18
      go_wp2_with fail
      refine (szLine_any (HL.out _ (by repeat (first | (with_reducible assumption) | (with_reducible exact Ext.refl _) | apply Ext.alloc | apply Ext.drewN | apply Ext.drew))) R _ (by omega) (by omega)).mono ?_
      rintro e w1 ⟨rfl, hE⟩
      rw [hc]
      go_wp2_with fail
      go_ret
      exact ⟨rfl, Ext.trans (by repeat (first | (with_reducible assumption) | (with_reducible exact Ext.refl _) | apply Ext.alloc | apply Ext.drewN | apply Ext.drew)) hE⟩
end Go.Proofs.Ythhkbfjolmgloaa
