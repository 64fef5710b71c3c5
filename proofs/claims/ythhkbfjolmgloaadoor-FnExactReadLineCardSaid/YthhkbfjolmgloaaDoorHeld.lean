/- laws.held* over a line that holds the numbers written. Condition: the line's lists are short. -/
import Derived.Test.YthhkbfjolmgloaaDoorMark
namespace Go.Proofs.YthhkbfjolmgloaaDoor
open Go.RowKit Go.Deep
set_option linter.unusedVariables false
set_option linter.unusedSimpArgs false
set_option maxRecDepth 100000 in
set_option maxHeartbeats 8000000 in
theorem heldInts_rd {w : World} {xs : List Int} {A : Option Addr} {n : Nat} {k : Int} (h : RdInt w A xs) (hs : SeqI k n xs) (hn : n ≤ 1048576) (hk0 : 0 ≤ k) (hk1 : k ≤ 1048576) (c : Nat) :
    Calls Tryd.prog 33 #[.slice A n c, .int .i64 k] w fun e w' => e = .returned (.int .i64 (k + n)) ∧ Ext w w' := by
  have HR := Lib.hid h
  have HS := Lib.hid hs
  clear h hs
  go_enter Tryd.func33, Tryd.ntmps33
  go_wp2_with fail
  go_loopw [1, 5] (fun a j wr => ∃ (jj : Nat), jj ≤ n ∧ j = .int .i64 jj ∧ a = .int .i64 (k + jj) ∧ wr = w) (fun _ j _ => n - (intOf j).toNat)
  case atStart => exact ⟨0, Nat.zero_le _, rfl, by simp, rfl⟩
  case round =>
    obtain ⟨jj, hjj, rfl, rfl, rfl⟩ := hrel
    by_cases hlt : jj < n
    · obtain ⟨b, o, rfl, hb⟩ := HR.out.base (show jj < xs.length by rw [HS.out.1]; exact hlt)
      have hx := HR.out.at_ (HS.out.2 jj hlt)
      have hne : ((k + (jj : Int)) != (k + (jj : Int))) = false := by simp
      go_wp2_with fail
      exact ⟨⟨jj + 1, by omega, by go_num, by simp only [Value.int.injEq, true_and]; omega, by first | rfl | trivial⟩, (by simp [intOf]; omega)⟩
    · obtain rfl : jj = n := by omega
      go_wp2_with fail
      go_ret
      exact ⟨rfl, (by repeat (first | (with_reducible assumption) | (with_reducible exact Ext.refl _) | apply Ext.alloc | apply Ext.drewN | apply Ext.drew))⟩
set_option maxRecDepth 100000 in
set_option maxHeartbeats 8000000 in
theorem heldLegs_rd {w : World} {xs : List Leg} {A : Option Addr} {n : Nat} {k : Int} (h : RdLeg w A xs) (hs : SeqG k n xs) (hn : n ≤ 1048576) (hk0 : 0 ≤ k) (hk1 : k ≤ 1152921504606846976) (c : Nat) :
    Calls Tryd.prog 43 #[.slice A n c, .int .i64 k] w fun e w' => e = .returned (.int .i64 (k + 3 * n)) ∧ Ext w w' := by
  have HR := Lib.hid h
  have HS := Lib.hid hs
  clear h hs
  go_enter Tryd.func43, Tryd.ntmps43
  go_wp2_with fail
  go_loopw [1, 5] (fun a j wr => ∃ (jj : Nat), jj ≤ n ∧ j = .int .i64 jj ∧ a = .int .i64 (k + 3 * jj) ∧ wr = w) (fun _ j _ => n - (intOf j).toNat)
  case atStart => exact ⟨0, Nat.zero_le _, rfl, by simp, rfl⟩
  case round =>
    obtain ⟨jj, hjj, rfl, rfl, rfl⟩ := hrel
    by_cases hlt : jj < n
    · obtain ⟨b, o, rfl, hb⟩ := HR.out.base (show jj < xs.length by rw [HS.out.1]; exact hlt)
      obtain ⟨f0, f1, f2⟩ := HR.out.at_ (HS.out.2 jj hlt)
      simp only at f0 f1 f2
      have hne0 : ((k + 3 * (jj : Int)) != (k + 3 * (jj : Int))) = false := by simp
      have hne1 : ((k + 3 * (jj : Int) + 1) != (k + 3 * (jj : Int) + 1)) = false := by simp
      have hne2 : ((k + 3 * (jj : Int) + 1 + 1) != (k + 3 * (jj : Int) + 1 + 1)) = false := by simp
      go_wp2_with fail
      exact ⟨⟨jj + 1, by omega, by go_num, by simp only [Value.int.injEq, true_and]; omega, by first | rfl | trivial⟩, (by simp [intOf]; omega)⟩
    · obtain rfl : jj = n := by omega
      go_wp2_with fail
      go_ret
      exact ⟨rfl, (by repeat (first | (with_reducible assumption) | (with_reducible exact Ext.refl _) | apply Ext.alloc | apply Ext.drewN | apply Ext.drew))⟩
set_option maxRecDepth 100000 in
set_option maxHeartbeats 8000000 in
theorem heldTrains_rd {w : World} {ts us : List Train} {A : Option Addr} {k : Int} (h : RdTrain w A us) (hm : MkT ts us k ts.length) (hn : ts.length ≤ 5000) (hl : ∀ i, (ts.getD i default).legs.length ≤ 5000) (hk0 : 0 ≤ k) (hk1 : k ≤ 4194304) (c : Nat) :
    Calls Tryd.prog 34 #[.slice A ts.length c, .int .i64 k] w fun e w' => e = .returned (.int .i64 (k + offT ts ts.length)) ∧ Ext w w' := by
  have HR := Lib.hid h
  have HM := Lib.hid hm
  have HL := Lib.hid hl
  clear h hm hl
  go_enter Tryd.func34, Tryd.ntmps34
  go_wp2_with fail
  go_loopw [1, 5] (fun a j wr => ∃ (jj : Nat) (q : Int), jj ≤ ts.length ∧ j = .int .i64 jj ∧ a = .int .i64 q ∧ Hid (q = k + offT ts jj) ∧ Hid (Ext w wr)) (fun _ j _ => ts.length - (intOf j).toNat)
  case atStart => exact ⟨0, k, Nat.zero_le _, rfl, rfl, by unfold Hid; simp [offT], Ext.refl _⟩
  case round =>
    obtain ⟨jj, q, hjj, rfl, rfl, HQ, HX⟩ := hrel
    by_cases hlt : jj < ts.length
    · have hq0 : 0 ≤ q := by rw [HQ.out]; omega
      have hq1 : q ≤ 100000000 := by rw [HQ.out]; have := offT_le HL.out jj; omega
      have hju : jj < us.length := by rw [HM.out.len]; exact hlt
      obtain ⟨b, o, rfl, hb⟩ := HR.out.base hju
      obtain ⟨e0, e1, e2, e3, A4, c4, e4, hR4⟩ := Rd.at_ HR.out (some_getD hju)
      have hmk := HM.out.at_ jj hlt
      rw [← HQ.out] at hmk
      obtain ⟨m, hm⟩ : ∃ m, Hid ((ts.getD jj default).legs.length = m) := ⟨_, rfl⟩
      have hm2 : m ≤ 5000 := by rw [← hm.out]; exact HL.out jj
      rw [hm.out] at hmk
      rw [hmk.frm] at e0
      rw [hmk.ready] at e1
      rw [hmk.due] at e2
      rw [hmk.weight] at e3
      rw [hmk.legs.1] at e4
      have f0 := (HX.out.cells.1 b _ hb).trans e0
      have f1 := (HX.out.cells.1 b _ hb).trans e1
      have f2 := (HX.out.cells.1 b _ hb).trans e2
      have f3 := (HX.out.cells.1 b _ hb).trans e3
      have f4 := (HX.out.cells.1 b _ hb).trans e4
      have hb1 := HX.out.up b hb
      have HG := Lib.hid (hR4.ext HX.out)
      have HK := Lib.hid hmk.legs
      have hne0 : (q != q) = false := by simp
      have hne1 : (q + 1 != q + 1) = false := by simp
      have hne2 : (q + 1 + 1 != q + 1 + 1) = false := by simp
      have hne3 : (q + 1 + 1 + 1 != q + 1 + 1 + 1) = false := by simp
      clear e0 e1 e2 e3 e4 hmk hR4 hju
      go_wp2_with fail
      refine (heldLegs_rd HG.out HK.out (by omega) (by omega) (by omega) c4).mono ?_
      rintro e w5 ⟨rfl, hX5⟩
      have HX5 := Lib.hid (HX.out.trans hX5)
      have hg : decide (q + 1 + 1 + 1 + 1 + 3 * (m : Int) < 0) = false := by rw [decide_eq_false_iff_not]; omega
      clear hX5 f0 f1 f2 f3 f4 hne0 hne1 hne2 hne3
      go_wp2_with fail
      refine ⟨⟨jj + 1, q + 1 + 1 + 1 + 1 + 3 * m, by omega, by go_num, rfl, ?_, HX5.out⟩, (by simp [intOf]; omega)⟩
      unfold Hid
      rw [offT, hm.out, HQ.out]
      omega
    · obtain rfl : jj = ts.length := by omega
      go_wp2_with fail
      go_ret
      exact ⟨ret_i64 HQ.out, HX.out⟩
set_option maxRecDepth 100000 in
set_option maxHeartbeats 8000000 in
theorem heldLine_rd {w : World} {l l' : Line} {v : Value} {k : Int} (h : IsLine w l' v) (hm : MkL l l' k) (hf : Few l) (hk0 : 0 ≤ k) (hk1 : k ≤ 100) :
    Calls Tryd.prog 18 #[v, .int .i64 k] w fun e w' => e = .returned (.int .i64 (endM l k)) ∧ Ext w w' := by
  obtain ⟨A0, c0, A2, c2, rfl, h0, h2⟩ := h
  rw [hm.tracks.1, hm.trains.len]
  have H0 := Lib.hid h0
  have H2 := Lib.hid h2
  have HM := Lib.hid hm
  have HF := Lib.hid hf
  have n0 := hf.1
  have n2 := hf.2.1
  obtain ⟨he0, he1⟩ := endM_bd hf hk0 hk1
  clear h0 h2 hm hf
  generalize l'.gap = gp
  go_enter Tryd.func18, Tryd.ntmps18
  go_wp2_with fail
  refine (heldInts_rd (H0.out.ext (by repeat (first | (with_reducible assumption) | (with_reducible exact Ext.refl _) | apply Ext.alloc | apply Ext.drewN | apply Ext.drew))) HM.out.tracks (by omega) hk0 (by omega) c0).mono ?_
  rintro e w1 ⟨rfl, hE⟩
  have hS := (Lp.start1 w _ _).trans hE
  obtain ⟨k1, k2, k3, k4⟩ := hS.open1
  have hg : decide (k + (l.tracks.length : Int) < 0) = false := by rw [decide_eq_false_iff_not]; omega
  clear hE
  go_wp2_with fail
  refine (heldTrains_rd (H2.out.ext hS.ext) HM.out.trains n2 HF.out.2.2 (by omega) (by omega) c2).mono ?_
  rintro e w2 ⟨rfl, hE⟩
  have hX := Lib.hid (hS.ext.trans hE)
  have hg2 : decide (k + (l.tracks.length : Int) + (offT l.trains l.trains.length : Int) < 0) = false := by rw [decide_eq_false_iff_not]; omega
  clear hE hS k1 k2 k3 k4
  go_wp2_with fail
  go_ret
  exact ⟨rfl, hX.out⟩
set_option maxRecDepth 100000 in
set_option maxHeartbeats 8000000 in
theorem heldTold_rd {w : World} {l l' : Line} {a b g : Value} {k : Int} (h : IsLine w l' (.agg #[a, g, b])) (hm : MkL l l' k) (hf : Few l) (hk0 : 0 ≤ k) (hk1 : k ≤ 100) (c d : Int) :
    Calls Tryd.prog 8 #[.agg #[.int .i64 c, .int .i64 d, a, g, b], .int .i64 k] w fun e w' => e = .returned (.int .i64 (endM l k)) ∧ Ext w w' := by
  have H := Lib.hid h
  have HM := Lib.hid hm
  have HF := Lib.hid hf
  obtain ⟨A0, c0, A2, c2, he, _, _⟩ := h
  simp only [Value.agg.injEq, Array.mk.injEq, List.cons.injEq, and_true] at he
  obtain ⟨rfl, rfl, rfl⟩ := he
  obtain ⟨he0, he1⟩ := endM_bd hf hk0 hk1
  have hg : decide (endM l k < 0) = false := by rw [decide_eq_false_iff_not]; omega
  clear hm hf
  go_enter Tryd.func8, Tryd.ntmps8
  go_wp2_with fail
  refine (heldLine_rd (H.out.ext (by repeat (first | (with_reducible assumption) | (with_reducible exact Ext.refl _) | apply Ext.alloc | apply Ext.drewN | apply Ext.drew))) HM.out HF.out hk0 hk1).mono ?_
  rintro e w1 ⟨rfl, hE⟩
  have hX : Hid (Ext w w1) := Ext.trans (by repeat (first | (with_reducible assumption) | (with_reducible exact Ext.refl _) | apply Ext.alloc | apply Ext.drewN | apply Ext.drew)) hE
  clear hE
  go_wp2_with fail
  go_ret
  exact ⟨rfl, hX.out⟩
end Go.Proofs.YthhkbfjolmgloaaDoor
