/- impl.Check and impl.can answer plain functions. Condition: line and plan hold at most 2^20 values. -/
import Derived.Test.YthhkbfjolmgloaaML6a
import Derived.Test.YthhkbfjolmgloaaMHClos2
import Derived.Test.YthhkbfjolmgloaaMHClos3
namespace Go.Proofs.Ythhkbfjolmgloaa
open Go.RowKit
set_option linter.unusedVariables false
set_option linter.unusedSimpArgs false
set_option maxRecDepth 100000 in
set_option maxHeartbeats 8000000 in
theorem impl_Check_any {w : World} {l : Line} {p : List (List Int)} {u v : Value} (hl : IsLine w l u) (hp : IsPlan w p v) (hs : l.size ≤ 1048576) (hpn : p.length ≤ 1048576) (hpl : ∀ (i : Nat) (t : List Int), p[i]? = some t → t.length ≤ 1048576) :
    Calls Try.prog 32 #[u, v] w fun e w' => e = .returned (clV (checkA l p)) ∧ Ext w w' := by
  have HL := Lib.hid (fun (W : World) (e : Ext w W) => hl.ext e)
  have HP := Lib.hid (fun (W : World) (e : Ext w W) => hp.ext e)
  obtain ⟨A0, c0, A2, c2, rfl, h0, h2⟩ := hl
  obtain ⟨A3, c3, rfl, h3⟩ := hp
  clear h0 h2 h3
  have hs0 := Lib.hid hs; clear hs
  cases h : (right l && shapeOk l p) with
  | false =>
    have hV : Hid (checkA l p = (1, 0, 0, 0)) := by unfold Hid checkA; rw [h]; rfl
    go_enter Try.func32, Try.ntmps32
    go_wp2_with fail
    refine (shaped_any (HL.out _ (by repeat (first | (with_reducible assumption) | (with_reducible exact Ext.refl _) | apply Ext.alloc | apply Ext.drewN | apply Ext.drew))) (HP.out _ (by repeat (first | (with_reducible assumption) | (with_reducible exact Ext.refl _) | apply Ext.alloc | apply Ext.drewN | apply Ext.drew))) hs0.out hpn hpl).mono ?_
    rintro e w1 ⟨rfl, hE⟩
    rw [h]
    have hS := ((Lp.start2 w _ _ _ _).newAt (g := w.heap.size + 1 + 1) #[.int .i64 0, .int .i64 0, .int .i64 0, .int .i64 0] 48 (by simp)).trans hE; clear hE
    obtain ⟨k1, k2, k3, k4, k5, k6, k7, k8⟩ := hS.open3
    have fr := box_frozen (hS.box _ List.mem_cons_self)
    have hSe := hS.ext
    go_wp2_with fail
    exact bodyPost_ret (v := clV (1, 0, 0, 0)) (by simp [results, Try.results32, go_sem, clV, k3, k4]) rfl ⟨by rw [hV.out], (by repeat (first | (with_reducible exact hS.ext) | (with_reducible assumption) | (with_reducible exact Ext.refl _) | with_reducible apply Ext.alloc | with_reducible apply Ext.drewN | with_reducible apply Ext.drew | with_reducible refine Ext.setCell ?_ (by simp only []; omega) _))⟩
  | true =>
    have hO : right l = true ∧ shapeOk l p = true := by simpa using h
    have O := right_iff.1 hO.1
    have F := shapeOk_iff.1 hO.2
    have HC : Hid (checkA l p = checkB l p) := by unfold Hid checkA; rw [h]; rfl
    clear hO
    have HO := Lib.hid O
    have HF := Lib.hid F
    clear O F
    have hmf : ∀ (fn : Fn) (first cap : Array Value) (w : World), (Instr.makeFunc fn first cap).run Try.prog w = .ok (.func fn first cap) w := fun _ _ _ _ => rfl
    go_enter Try.func32, Try.ntmps32
    go_wp2_with fail
    refine (shaped_any (HL.out _ (by repeat (first | (with_reducible assumption) | (with_reducible exact Ext.refl _) | apply Ext.alloc | apply Ext.drewN | apply Ext.drew))) (HP.out _ (by repeat (first | (with_reducible assumption) | (with_reducible exact Ext.refl _) | apply Ext.alloc | apply Ext.drewN | apply Ext.drew))) hs0.out hpn hpl).mono ?_
    rintro e w1 ⟨rfl, hE⟩
    rw [h]
    have hS := ((Lp.start2 w _ _ _ _).newAt (g := w.heap.size + 1 + 1) #[.int .i64 0, .int .i64 0, .int .i64 0, .int .i64 0] 48 (by simp)).trans hE; clear hE
    obtain ⟨k1, k2, k3, k4, k5, k6, k7, k8⟩ := hS.open3
    have b1 := Lib.hid (hS.box (w.heap.size, #[.slice A0 l.tracks.length c0, .int .i64 l.gap, .slice A2 l.trains.length c2], 33) (by simp))
    have b2 := Lib.hid (hS.box (w.heap.size + 1, #[.slice A3 p.length c3], 42) (by simp))
    have HX := Lib.hid hS.ext
    have hK0 := Lib.hid hS
    have H94 := Lib.hid (fun (W : World) (i k : Nat) (e : Ext w1 W) (hi : i < l.trains.length) (hk : k < (l.tr i).legs.length) => c94_any (HL.out W (HX.out.trans e)) (HP.out W (HX.out.trans e)) HO.out HF.out (e.box b1.out) (e.box b2.out) hi hk)
    have H95 := Lib.hid (fun (W : World) (i k : Nat) (e : Ext w1 W) (hi : i < l.trains.length) (hk : k < (l.tr i).legs.length) => c95_any (HL.out W (HX.out.trans e)) (HP.out W (HX.out.trans e)) HO.out HF.out (e.box b1.out) (e.box b2.out) hi hk)
    have H97 := Lib.hid (fun (W : World) (i k : Nat) (e : Ext w1 W) (hi : i < l.trains.length) (hk : k < (l.tr i).legs.length) => c97_any (HL.out W (HX.out.trans e)) (HP.out W (HX.out.trans e)) HO.out HF.out (e.box b1.out) (e.box b2.out) hi hk)
    have HY : Hid (Ext w1 w1) := Ext.refl w1
    go_wp2_with fail
    refine (each94_any (HL.out _ hS.ext) HO.out (cl := cl2 l p) (fun W i k e hi hk => H94.out W i k e hi hk)).mono ?_
    rintro e w2 ⟨rfl, hE⟩
    generalize hc : eachA l (cl2 l p) = c
    obtain ⟨a1, a2, a3, a4⟩ := c
    have HC2 := Lib.hid hc; clear hc
    simp only [clV]
    have hT := hS.trans hE; clear hS k1 k2 k3 k4 k5 k6 k7 k8
    have hX12 := hE; clear hE
    have hS := hT; clear hT
    obtain ⟨k1, k2, k3, k4, k5, k6, k7, k8⟩ := hS.open3
    have fr := box_frozen (hS.box _ List.mem_cons_self)
    have hSe := hS.ext
    by_cases z1 : a1 = 0
    · have z1' : (a1 != 0) = false := by simp [z1]
      have Z1 := Lib.hid z1; clear z1
      go_wp2_with fail
      refine (each95_any (HL.out _ (Ext.trans hSe (by repeat (first | (with_reducible assumption) | (with_reducible exact Ext.refl _) | apply Ext.alloc | apply Ext.drewN | apply Ext.drew)))) HO.out (cl := cl3 l p) (fun W i k e hi hk => H95.out W i k (Ext.trans (Ext.trans hX12 (by repeat (first | (with_reducible assumption) | (with_reducible exact Ext.refl _) | apply Ext.alloc | apply Ext.drewN | apply Ext.drew))) e) hi hk)).mono ?_
      rintro e w3 ⟨rfl, hE⟩
      generalize hc : eachA l (cl3 l p) = c
      obtain ⟨d1, d2, d3, d4⟩ := c
      have HC3 := Lib.hid hc; clear hc
      simp only [clV]
      have hT := (hS.newAt #[.int .i64 a1, .int .i64 a2, .int .i64 a3, .int .i64 a4] 48 rfl).trans hE
      have hX13 : Ext w1 w3 := Ext.trans (Ext.trans hX12 (by repeat (first | (with_reducible assumption) | (with_reducible exact Ext.refl _) | apply Ext.alloc | apply Ext.drewN | apply Ext.drew))) hE
      have hw2 : w.heap.size + 1 + 1 < w2.heap.size := k4
      have n0 : w2.heap.size ≠ w.heap.size := by omega
      have n1 : w2.heap.size ≠ w.heap.size + 1 := by omega
      have n2 : w2.heap.size ≠ w.heap.size + 1 + 1 := by omega
      clear hS k1 k2 k3 k4 k5 k6 k7 k8 fr hSe hE
      have hS := hT; clear hT
      obtain ⟨k1, k2, k3, k4, k5, k6, k7, k8, k9, k10⟩ := hS.open4
      have fr := box_frozen (hS.box _ List.mem_cons_self)
      have fr2 := box_frozen (hS.tail.box _ List.mem_cons_self)
      have hSe := hS.ext
      by_cases z2 : d1 = 0
      · have z2' : (d1 != 0) = false := by simp [z2]
        have Z2 := Lib.hid z2; clear z2
        go_wp2_with fail
        have hX23 : Ext w1 ((((w3.setCell ⟨w2.heap.size, 0, none⟩ (.int .i64 d1)).setCell ⟨w2.heap.size, 1, none⟩ (.int .i64 d2)).setCell ⟨w2.heap.size, 2, none⟩ (.int .i64 d3)).setCell ⟨w2.heap.size, 3, none⟩ (.int .i64 d4)) := by
          have hle : w1.heap.size ≤ w2.heap.size := hX12.size
          exact Ext.setCell (Ext.setCell (Ext.setCell (Ext.setCell hX13 hle _) hle _) hle _) hle _
        refine (each97_any (HL.out _ (Ext.trans HX.out hX23)) HO.out (cl := cl4 l p) (fun W i k e hi hk => H97.out W i k (Ext.trans hX23 e) hi hk)).mono ?_
        rintro e w4 ⟨rfl, hE⟩
        generalize hc : eachA l (cl4 l p) = c
        obtain ⟨f1, f2, f3, f4⟩ := c
        have hV : Hid (checkA l p = (f1, f2, f3, f4)) := by rw [Hid, HC.out, checkB, HC2.out, HC3.out, hc]; simp [Z1.out, Z2.out]
        clear hc
        simp only [clV]
        have hT : Lp w w4 [(w.heap.size + 1 + 1, #[.int .i64 0, .int .i64 0, .int .i64 0, .int .i64 0], 48), (w.heap.size + 1, #[.slice A3 p.length c3], 42), (w.heap.size, #[.slice A0 l.tracks.length c0, .int .i64 l.gap, .slice A2 l.trains.length c2], 33)] := hK0.out.trans (Ext.trans hX23 hE)
        clear hS k1 k2 k3 k4 k5 k6 k7 k8 k9 k10 fr fr2 hSe hE
        have hS := hT; clear hT
        obtain ⟨k1, k2, k3, k4, k5, k6, k7, k8⟩ := hS.open3
        have fr := box_frozen (hS.box _ List.mem_cons_self)
        have hSe := hS.ext
        go_wp2_with fail
        exact bodyPost_ret (v := clV (f1, f2, f3, f4)) (by simp [results, Try.results32, go_sem, clV, k3, k4]) rfl ⟨by rw [hV.out], (by repeat (first | (with_reducible exact hS.ext) | (with_reducible assumption) | (with_reducible exact Ext.refl _) | with_reducible apply Ext.alloc | with_reducible apply Ext.drewN | with_reducible apply Ext.drew | with_reducible refine Ext.setCell ?_ (by simp only []; omega) _))⟩
      · have z2' : (d1 != 0) = true := by simp [z2]
        have hV : Hid (checkA l p = (d1, d2, d3, d4)) := by rw [Hid, HC.out, checkB, HC2.out, HC3.out]; simp [Z1.out, z2]
        clear z2
        go_wp2_with fail
        exact bodyPost_ret (v := clV (d1, d2, d3, d4)) (by simp [results, Try.results32, go_sem, clV, k5, k6, n2]) rfl ⟨by rw [hV.out], (by repeat (first | (with_reducible exact hS.ext) | (with_reducible assumption) | (with_reducible exact Ext.refl _) | with_reducible apply Ext.alloc | with_reducible apply Ext.drewN | with_reducible apply Ext.drew | with_reducible refine Ext.setCell ?_ (by simp only []; omega) _))⟩
    · have z1' : (a1 != 0) = true := by simp [z1]
      have hV : Hid (checkA l p = (a1, a2, a3, a4)) := by rw [Hid, HC.out, checkB, HC2.out]; simp [z1]
      clear z1
      go_wp2_with fail
      exact bodyPost_ret (v := clV (a1, a2, a3, a4)) (by simp [results, Try.results32, go_sem, clV, k3, k4]) rfl ⟨by rw [hV.out], (by repeat (first | (with_reducible exact hS.ext) | (with_reducible assumption) | (with_reducible exact Ext.refl _) | with_reducible apply Ext.alloc | with_reducible apply Ext.drewN | with_reducible apply Ext.drew | with_reducible refine Ext.setCell ?_ (by simp only []; omega) _))⟩
end Go.Proofs.Ythhkbfjolmgloaa
