/- spec.Check answers a plain function. Condition: line and plan hold at most 2^20 values. -/
import Derived.Test.YthhkbfjolmgloaaMHEach
import Derived.Deep.RegionWith
import Derived.Deep.RegionHeld3
import Derived.Deep.DeepCutAuto
namespace Go.Proofs.Ythhkbfjolmgloaa
open Go.RowKit
set_option linter.unusedVariables false
set_option linter.unusedSimpArgs false
theorem eachA_some {l : Line} {cl : Nat → Nat → Cl} {c : Cl} {o : Option Cl} (h : findF (eachF l cl) 0 l.trains.length = o) (ho : o = some c) : eachA l cl = c := by unfold eachA; rw [h, ho]; rfl
theorem checkA_ok {l : Line} {p : List (List Int)} (h : right l = true) (hh : shapeOk l p = true) : checkA l p = checkB l p := by unfold checkA; rw [h, hh]; rfl
/-- A leg that does not come so close. -/
def skipB (l : Line) (p : List (List Int)) (i k j m : Nat) : Bool := decide (i = j ∨ (l.tr i).trk k ≠ (l.tr j).trk m ∨ st p i k < st p j m ∨ (st p j m = st p i k ∧ i < j))
theorem tight_skip {l : Line} {p : List (List Int)} {i k j m : Nat} (h : skipB l p i k j m = true) : tight l p i k j m = false := by
  unfold skipB at h
  unfold tight
  simp only [decide_eq_true_eq] at h
  simp only [decide_eq_false_iff_not]
  omega
theorem tight_of {l : Line} {p : List (List Int)} {i k j m : Nat} (h : skipB l p i k j m = false) : tight l p i k j m = decide (st p i k < st p j m + (l.leg j m).run + l.gap) := by
  unfold skipB at h
  unfold tight
  simp only [decide_eq_false_iff_not] at h
  rw [decide_eq_decide]
  constructor
  · exact fun h => h.2.2.2
  · intro h2; exact ⟨by omega, by omega, by omega, h2⟩
theorem skip_cases {l : Line} {p : List (List Int)} {i k j m : Nat} (hn : ¬ i = j) : ((((l.tr i).trk k != (l.tr j).trk m) = true) ∧ Hid (true = skipB l p i k j m)) ∨ ((((l.tr i).trk k != (l.tr j).trk m) = false) ∧ ((st p i k < st p j m ∧ Hid (true = skipB l p i k j m)) ∨ (¬ st p i k < st p j m ∧ (st p j m == st p i k) = true ∧ i < j ∧ Hid (true = skipB l p i k j m)) ∨ (¬ st p i k < st p j m ∧ (st p j m == st p i k) = true ∧ ¬ i < j ∧ Hid (false = skipB l p i k j m)) ∨ (¬ st p i k < st p j m ∧ (st p j m == st p i k) = false ∧ Hid (false = skipB l p i k j m)))) := by
  unfold Hid skipB
  by_cases c1 : (l.tr i).trk k = (l.tr j).trk m
  · refine Or.inr ⟨by simp [c1], ?_⟩
    by_cases c2 : st p i k < st p j m
    · exact Or.inl ⟨c2, by simp [c2]⟩
    · by_cases c3 : st p j m = st p i k
      · by_cases c4 : i < j
        · exact Or.inr (Or.inl ⟨c2, by simp [c3], c4, by simp [c3, c4]⟩)
        · exact Or.inr (Or.inr (Or.inl ⟨c2, by simp [c3], c4, by simp [c1, c3, c4, hn]⟩))
      · exact Or.inr (Or.inr (Or.inr ⟨c2, by simp [c3], by simp [c1, c2, c3, hn]⟩))
  · exact Or.inl ⟨by simp [c1], by simp [c1]⟩
theorem openS3 {w wr : World} {bs : List (Nat × Array Value × TypeId)} {b1 b2 b3 : Nat} {cs1 cs2 cs3 : Array Value} {t1 t2 t3 : TypeId} (h : Lp w wr ((b1, cs1, t1) :: (b2, cs2, t2) :: (b3, cs3, t3) :: bs)) : Lp w wr ((b1, cs1, t1) :: (b2, cs2, t2) :: (b3, cs3, t3) :: bs) ∧ (∀ g o, g < w.heap.size → wr.cell? ⟨g, o, none⟩ = w.cell? ⟨g, o, none⟩) ∧ (∀ g, g < w.heap.size → g < wr.heap.size) ∧ (∀ j, wr.cell? ⟨b3, j, none⟩ = cs3[j]?) ∧ b3 < wr.heap.size := by
  obtain ⟨k1, k2, k3, k4, k5, k6, k7, k8⟩ := h.open3
  exact ⟨h, k1, k2, k7, k8⟩
set_option maxRecDepth 100000 in
set_option maxHeartbeats 8000000 in
theorem spec_Check_any {w : World} {l : Line} {p : List (List Int)} {u v : Value} (hl : IsLine w l u) (hp : IsPlan w p v) (hs : l.size ≤ 1048576) (hpn : p.length ≤ 1048576) (hpl : ∀ (i : Nat) (t : List Int), p[i]? = some t → t.length ≤ 1048576) :
    Calls Try.prog 43 #[u, v] w fun e w' => e = .returned (clV (checkA l p)) ∧ Ext w w' := by
  have HL := Lib.hid (fun (W : World) (e : Ext w W) => hl.ext e)
  have HP := Lib.hid (fun (W : World) (e : Ext w W) => hp.ext e)
  obtain ⟨A0, c0, A2, c2, rfl, h0, h2⟩ := hl
  obtain ⟨A3, c3, rfl, h3⟩ := hp
  have hln : l.trains.length ≤ 1048576 := by unfold Line.size at hs; omega
  have hs0 := Lib.hid hs; clear hs
  cases h : right l with
  | false =>
    have hV : Hid (checkA l p = (1, 0, 0, 0)) := by simp [Hid, checkA, h]
    go_enter Try.func43, Try.ntmps43
    go_wp2_with fail
    refine (l1ok_any (HL.out _ (by repeat (first | (with_reducible assumption) | (with_reducible exact Ext.refl _) | apply Ext.alloc | apply Ext.drewN | apply Ext.drew))) hs0.out).mono ?_
    rintro e w1 ⟨rfl, hE⟩
    rw [h]
    have hS := ((Lp.start2 w _ _ _ _).newAt (g := w.heap.size + 1 + 1) #[.int .i64 0, .int .i64 0, .int .i64 0, .int .i64 0] 48 (by simp)).trans hE; clear hE
    obtain ⟨k1, k2, k3, k4, k5, k6, k7, k8⟩ := hS.open3
    have fr := box_frozen (hS.box _ List.mem_cons_self)
    go_wp2_with fail
    exact bodyPost_ret (v := clV (1, 0, 0, 0)) (by simp [results, Try.results43, go_sem, clV, k3, k4]) rfl ⟨by rw [hV.out], (by repeat (first | (with_reducible exact hS.ext) | (with_reducible assumption) | (with_reducible exact Ext.refl _) | with_reducible apply Ext.alloc | with_reducible apply Ext.drewN | with_reducible apply Ext.drew | with_reducible refine Ext.setCell ?_ (by simp only []; omega) _))⟩
  | true => cases hh : shapeOk l p with
    | false =>
      have hV : Hid (checkA l p = (1, 0, 0, 0)) := by simp [Hid, checkA, hh]
      go_enter Try.func43, Try.ntmps43
      go_wp2_with fail
      refine (l1ok_any (HL.out _ (by repeat (first | (with_reducible assumption) | (with_reducible exact Ext.refl _) | apply Ext.alloc | apply Ext.drewN | apply Ext.drew))) hs0.out).mono ?_
      rintro e w1 ⟨rfl, hE⟩
      rw [h]
      have hS := ((Lp.start2 w _ _ _ _).newAt (g := w.heap.size + 1 + 1) #[.int .i64 0, .int .i64 0, .int .i64 0, .int .i64 0] 48 (by simp)).trans hE; clear hE
      obtain ⟨k1, k2, k3, k4, k5, k6, k7, k8⟩ := hS.open3
      go_wp2_with fail
      refine (l2shape_any (HL.out _ hS.ext) (HP.out _ hS.ext) hpn hln hpl).mono ?_
      rintro e w2 ⟨rfl, hE⟩
      rw [hh]
      have hT := hS.trans hE; clear hS hE k1 k2 k3 k4 k5 k6 k7 k8
      have hS := hT; clear hT
      obtain ⟨k1, k2, k3, k4, k5, k6, k7, k8⟩ := hS.open3
      have fr := box_frozen (hS.box _ List.mem_cons_self)
      go_wp2_with fail
      exact bodyPost_ret (v := clV (1, 0, 0, 0)) (by simp [results, Try.results43, go_sem, clV, k3, k4]) rfl ⟨by rw [hV.out], (by repeat (first | (with_reducible exact hS.ext) | (with_reducible assumption) | (with_reducible exact Ext.refl _) | with_reducible apply Ext.alloc | with_reducible apply Ext.drewN | with_reducible apply Ext.drew | with_reducible refine Ext.setCell ?_ (by simp only []; omega) _))⟩
    | true =>
      have O := right_iff.1 h
      have F := shapeOk_iff.1 hh
      have HC := Lib.hid (checkA_ok h hh)
      obtain ⟨b0, o0, b2, o2, bl, ol, cl, SL⟩ := seeL O h0 h2
      obtain ⟨b3, o3, br, or', cr, SP⟩ := seeP O F h3
      clear h0 h2 h3
      have HS := Lib.hid SL
      have HQ := Lib.hid SP
      have HB := Lib.hid O.bd
      have HF := Lib.hid F
      have HO := Lib.hid O
      have n5 := HB.out.n5
      rw [F.rows] at HP ⊢
      clear SL SP O
      go_enter Try.func43, Try.ntmps43
      go_wp2_with fail
      refine (l1ok_any (HL.out _ (by repeat (first | (with_reducible assumption) | (with_reducible exact Ext.refl _) | apply Ext.alloc | apply Ext.drewN | apply Ext.drew))) hs0.out).mono ?_
      rintro e w1 ⟨rfl, hE⟩
      rw [h]
      have hS := ((Lp.start2 w _ _ _ _).newAt (g := w.heap.size + 1 + 1) #[.int .i64 0, .int .i64 0, .int .i64 0, .int .i64 0] 48 (by simp)).trans hE; clear hE
      obtain ⟨k1, k2, k3, k4, k5, k6, k7, k8⟩ := hS.open3
      go_wp2_with fail
      refine (l2shape_any (HL.out _ hS.ext) (HP.out _ hS.ext) hpn hln hpl).mono ?_
      rintro e w2 ⟨rfl, hE⟩
      rw [hh]
      have hT := hS.trans hE; clear hS hE k1 k2 k3 k4 k5 k6 k7 k8
      have hS := hT; clear hT
      obtain ⟨k1, k2, k3, k4, k5, k6, k7, k8⟩ := hS.open3
      clear hpn hpl F h hh
      go_wp2_with fail
      clear k1 k2 k3 k4 k5 k6 k7 k8
      go_loopw [29] (fun j wr => ∃ (jj : Nat), jj ≤ l.trains.length ∧ j = .int .i64 jj ∧ Hid (findF (eachF l (cl2 l p)) 0 l.trains.length = findF (eachF l (cl2 l p)) jj l.trains.length) ∧
        Lp w wr [(w.heap.size + 1 + 1, #[.int .i64 0, .int .i64 0, .int .i64 0, .int .i64 0], 48), (w.heap.size + 1, #[.slice A3 l.trains.length c3], 42), (w.heap.size, #[.slice A0 l.tracks.length c0, .int .i64 l.gap, .slice A2 l.trains.length c2], 33)]) (fun j _ => l.trains.length - (intOf j).toNat)
      case atStart => exact ⟨0, Nat.zero_le _, rfl, rfl, hS⟩
      case round =>
        clear hS
        obtain ⟨jj, hjj, rfl, HT, hS⟩ := hrel
        obtain ⟨k1, k2, k3, k4, k5, k6, k7, k8⟩ := hS.open3
        by_cases hlt : jj < l.trains.length
        · obtain ⟨rfl, hb2⟩ := HS.out.base2 (by omega)
          obtain ⟨rfl, hb3⟩ := HQ.out.base (by omega)
          obtain ⟨e0, e1, e2, e3, e4, hbj⟩ := HS.out.train jj hlt
          obtain ⟨r0, hbr⟩ := HQ.out.row jj hlt
          obtain ⟨m10, m11⟩ := HB.out.nl1 jj hlt
          go_wp2_with fail
          clear k1 k2 k3 k4 k5 k6 k7 k8
          go_loopw [38] (fun j wi => ∃ (m : Nat), m ≤ (l.tr jj).legs.length ∧ j = .int .i64 m ∧ Hid (eachF l (cl2 l p) jj = findF (fun k => if (cl2 l p jj k).1 ≠ 0 then some (cl2 l p jj k) else none) m (l.tr jj).legs.length) ∧
            Lp w wi [(w.heap.size + 1 + 1, #[.int .i64 0, .int .i64 0, .int .i64 0, .int .i64 0], 48), (w.heap.size + 1, #[.slice (some ⟨b3, o3, none⟩) l.trains.length c3], 42), (w.heap.size, #[.slice A0 l.tracks.length c0, .int .i64 l.gap, .slice (some ⟨b2, o2, none⟩) l.trains.length c2], 33)]) (fun j _ => (l.tr jj).legs.length - (intOf j).toNat)
          case atStart => exact ⟨0, Nat.zero_le _, rfl, rfl, hS⟩
          case round =>
            clear hS
            obtain ⟨m, hm, rfl, HU, hS⟩ := hrel
            obtain ⟨k1, k2, k3, k4, k5, k6, k7, k8⟩ := hS.open3
            by_cases hlm : m < (l.tr jj).legs.length
            · have s1 := HQ.out.st jj m hlt hlm
              have fr := box_frozen (hS.box _ List.mem_cons_self)
              have hSe := hS.ext
              by_cases hb : st p jj m < readyT l p jj m
              · have hcl : Hid (cl2 l p jj m = ((2, (jj : Int), (m : Int), 0) : Cl)) := by simp [Hid, cl2, early, hb]
                have HE := Lib.hid (findF_hit (fun k => if (cl2 l p jj k).1 ≠ 0 then some (cl2 l p jj k) else none) (b := cl2 l p jj m) hlm (by simp [hcl.out]))
                have HA : Hid (eachA l (cl2 l p) = ((2, (jj : Int), (m : Int), 0) : Cl)) := eachA_some HT.out ((findF_hit _ hlt (HU.out.trans HE.out)).trans (by rw [hcl.out]))
                have hV : Hid (checkA l p = ((2, (jj : Int), (m : Int), 0) : Cl)) := by rw [Hid, HC.out, checkB, HA.out]; rfl
                go_wp2_with fail
                refine (l2ready_any (HL.out _ (by repeat (first | (with_reducible exact hS.ext) | (with_reducible assumption) | (with_reducible exact Ext.refl _) | with_reducible apply Ext.alloc | with_reducible apply Ext.drewN | with_reducible apply Ext.drew | with_reducible refine Ext.setCell ?_ (by simp only []; omega) _))) (HP.out _ (by repeat (first | (with_reducible exact hS.ext) | (with_reducible assumption) | (with_reducible exact Ext.refl _) | with_reducible apply Ext.alloc | with_reducible apply Ext.drewN | with_reducible apply Ext.drew | with_reducible refine Ext.setCell ?_ (by simp only []; omega) _))) HO.out HF.out hlt hlm).mono ?_
                rintro e w4 ⟨rfl, hE⟩
                have hT := hS.trans hE; clear hS hE k1 k2 k3 k4 k5 k6 k7 k8 fr hSe
                have hS := hT; clear hT
                obtain ⟨k1, k2, k3, k4, k5, k6, k7, k8⟩ := hS.open3
                have fr := box_frozen (hS.box _ List.mem_cons_self)
                have hSe := hS.ext
                go_wp2_with fail
                exact bodyPost_ret (v := clV (2, jj, m, 0)) (by simp [results, Try.results43, go_sem, clV, k3, k4]) rfl ⟨by rw [hV.out], (by repeat (first | (with_reducible exact hS.ext) | (with_reducible assumption) | (with_reducible exact Ext.refl _) | with_reducible apply Ext.alloc | with_reducible apply Ext.drewN | with_reducible apply Ext.drew | with_reducible refine Ext.setCell ?_ (by simp only []; omega) _))⟩
              · have hcl : Hid (cl2 l p jj m = ((0, 0, 0, 0) : Cl)) := by simp [Hid, cl2, early, hb]
                have HE := Lib.hid (findF_skip (fun k => if (cl2 l p jj k).1 ≠ 0 then some (cl2 l p jj k) else none) hlm (by simp [hcl.out]))
                go_wp2_with fail
                refine (l2ready_any (HL.out _ (by repeat (first | (with_reducible exact hS.ext) | (with_reducible assumption) | (with_reducible exact Ext.refl _) | with_reducible apply Ext.alloc | with_reducible apply Ext.drewN | with_reducible apply Ext.drew | with_reducible refine Ext.setCell ?_ (by simp only []; omega) _))) (HP.out _ (by repeat (first | (with_reducible exact hS.ext) | (with_reducible assumption) | (with_reducible exact Ext.refl _) | with_reducible apply Ext.alloc | with_reducible apply Ext.drewN | with_reducible apply Ext.drew | with_reducible refine Ext.setCell ?_ (by simp only []; omega) _))) HO.out HF.out hlt hlm).mono ?_
                rintro e w4 ⟨rfl, hE⟩
                have hT := hS.trans hE; clear hS hE k1 k2 k3 k4 k5 k6 k7 k8 fr hSe
                have hS := hT; clear hT
                obtain ⟨k1, k2, k3, k4, k5, k6, k7, k8⟩ := hS.open3
                go_wp2_with fail
                exact ⟨⟨m + 1, by omega, by go_num, HU.out.trans HE.out, hS⟩, (by simp [intOf]; omega)⟩
            · have HE := Lib.hid (findF_end (fun k => if (cl2 l p jj k).1 ≠ 0 then some (cl2 l p jj k) else none) (i := m) (n := (l.tr jj).legs.length) (by omega))
              go_wp2_with fail
              exact ⟨⟨jj + 1, by omega, by go_num, by rw [HT.out, findF_skip _ hlt (by rw [HU.out, HE.out])]; rfl, hS⟩, (by simp [intOf]; omega)⟩
        · have HE := Lib.hid (findF_end (eachF l (cl2 l p)) (i := jj) (n := l.trains.length) (by omega))
          have H2 : Hid (eachA l (cl2 l p) = (0, 0, 0, 0)) := by unfold Hid eachA; rw [HT.out, HE.out]; rfl
          clear HT HE
          go_wp2_with fail
          clear k1 k2 k3 k4 k5 k6 k7 k8
          go_loopw [58] (fun j wr => ∃ (jj : Nat), jj ≤ l.trains.length ∧ j = .int .i64 jj ∧ Hid (findF (eachF l (cl3 l p)) 0 l.trains.length = findF (eachF l (cl3 l p)) jj l.trains.length) ∧
            Lp w wr [(w.heap.size + 1 + 1, #[.int .i64 0, .int .i64 0, .int .i64 0, .int .i64 0], 48), (w.heap.size + 1, #[.slice A3 l.trains.length c3], 42), (w.heap.size, #[.slice A0 l.tracks.length c0, .int .i64 l.gap, .slice A2 l.trains.length c2], 33)]) (fun j _ => l.trains.length - (intOf j).toNat)
          case atStart => exact ⟨0, Nat.zero_le _, rfl, rfl, hS⟩
          case round =>
            clear hS
            obtain ⟨jj, hjj, rfl, HT, hS⟩ := hrel
            obtain ⟨k1, k2, k3, k4, k5, k6, k7, k8⟩ := hS.open3
            by_cases hlt : jj < l.trains.length
            · obtain ⟨rfl, hb2⟩ := HS.out.base2 (by omega)
              obtain ⟨rfl, hb3⟩ := HQ.out.base (by omega)
              obtain ⟨e0, e1, e2, e3, e4, hbj⟩ := HS.out.train jj hlt
              obtain ⟨r0, hbr⟩ := HQ.out.row jj hlt
              obtain ⟨m10, m11⟩ := HB.out.nl1 jj hlt
              go_wp2_with fail
              clear k1 k2 k3 k4 k5 k6 k7 k8
              go_loopw [67] (fun j wi => ∃ (m : Nat), m ≤ (l.tr jj).legs.length ∧ j = .int .i64 m ∧ Hid (eachF l (cl3 l p) jj = findF (fun k => if (cl3 l p jj k).1 ≠ 0 then some (cl3 l p jj k) else none) m (l.tr jj).legs.length) ∧
                Lp w wi [(w.heap.size + 1 + 1, #[.int .i64 0, .int .i64 0, .int .i64 0, .int .i64 0], 48), (w.heap.size + 1, #[.slice (some ⟨b3, o3, none⟩) l.trains.length c3], 42), (w.heap.size, #[.slice A0 l.tracks.length c0, .int .i64 l.gap, .slice (some ⟨b2, o2, none⟩) l.trains.length c2], 33)]) (fun j _ => (l.tr jj).legs.length - (intOf j).toNat)
              case atStart => exact ⟨0, Nat.zero_le _, rfl, rfl, hS⟩
              case round =>
                clear hS
                obtain ⟨m, hm, rfl, HU, hS⟩ := hrel
                obtain ⟨k1, k2, k3, k4, k5, k6, k7, k8⟩ := hS.open3
                by_cases hlm : m < (l.tr jj).legs.length
                · have s1 := HQ.out.st jj m hlt hlm
                  have HI := Lib.hid (fun (W : World) (e : Ext w W) => (HS.out.isTrain hlt).ext e)
                  go_wp2_with fail
                  clear k1 k2 k3 k4 k5 k6 k7 k8
                  clear e0 e1 e2 e3 e4 r0
                  go_loopw [75] (fun j wi => ∃ (ja : Nat), ja ≤ l.trains.length ∧ j = .int .i64 ja ∧ Hid (hit l p jj m = findF (hitF l p jj m) ja l.trains.length) ∧
                    Lp w wi [(w.heap.size + 1 + 1, #[.int .i64 0, .int .i64 0, .int .i64 0, .int .i64 0], 48), (w.heap.size + 1, #[.slice (some ⟨b3, o3, none⟩) l.trains.length c3], 42), (w.heap.size, #[.slice A0 l.tracks.length c0, .int .i64 l.gap, .slice (some ⟨b2, o2, none⟩) l.trains.length c2], 33)]) (fun j _ => l.trains.length - (intOf j).toNat)
                  case atStart => exact ⟨0, Nat.zero_le _, rfl, rfl, hS⟩
                  case round =>
                    clear hS
                    obtain ⟨ja, hja, rfl, HV, hS⟩ := hrel
                    obtain ⟨k1, k2, k3, k4, k5, k6, k7, k8⟩ := hS.open3
                    by_cases hla : ja < l.trains.length
                    · obtain ⟨a0, a1, a2, a3, a4, hba⟩ := HS.out.train ja hla
                      obtain ⟨q0, hbq⟩ := HQ.out.row ja hla
                      obtain ⟨n10, n11⟩ := HB.out.nl1 ja hla
                      have HJ := Lib.hid (fun (W : World) (e : Ext w W) => (HS.out.isTrain hla).ext e)
                      go_wp2_with fail
                      clear k1 k2 k3 k4 k5 k6 k7 k8
                      go_loopw [84] (fun j wi => ∃ (mb : Nat), mb ≤ (l.tr ja).legs.length ∧ j = .int .i64 mb ∧ Hid (hitF l p jj m ja = findF (fun b => if tight l p jj m ja b then some ja else none) mb (l.tr ja).legs.length) ∧
                        Lp w wi [(w.heap.size + 1 + 1, #[.int .i64 0, .int .i64 0, .int .i64 0, .int .i64 0], 48), (w.heap.size + 1, #[.slice (some ⟨b3, o3, none⟩) l.trains.length c3], 42), (w.heap.size, #[.slice A0 l.tracks.length c0, .int .i64 l.gap, .slice (some ⟨b2, o2, none⟩) l.trains.length c2], 33)]) (fun j _ => (l.tr ja).legs.length - (intOf j).toNat)
                      case atStart => exact ⟨0, Nat.zero_le _, rfl, rfl, hS⟩
                      case round =>
                        clear hS
                        obtain ⟨mb, hmb, rfl, HW, hS⟩ := hrel
                        obtain ⟨k1, k2, k3, k4, k5, k6, k7, k8⟩ := hS.open3
                        by_cases hlb : mb < (l.tr ja).legs.length
                        · obtain ⟨f0, f1, f2⟩ := HS.out.leg ja mb hla hlb
                          have s2 := HQ.out.st ja mb hla hlb
                          obtain ⟨z3, z4⟩ := HF.out.bd hla hlb
                          obtain ⟨_, _, y1, y2, _, _⟩ := HB.out.leg ja mb hla hlb
                          obtain ⟨y3, y4⟩ := HB.out.gap
                          obtain ⟨g0, g1, g2, g3, g4, hbg⟩ := HS.out.train jj hlt
                          go_upto_region 25 with fail
                          go_cut [123] (fun s wx => ∃ q : Bool, s = .bool q ∧ Hid (q = skipB l p jj m ja mb) ∧ Lp w wx [(w.heap.size + 1 + 1, #[.int .i64 0, .int .i64 0, .int .i64 0, .int .i64 0], 48), (w.heap.size + 1, #[.slice (some ⟨b3, o3, none⟩) l.trains.length c3], 42), (w.heap.size, #[.slice A0 l.tracks.length c0, .int .i64 l.gap, .slice (some ⟨b2, o2, none⟩) l.trains.length c2], 33)])
                          case first =>
                            by_cases c0 : jj = ja
                            · have c0' : ((jj : Int) == ja) = true := by simp [c0]
                              have hq : Hid (true = skipB l p jj m ja mb) := by simp [Hid, skipB, c0]
                              clear c0
                              go_quiet (fail)
                              all_goals
                                go_wp2_with fail
                                go_meet
                                exact ⟨true, rfl, hq, (by repeat (first | (with_reducible exact hS) | apply Lp.alloc | apply Lp.drewN | apply Lp.drew))⟩
                            · have c0' : ((jj : Int) == ja) = false := by simp; omega
                              have HN := Lib.hid c0; clear c0
                              rcases (skip_cases (l := l) (p := p) (k := m) (m := mb) HN.out) with ⟨d1, hq⟩ | ⟨d1, ⟨d2, hq⟩ | ⟨d2, d3, d4, hq⟩ | ⟨d2, d3, d4, hq⟩ | ⟨d2, d3, hq⟩⟩
                              all_goals
                                clear k1 k2 k3 k4 k5 k6 k7 k8
                                have hu : undef = Value.tuple #[] := rfl
                                refine wp_region_noPanic ?_
                                first
                                  | go_region_held (fun W => Lp w W [(w.heap.size + 1 + 1, #[.int .i64 0, .int .i64 0, .int .i64 0, .int .i64 0], 48), (w.heap.size + 1, #[.slice (some ⟨b3, o3, none⟩) l.trains.length c3], 42), (w.heap.size, #[.slice A0 l.tracks.length c0, .int .i64 l.gap, .slice (some ⟨b2, o2, none⟩) l.trains.length c2], 33)] ∧ (∀ g o, g < w.heap.size → W.cell? ⟨g, o, none⟩ = w.cell? ⟨g, o, none⟩) ∧ (∀ g, g < w.heap.size → g < W.heap.size) ∧ (∀ j, W.cell? ⟨w.heap.size, j, none⟩ = (#[.slice A0 l.tracks.length c0, .int .i64 l.gap, .slice (some ⟨b2, o2, none⟩) l.trains.length c2] : Array Value)[j]?) ∧ w.heap.size < W.heap.size) (first | assumption | exact openS3 hS.drew | exact openS3 (Lp.trans (And.left (by assumption)) (by assumption))) (first  | (go_at_call 110; have hX := Lp.ext (And.left (by assumption : Lp w _ _ ∧ _)); with_reducible refine (l2track_any (HI.out _ hX) m11 hlm).mono ?_; rintro e w5 ⟨rfl, hE5⟩)  | (go_at_call 110; have hX := Lp.ext (And.left (by assumption : Lp w _ _ ∧ _)); with_reducible refine (l2track_any (HJ.out _ hX) n11 hlb).mono ?_; rintro e w6 ⟨rfl, hE6⟩))
                                  | fail
                                all_goals
                                  refine NoPanic.normal ?_
                                  go_wp2_with fail
                                  go_meet
                                  exact ⟨_, rfl, by first | exact hq | (unfold Hid; rw [← hq.out]; simp [d2]), And.left (by assumption)⟩
                          case rest =>
                            obtain ⟨q, rfl, hq, hT⟩ := hcut
                            clear k1 k2 k3 k4 k5 k6 k7 k8 hS
                            have hS := hT; clear hT
                            obtain ⟨k1, k2, k3, k4, k5, k6, k7, k8⟩ := hS.open3
                            have fr := box_frozen (hS.box _ List.mem_cons_self)
                            have hSe := hS.ext
                            cases q with
                            | true =>
                              have hv : Hid (tight l p jj m ja mb = false) := tight_skip hq.out.symm
                              have HE := Lib.hid (findF_skip (fun b => if tight l p jj m ja b then some ja else none) hlb (by simp [hv.out]))
                              go_wp2_with fail
                              exact ⟨⟨mb + 1, by omega, by go_num, HW.out.trans HE.out, hS⟩, (by simp [intOf]; omega)⟩
                            | false =>
                              by_cases c5 : st p jj m < st p ja mb + (l.leg ja mb).run + l.gap
                              · have hv : Hid (tight l p jj m ja mb = true) := by rw [Hid, tight_of hq.out.symm]; simp [c5]
                                have HE := Lib.hid (findF_hit (fun b => if tight l p jj m ja b then some ja else none) (b := ja) hlb (by simp [hv.out]))
                                have hh : Hid (hit l p jj m = some ja) := HV.out.trans (findF_hit _ hla (HW.out.trans HE.out))
                                have hcl : Hid (cl3 l p jj m = ((3, (jj : Int), (m : Int), (ja : Int)) : Cl)) := by unfold Hid cl3; rw [hh.out]
                                have HE2 := Lib.hid (findF_hit (fun k => if (cl3 l p jj k).1 ≠ 0 then some (cl3 l p jj k) else none) (b := cl3 l p jj m) hlm (by simp [hcl.out]))
                                have HA : Hid (eachA l (cl3 l p) = ((3, (jj : Int), (m : Int), (ja : Int)) : Cl)) := eachA_some HT.out ((findF_hit _ hlt (HU.out.trans HE2.out)).trans (by rw [hcl.out]))
                                have hV : Hid (checkA l p = ((3, (jj : Int), (m : Int), (ja : Int)) : Cl)) := by rw [Hid, HC.out, checkB, H2.out, HA.out]; rfl
                                go_wp2_with fail
                                go_quiet (fail)
                                go_wp2_with fail
                                exact bodyPost_ret (v := clV (3, jj, m, ja)) (by simp [results, Try.results43, go_sem, clV, k3, k4]) rfl ⟨by rw [hV.out], (by repeat (first | (with_reducible exact hS.ext) | (with_reducible assumption) | (with_reducible exact Ext.refl _) | with_reducible apply Ext.alloc | with_reducible apply Ext.drewN | with_reducible apply Ext.drew | with_reducible refine Ext.setCell ?_ (by simp only []; omega) _))⟩
                              · have hv : Hid (tight l p jj m ja mb = false) := by rw [Hid, tight_of hq.out.symm]; simp [c5]
                                have HE := Lib.hid (findF_skip (fun b => if tight l p jj m ja b then some ja else none) hlb (by simp [hv.out]))
                                go_wp2_with fail
                                go_quiet (fail)
                                go_wp2_with fail
                                exact ⟨⟨mb + 1, by omega, by go_num, HW.out.trans HE.out, (by repeat (first | (with_reducible exact hS) | apply Lp.alloc | apply Lp.drewN | apply Lp.drew))⟩, (by simp [intOf]; omega)⟩
                        · have HE := Lib.hid (findF_end (fun b => if tight l p jj m ja b then some ja else none) (i := mb) (n := (l.tr ja).legs.length) (by omega))
                          go_wp2_with fail
                          exact ⟨⟨ja + 1, by omega, by go_num, by rw [HV.out, findF_skip _ hla (by rw [HW.out, HE.out])]; rfl, hS⟩, (by simp [intOf]; omega)⟩
                    · have HE := Lib.hid (findF_end (hitF l p jj m) (i := ja) (n := l.trains.length) (by omega))
                      have hcl : Hid (cl3 l p jj m = ((0, 0, 0, 0) : Cl)) := by unfold Hid cl3; rw [HV.out, HE.out]
                      have HE2 := Lib.hid (findF_skip (fun k => if (cl3 l p jj k).1 ≠ 0 then some (cl3 l p jj k) else none) hlm (by simp [hcl.out]))
                      go_wp2_with fail
                      exact ⟨⟨m + 1, by omega, by go_num, HU.out.trans HE2.out, hS⟩, (by simp [intOf]; omega)⟩
                · have HE := Lib.hid (findF_end (fun k => if (cl3 l p jj k).1 ≠ 0 then some (cl3 l p jj k) else none) (i := m) (n := (l.tr jj).legs.length) (by omega))
                  go_wp2_with fail
                  exact ⟨⟨jj + 1, by omega, by go_num, by rw [HT.out, findF_skip _ hlt (by rw [HU.out, HE.out])]; rfl, hS⟩, (by simp [intOf]; omega)⟩
            · have HE := Lib.hid (findF_end (eachF l (cl3 l p)) (i := jj) (n := l.trains.length) (by omega))
              have H3 : Hid (eachA l (cl3 l p) = (0, 0, 0, 0)) := by unfold Hid eachA; rw [HT.out, HE.out]; rfl
              clear HT HE
              go_wp2_with fail
              clear k1 k2 k3 k4 k5 k6 k7 k8
              go_loopw [152] (fun j wr => ∃ (jj : Nat), jj ≤ l.trains.length ∧ j = .int .i64 jj ∧ Hid (findF (eachF l (cl4 l p)) 0 l.trains.length = findF (eachF l (cl4 l p)) jj l.trains.length) ∧
                Lp w wr [(w.heap.size + 1 + 1, #[.int .i64 0, .int .i64 0, .int .i64 0, .int .i64 0], 48), (w.heap.size + 1, #[.slice A3 l.trains.length c3], 42), (w.heap.size, #[.slice A0 l.tracks.length c0, .int .i64 l.gap, .slice A2 l.trains.length c2], 33)]) (fun j _ => l.trains.length - (intOf j).toNat)
              case atStart => exact ⟨0, Nat.zero_le _, rfl, rfl, hS⟩
              case round =>
                clear hS
                obtain ⟨jj, hjj, rfl, HT, hS⟩ := hrel
                obtain ⟨k1, k2, k3, k4, k5, k6, k7, k8⟩ := hS.open3
                by_cases hlt : jj < l.trains.length
                · obtain ⟨rfl, hb2⟩ := HS.out.base2 (by omega)
                  obtain ⟨rfl, hb3⟩ := HQ.out.base (by omega)
                  obtain ⟨e0, e1, e2, e3, e4, hbj⟩ := HS.out.train jj hlt
                  obtain ⟨r0, hbr⟩ := HQ.out.row jj hlt
                  obtain ⟨m10, m11⟩ := HB.out.nl1 jj hlt
                  go_wp2_with fail
                  clear k1 k2 k3 k4 k5 k6 k7 k8
                  go_loopw [161] (fun j wi => ∃ (m : Nat), m ≤ (l.tr jj).legs.length ∧ j = .int .i64 m ∧ Hid (eachF l (cl4 l p) jj = findF (fun k => if (cl4 l p jj k).1 ≠ 0 then some (cl4 l p jj k) else none) m (l.tr jj).legs.length) ∧
                    Lp w wi [(w.heap.size + 1 + 1, #[.int .i64 0, .int .i64 0, .int .i64 0, .int .i64 0], 48), (w.heap.size + 1, #[.slice (some ⟨b3, o3, none⟩) l.trains.length c3], 42), (w.heap.size, #[.slice A0 l.tracks.length c0, .int .i64 l.gap, .slice (some ⟨b2, o2, none⟩) l.trains.length c2], 33)]) (fun j _ => (l.tr jj).legs.length - (intOf j).toNat)
                  case atStart => exact ⟨0, Nat.zero_le _, rfl, rfl, hS⟩
                  case round =>
                    clear hS
                    obtain ⟨m, hm, rfl, HU, hS⟩ := hrel
                    obtain ⟨k1, k2, k3, k4, k5, k6, k7, k8⟩ := hS.open3
                    by_cases hlm : m < (l.tr jj).legs.length
                    · have fr := box_frozen (hS.box _ List.mem_cons_self)
                      have hSe := hS.ext
                      cases hb : full l p jj m with
                      | true =>
                        have hcl : Hid (cl4 l p jj m = ((4, (jj : Int), (m : Int), 0) : Cl)) := by simp [Hid, cl4, hb]
                        have HE := Lib.hid (findF_hit (fun k => if (cl4 l p jj k).1 ≠ 0 then some (cl4 l p jj k) else none) (b := cl4 l p jj m) hlm (by simp [hcl.out]))
                        have HA : Hid (eachA l (cl4 l p) = ((4, (jj : Int), (m : Int), 0) : Cl)) := eachA_some HT.out ((findF_hit _ hlt (HU.out.trans HE.out)).trans (by rw [hcl.out]))
                        have hV : Hid (checkA l p = ((4, (jj : Int), (m : Int), 0) : Cl)) := by rw [Hid, HC.out, checkB, H2.out, H3.out, HA.out]; rfl
                        go_wp2_with fail
                        refine (l2full_any (HL.out _ (by repeat (first | (with_reducible exact hS.ext) | (with_reducible assumption) | (with_reducible exact Ext.refl _) | with_reducible apply Ext.alloc | with_reducible apply Ext.drewN | with_reducible apply Ext.drew | with_reducible refine Ext.setCell ?_ (by simp only []; omega) _))) (HP.out _ (by repeat (first | (with_reducible exact hS.ext) | (with_reducible assumption) | (with_reducible exact Ext.refl _) | with_reducible apply Ext.alloc | with_reducible apply Ext.drewN | with_reducible apply Ext.drew | with_reducible refine Ext.setCell ?_ (by simp only []; omega) _))) HO.out HF.out hlt hlm).mono ?_
                        rintro e w4 ⟨rfl, hE⟩
                        rw [hb]
                        have hT := hS.trans hE; clear hS hE k1 k2 k3 k4 k5 k6 k7 k8 fr hSe
                        have hS := hT; clear hT
                        obtain ⟨k1, k2, k3, k4, k5, k6, k7, k8⟩ := hS.open3
                        have fr := box_frozen (hS.box _ List.mem_cons_self)
                        have hSe := hS.ext
                        go_wp2_with fail
                        exact bodyPost_ret (v := clV (4, jj, m, 0)) (by simp [results, Try.results43, go_sem, clV, k3, k4]) rfl ⟨by rw [hV.out], (by repeat (first | (with_reducible exact hS.ext) | (with_reducible assumption) | (with_reducible exact Ext.refl _) | with_reducible apply Ext.alloc | with_reducible apply Ext.drewN | with_reducible apply Ext.drew | with_reducible refine Ext.setCell ?_ (by simp only []; omega) _))⟩
                      | false =>
                        have hcl : Hid (cl4 l p jj m = ((0, 0, 0, 0) : Cl)) := by simp [Hid, cl4, hb]
                        have HE := Lib.hid (findF_skip (fun k => if (cl4 l p jj k).1 ≠ 0 then some (cl4 l p jj k) else none) hlm (by simp [hcl.out]))
                        go_wp2_with fail
                        refine (l2full_any (HL.out _ (by repeat (first | (with_reducible exact hS.ext) | (with_reducible assumption) | (with_reducible exact Ext.refl _) | with_reducible apply Ext.alloc | with_reducible apply Ext.drewN | with_reducible apply Ext.drew | with_reducible refine Ext.setCell ?_ (by simp only []; omega) _))) (HP.out _ (by repeat (first | (with_reducible exact hS.ext) | (with_reducible assumption) | (with_reducible exact Ext.refl _) | with_reducible apply Ext.alloc | with_reducible apply Ext.drewN | with_reducible apply Ext.drew | with_reducible refine Ext.setCell ?_ (by simp only []; omega) _))) HO.out HF.out hlt hlm).mono ?_
                        rintro e w4 ⟨rfl, hE⟩
                        rw [hb]
                        have hT := hS.trans hE; clear hS hE k1 k2 k3 k4 k5 k6 k7 k8 fr hSe
                        have hS := hT; clear hT
                        obtain ⟨k1, k2, k3, k4, k5, k6, k7, k8⟩ := hS.open3
                        go_wp2_with fail
                        exact ⟨⟨m + 1, by omega, by go_num, HU.out.trans HE.out, hS⟩, (by simp [intOf]; omega)⟩
                    · have HE := Lib.hid (findF_end (fun k => if (cl4 l p jj k).1 ≠ 0 then some (cl4 l p jj k) else none) (i := m) (n := (l.tr jj).legs.length) (by omega))
                      go_wp2_with fail
                      exact ⟨⟨jj + 1, by omega, by go_num, by rw [HT.out, findF_skip _ hlt (by rw [HU.out, HE.out])]; rfl, hS⟩, (by simp [intOf]; omega)⟩
                · have HE := Lib.hid (findF_end (eachF l (cl4 l p)) (i := jj) (n := l.trains.length) (by omega))
                  have H4 : Hid (eachA l (cl4 l p) = (0, 0, 0, 0)) := by unfold Hid eachA; rw [HT.out, HE.out]; rfl
                  clear HT HE
                  have hV : Hid (checkA l p = ((0, 0, 0, 0) : Cl)) := by rw [Hid, HC.out, checkB, H2.out, H3.out, H4.out]; rfl
                  have fr := box_frozen (hS.box _ List.mem_cons_self)
                  have hSe := hS.ext
                  go_wp2_with fail
                  exact bodyPost_ret (v := clV (0, 0, 0, 0)) (by simp [results, Try.results43, go_sem, clV, k3, k4]) rfl ⟨by rw [hV.out], (by repeat (first | (with_reducible exact hS.ext) | (with_reducible assumption) | (with_reducible exact Ext.refl _) | with_reducible apply Ext.alloc | with_reducible apply Ext.drewN | with_reducible apply Ext.drew | with_reducible refine Ext.setCell ?_ (by simp only []; omega) _))⟩
end Go.Proofs.Ythhkbfjolmgloaa
