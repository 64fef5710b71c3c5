/- impl.each, impl.Check: they answer plain functions. Condition: line and plan hold at most 2^20 values. -/
import Derived.Test.YthhkbfjolmgloaaMHFull
namespace Go.Proofs.Ythhkbfjolmgloaa
open Go.RowKit
set_option linter.unusedVariables false
set_option linter.unusedSimpArgs false
/-! ### What clashes first -/
abbrev Cl := Int × Int × Int × Int
def clV (c : Cl) : Value := .agg #[.int .i64 c.1, .int .i64 c.2.1, .int .i64 c.2.2.1, .int .i64 c.2.2.2]
def eachF (l : Line) (cl : Nat → Nat → Cl) : Nat → Option Cl := fun i => findF (fun k => if (cl i k).1 ≠ 0 then some (cl i k) else none) 0 (l.tr i).legs.length
def eachA (l : Line) (cl : Nat → Nat → Cl) : Cl := (findF (eachF l cl) 0 l.trains.length).getD (0, 0, 0, 0)
def early (l : Line) (p : List (List Int)) (i k : Nat) : Bool := decide (st p i k < readyT l p i k)
def tight (l : Line) (p : List (List Int)) (i k j m : Nat) : Bool := decide (i ≠ j ∧ (l.tr i).trk k = (l.tr j).trk m ∧ (st p j m < st p i k ∨ (st p j m = st p i k ∧ j < i)) ∧ st p i k < st p j m + (l.leg j m).run + l.gap)
def hitF (l : Line) (p : List (List Int)) (i k j : Nat) : Option Nat := findF (fun m => if tight l p i k j m then some j else none) 0 (l.tr j).legs.length
def hit (l : Line) (p : List (List Int)) (i k : Nat) : Option Nat := findF (hitF l p i k) 0 l.trains.length
def cl2 (l : Line) (p : List (List Int)) (i k : Nat) : Cl := if early l p i k then (2, i, k, 0) else (0, 0, 0, 0)
def cl3 (l : Line) (p : List (List Int)) (i k : Nat) : Cl := match hit l p i k with | some j => (3, i, k, j) | none => (0, 0, 0, 0)
def cl4 (l : Line) (p : List (List Int)) (i k : Nat) : Cl := if full l p i k then (4, i, k, 0) else (0, 0, 0, 0)
def checkB (l : Line) (p : List (List Int)) : Cl := if (eachA l (cl2 l p)).1 ≠ 0 then eachA l (cl2 l p) else if (eachA l (cl3 l p)).1 ≠ 0 then eachA l (cl3 l p) else eachA l (cl4 l p)
def checkA (l : Line) (p : List (List Int)) : Cl := if right l && shapeOk l p then checkB l p else (1, 0, 0, 0)
set_option maxRecDepth 100000 in
set_option maxHeartbeats 1000000 in
theorem each94_any {w : World} {l : Line} {u : Value} (hl : IsLine w l u) (O : Ok l) {ca cb : Value} {cl : Nat → Nat → Cl} (hc : ∀ (W : World) (i k : Nat), Ext w W → i < l.trains.length → k < (l.tr i).legs.length → Calls Try.prog 94 #[.int .i64 i, .int .i64 k, ca, cb] W fun e w' => e = .returned (clV (cl i k)) ∧ Ext W w') :
    Calls Try.prog 93 #[u, .func (.func 94) #[] #[ca, cb]] w fun e w' => e = .returned (clV (eachA l cl)) ∧ Ext w w' := by
  obtain ⟨A0, c0, A2, c2, rfl, h0, h2⟩ := hl
  obtain ⟨b0, o0, b2, o2, bl, ol, cl', SL⟩ := seeL O h0 h2
  clear h0 h2
  have HS := Lib.hid SL
  have HB := Lib.hid O.bd
  have n5 := HB.out.n5
  have HC := Lib.hid hc
  clear SL O hc
  go_enter Try.func93, Try.ntmps93
  go_wp2_with fail
  go_loopw [12] (fun j wr => ∃ (jj : Nat), jj ≤ l.trains.length ∧ j = .int .i64 jj ∧ Hid (findF (eachF l cl) 0 l.trains.length = findF (eachF l cl) jj l.trains.length) ∧
    Lp w wr [(w.heap.size + 1, #[.int .i64 0, .int .i64 0, .int .i64 0, .int .i64 0], 48), (w.heap.size, #[.slice A0 l.tracks.length c0, .int .i64 l.gap, .slice A2 l.trains.length c2], 33)]) (fun j _ => l.trains.length - (intOf j).toNat)
  case atStart => exact ⟨0, Nat.zero_le _, rfl, rfl, Lp.start2 _ _ _ _ _⟩
  case round =>
    obtain ⟨jj, hjj, rfl, HT, hS⟩ := hrel
    obtain ⟨k1, k2, k3, k4, k5, k6⟩ := hS.open2
    by_cases hlt : jj < l.trains.length
    · obtain ⟨rfl, hb2⟩ := HS.out.base2 (by omega)
      obtain ⟨e0, e1, e2, e3, e4, hbj⟩ := HS.out.train jj hlt
      obtain ⟨m10, m11⟩ := HB.out.nl1 jj hlt
      go_wp2_with fail
      clear k1 k2 k3 k4 k5 k6
      go_loopw [20] (fun j wi => ∃ (m : Nat), m ≤ (l.tr jj).legs.length ∧ j = .int .i64 m ∧ Hid (eachF l cl jj = findF (fun k => if (cl jj k).1 ≠ 0 then some (cl jj k) else none) m (l.tr jj).legs.length) ∧
        Lp w wi [(w.heap.size + 1, #[.int .i64 0, .int .i64 0, .int .i64 0, .int .i64 0], 48), (w.heap.size, #[.slice A0 l.tracks.length c0, .int .i64 l.gap, .slice (some ⟨b2, o2, none⟩) l.trains.length c2], 33)]) (fun j _ => (l.tr jj).legs.length - (intOf j).toNat)
      case atStart => exact ⟨0, Nat.zero_le _, rfl, rfl, (by repeat (first | (with_reducible exact hS) | apply Lp.alloc | apply Lp.drewN | apply Lp.drew))⟩
      case round =>
        clear hS
        obtain ⟨m, hm, rfl, HU, hS⟩ := hrel
        obtain ⟨k1, k2, k3, k4, k5, k6⟩ := hS.open2
        by_cases hlm : m < (l.tr jj).legs.length
        · go_wp2_with fail
          refine (HC.out _ _ _ (by repeat (first | (with_reducible exact hS.ext) | (with_reducible assumption) | (with_reducible exact Ext.refl _) | with_reducible apply Ext.alloc | with_reducible apply Ext.drewN | with_reducible apply Ext.drew | with_reducible refine Ext.setCell ?_ (by simp only []; omega) _)) hlt hlm).mono ?_
          rintro e w1 ⟨rfl, hE⟩
          simp only [clV]
          have hT := hS.trans hE
          obtain ⟨m1, m2, m3, m4, m5, m6⟩ := hT.open2
          have hTe := hT.ext
          have fr := box_frozen (hT.box _ List.mem_cons_self)
          by_cases hz : (cl jj m).1 = 0
          · have hz' : ((cl jj m).1 != 0) = false := by simp [hz]
            have HE := Lib.hid (findF_skip (fun k => if (cl jj k).1 ≠ 0 then some (cl jj k) else none) hlm (by simp [hz]))
            clear hz
            go_wp2_with fail
            exact ⟨⟨m + 1, by omega, by go_num, HU.out.trans HE.out, hT.alloc _⟩, (by simp [intOf]; omega)⟩
          · have hz' : ((cl jj m).1 != 0) = true := by simp [hz]
            have HE := Lib.hid (findF_hit (fun k => if (cl jj k).1 ≠ 0 then some (cl jj k) else none) (b := cl jj m) hlm (by simp [hz]))
            have HA : Hid (eachA l cl = cl jj m) := by unfold Hid eachA; rw [HT.out, findF_hit _ hlt (HU.out.trans HE.out)]; rfl
            clear hz
            go_wp2_with fail
            exact bodyPost_ret (v := clV (cl jj m)) (by simp [results, Try.results93, go_sem, clV, m3, m4, m5, m6]) rfl ⟨by rw [HA.out], (by repeat (first | (with_reducible exact hS.ext) | (with_reducible assumption) | (with_reducible exact Ext.refl _) | with_reducible apply Ext.alloc | with_reducible apply Ext.drewN | with_reducible apply Ext.drew | with_reducible refine Ext.setCell ?_ (by simp only []; omega) _))⟩
        · have HE := Lib.hid (findF_end (fun k => if (cl jj k).1 ≠ 0 then some (cl jj k) else none) (i := m) (n := (l.tr jj).legs.length) (by omega))
          go_wp2_with fail
          exact ⟨⟨jj + 1, by omega, by go_num, by rw [HT.out, findF_skip _ hlt (by rw [HU.out, HE.out])]; rfl, hS⟩, (by simp [intOf]; omega)⟩
    · have HE := Lib.hid (findF_end (eachF l cl) (i := jj) (n := l.trains.length) (by omega))
      have fr := box_frozen (hS.box _ List.mem_cons_self)
      have HA : Hid (eachA l cl = (0, 0, 0, 0)) := by unfold Hid eachA; rw [HT.out, HE.out]; rfl
      go_wp2_with fail
      exact bodyPost_ret (v := clV (0, 0, 0, 0)) (by simp [results, Try.results93, go_sem, clV, k3, k4, k5, k6]) rfl ⟨by rw [HA.out], (by repeat (first | (with_reducible exact hS.ext) | (with_reducible assumption) | (with_reducible exact Ext.refl _) | with_reducible apply Ext.alloc | with_reducible apply Ext.drewN | with_reducible apply Ext.drew | with_reducible refine Ext.setCell ?_ (by simp only []; omega) _))⟩
set_option maxRecDepth 100000 in
set_option maxHeartbeats 1000000 in
theorem each95_any {w : World} {l : Line} {u : Value} (hl : IsLine w l u) (O : Ok l) {ca cb : Value} {cl : Nat → Nat → Cl} (hc : ∀ (W : World) (i k : Nat), Ext w W → i < l.trains.length → k < (l.tr i).legs.length → Calls Try.prog 95 #[.int .i64 i, .int .i64 k, ca, cb] W fun e w' => e = .returned (clV (cl i k)) ∧ Ext W w') :
    Calls Try.prog 93 #[u, .func (.func 95) #[] #[ca, cb]] w fun e w' => e = .returned (clV (eachA l cl)) ∧ Ext w w' := by
  obtain ⟨A0, c0, A2, c2, rfl, h0, h2⟩ := hl
  obtain ⟨b0, o0, b2, o2, bl, ol, cl', SL⟩ := seeL O h0 h2
  clear h0 h2
  have HS := Lib.hid SL
  have HB := Lib.hid O.bd
  have n5 := HB.out.n5
  have HC := Lib.hid hc
  clear SL O hc
  go_enter Try.func93, Try.ntmps93
  go_wp2_with fail
  go_loopw [12] (fun j wr => ∃ (jj : Nat), jj ≤ l.trains.length ∧ j = .int .i64 jj ∧ Hid (findF (eachF l cl) 0 l.trains.length = findF (eachF l cl) jj l.trains.length) ∧
    Lp w wr [(w.heap.size + 1, #[.int .i64 0, .int .i64 0, .int .i64 0, .int .i64 0], 48), (w.heap.size, #[.slice A0 l.tracks.length c0, .int .i64 l.gap, .slice A2 l.trains.length c2], 33)]) (fun j _ => l.trains.length - (intOf j).toNat)
  case atStart => exact ⟨0, Nat.zero_le _, rfl, rfl, Lp.start2 _ _ _ _ _⟩
  case round =>
    obtain ⟨jj, hjj, rfl, HT, hS⟩ := hrel
    obtain ⟨k1, k2, k3, k4, k5, k6⟩ := hS.open2
    by_cases hlt : jj < l.trains.length
    · obtain ⟨rfl, hb2⟩ := HS.out.base2 (by omega)
      obtain ⟨e0, e1, e2, e3, e4, hbj⟩ := HS.out.train jj hlt
      obtain ⟨m10, m11⟩ := HB.out.nl1 jj hlt
      go_wp2_with fail
      clear k1 k2 k3 k4 k5 k6
      go_loopw [20] (fun j wi => ∃ (m : Nat), m ≤ (l.tr jj).legs.length ∧ j = .int .i64 m ∧ Hid (eachF l cl jj = findF (fun k => if (cl jj k).1 ≠ 0 then some (cl jj k) else none) m (l.tr jj).legs.length) ∧
        Lp w wi [(w.heap.size + 1, #[.int .i64 0, .int .i64 0, .int .i64 0, .int .i64 0], 48), (w.heap.size, #[.slice A0 l.tracks.length c0, .int .i64 l.gap, .slice (some ⟨b2, o2, none⟩) l.trains.length c2], 33)]) (fun j _ => (l.tr jj).legs.length - (intOf j).toNat)
      case atStart => exact ⟨0, Nat.zero_le _, rfl, rfl, (by repeat (first | (with_reducible exact hS) | apply Lp.alloc | apply Lp.drewN | apply Lp.drew))⟩
      case round =>
        clear hS
        obtain ⟨m, hm, rfl, HU, hS⟩ := hrel
        obtain ⟨k1, k2, k3, k4, k5, k6⟩ := hS.open2
        by_cases hlm : m < (l.tr jj).legs.length
        · go_wp2_with fail
          refine (HC.out _ _ _ (by repeat (first | (with_reducible exact hS.ext) | (with_reducible assumption) | (with_reducible exact Ext.refl _) | with_reducible apply Ext.alloc | with_reducible apply Ext.drewN | with_reducible apply Ext.drew | with_reducible refine Ext.setCell ?_ (by simp only []; omega) _)) hlt hlm).mono ?_
          rintro e w1 ⟨rfl, hE⟩
          simp only [clV]
          have hT := hS.trans hE
          obtain ⟨m1, m2, m3, m4, m5, m6⟩ := hT.open2
          have hTe := hT.ext
          have fr := box_frozen (hT.box _ List.mem_cons_self)
          by_cases hz : (cl jj m).1 = 0
          · have hz' : ((cl jj m).1 != 0) = false := by simp [hz]
            have HE := Lib.hid (findF_skip (fun k => if (cl jj k).1 ≠ 0 then some (cl jj k) else none) hlm (by simp [hz]))
            clear hz
            go_wp2_with fail
            exact ⟨⟨m + 1, by omega, by go_num, HU.out.trans HE.out, hT.alloc _⟩, (by simp [intOf]; omega)⟩
          · have hz' : ((cl jj m).1 != 0) = true := by simp [hz]
            have HE := Lib.hid (findF_hit (fun k => if (cl jj k).1 ≠ 0 then some (cl jj k) else none) (b := cl jj m) hlm (by simp [hz]))
            have HA : Hid (eachA l cl = cl jj m) := by unfold Hid eachA; rw [HT.out, findF_hit _ hlt (HU.out.trans HE.out)]; rfl
            clear hz
            go_wp2_with fail
            exact bodyPost_ret (v := clV (cl jj m)) (by simp [results, Try.results93, go_sem, clV, m3, m4, m5, m6]) rfl ⟨by rw [HA.out], (by repeat (first | (with_reducible exact hS.ext) | (with_reducible assumption) | (with_reducible exact Ext.refl _) | with_reducible apply Ext.alloc | with_reducible apply Ext.drewN | with_reducible apply Ext.drew | with_reducible refine Ext.setCell ?_ (by simp only []; omega) _))⟩
        · have HE := Lib.hid (findF_end (fun k => if (cl jj k).1 ≠ 0 then some (cl jj k) else none) (i := m) (n := (l.tr jj).legs.length) (by omega))
          go_wp2_with fail
          exact ⟨⟨jj + 1, by omega, by go_num, by rw [HT.out, findF_skip _ hlt (by rw [HU.out, HE.out])]; rfl, hS⟩, (by simp [intOf]; omega)⟩
    · have HE := Lib.hid (findF_end (eachF l cl) (i := jj) (n := l.trains.length) (by omega))
      have fr := box_frozen (hS.box _ List.mem_cons_self)
      have HA : Hid (eachA l cl = (0, 0, 0, 0)) := by unfold Hid eachA; rw [HT.out, HE.out]; rfl
      go_wp2_with fail
      exact bodyPost_ret (v := clV (0, 0, 0, 0)) (by simp [results, Try.results93, go_sem, clV, k3, k4, k5, k6]) rfl ⟨by rw [HA.out], (by repeat (first | (with_reducible exact hS.ext) | (with_reducible assumption) | (with_reducible exact Ext.refl _) | with_reducible apply Ext.alloc | with_reducible apply Ext.drewN | with_reducible apply Ext.drew | with_reducible refine Ext.setCell ?_ (by simp only []; omega) _))⟩
set_option maxRecDepth 100000 in
set_option maxHeartbeats 1000000 in
theorem each97_any {w : World} {l : Line} {u : Value} (hl : IsLine w l u) (O : Ok l) {ca cb : Value} {cl : Nat → Nat → Cl} (hc : ∀ (W : World) (i k : Nat), Ext w W → i < l.trains.length → k < (l.tr i).legs.length → Calls Try.prog 97 #[.int .i64 i, .int .i64 k, ca, cb] W fun e w' => e = .returned (clV (cl i k)) ∧ Ext W w') :
    Calls Try.prog 93 #[u, .func (.func 97) #[] #[ca, cb]] w fun e w' => e = .returned (clV (eachA l cl)) ∧ Ext w w' := by
  obtain ⟨A0, c0, A2, c2, rfl, h0, h2⟩ := hl
  obtain ⟨b0, o0, b2, o2, bl, ol, cl', SL⟩ := seeL O h0 h2
  clear h0 h2
  have HS := Lib.hid SL
  have HB := Lib.hid O.bd
  have n5 := HB.out.n5
  have HC := Lib.hid hc
  clear SL O hc
  go_enter Try.func93, Try.ntmps93
  go_wp2_with fail
  go_loopw [12] (fun j wr => ∃ (jj : Nat), jj ≤ l.trains.length ∧ j = .int .i64 jj ∧ Hid (findF (eachF l cl) 0 l.trains.length = findF (eachF l cl) jj l.trains.length) ∧
    Lp w wr [(w.heap.size + 1, #[.int .i64 0, .int .i64 0, .int .i64 0, .int .i64 0], 48), (w.heap.size, #[.slice A0 l.tracks.length c0, .int .i64 l.gap, .slice A2 l.trains.length c2], 33)]) (fun j _ => l.trains.length - (intOf j).toNat)
  case atStart => exact ⟨0, Nat.zero_le _, rfl, rfl, Lp.start2 _ _ _ _ _⟩
  case round =>
    obtain ⟨jj, hjj, rfl, HT, hS⟩ := hrel
    obtain ⟨k1, k2, k3, k4, k5, k6⟩ := hS.open2
    by_cases hlt : jj < l.trains.length
    · obtain ⟨rfl, hb2⟩ := HS.out.base2 (by omega)
      obtain ⟨e0, e1, e2, e3, e4, hbj⟩ := HS.out.train jj hlt
      obtain ⟨m10, m11⟩ := HB.out.nl1 jj hlt
      go_wp2_with fail
      clear k1 k2 k3 k4 k5 k6
      go_loopw [20] (fun j wi => ∃ (m : Nat), m ≤ (l.tr jj).legs.length ∧ j = .int .i64 m ∧ Hid (eachF l cl jj = findF (fun k => if (cl jj k).1 ≠ 0 then some (cl jj k) else none) m (l.tr jj).legs.length) ∧
        Lp w wi [(w.heap.size + 1, #[.int .i64 0, .int .i64 0, .int .i64 0, .int .i64 0], 48), (w.heap.size, #[.slice A0 l.tracks.length c0, .int .i64 l.gap, .slice (some ⟨b2, o2, none⟩) l.trains.length c2], 33)]) (fun j _ => (l.tr jj).legs.length - (intOf j).toNat)
      case atStart => exact ⟨0, Nat.zero_le _, rfl, rfl, (by repeat (first | (with_reducible exact hS) | apply Lp.alloc | apply Lp.drewN | apply Lp.drew))⟩
      case round =>
        clear hS
        obtain ⟨m, hm, rfl, HU, hS⟩ := hrel
        obtain ⟨k1, k2, k3, k4, k5, k6⟩ := hS.open2
        by_cases hlm : m < (l.tr jj).legs.length
        · go_wp2_with fail
          refine (HC.out _ _ _ (by repeat (first | (with_reducible exact hS.ext) | (with_reducible assumption) | (with_reducible exact Ext.refl _) | with_reducible apply Ext.alloc | with_reducible apply Ext.drewN | with_reducible apply Ext.drew | with_reducible refine Ext.setCell ?_ (by simp only []; omega) _)) hlt hlm).mono ?_
          rintro e w1 ⟨rfl, hE⟩
          simp only [clV]
          have hT := hS.trans hE
          obtain ⟨m1, m2, m3, m4, m5, m6⟩ := hT.open2
          have hTe := hT.ext
          have fr := box_frozen (hT.box _ List.mem_cons_self)
          by_cases hz : (cl jj m).1 = 0
          · have hz' : ((cl jj m).1 != 0) = false := by simp [hz]
            have HE := Lib.hid (findF_skip (fun k => if (cl jj k).1 ≠ 0 then some (cl jj k) else none) hlm (by simp [hz]))
            clear hz
            go_wp2_with fail
            exact ⟨⟨m + 1, by omega, by go_num, HU.out.trans HE.out, hT.alloc _⟩, (by simp [intOf]; omega)⟩
          · have hz' : ((cl jj m).1 != 0) = true := by simp [hz]
            have HE := Lib.hid (findF_hit (fun k => if (cl jj k).1 ≠ 0 then some (cl jj k) else none) (b := cl jj m) hlm (by simp [hz]))
            have HA : Hid (eachA l cl = cl jj m) := by unfold Hid eachA; rw [HT.out, findF_hit _ hlt (HU.out.trans HE.out)]; rfl
            clear hz
            go_wp2_with fail
            exact bodyPost_ret (v := clV (cl jj m)) (by simp [results, Try.results93, go_sem, clV, m3, m4, m5, m6]) rfl ⟨by rw [HA.out], (by repeat (first | (with_reducible exact hS.ext) | (with_reducible assumption) | (with_reducible exact Ext.refl _) | with_reducible apply Ext.alloc | with_reducible apply Ext.drewN | with_reducible apply Ext.drew | with_reducible refine Ext.setCell ?_ (by simp only []; omega) _))⟩
        · have HE := Lib.hid (findF_end (fun k => if (cl jj k).1 ≠ 0 then some (cl jj k) else none) (i := m) (n := (l.tr jj).legs.length) (by omega))
          go_wp2_with fail
          exact ⟨⟨jj + 1, by omega, by go_num, by rw [HT.out, findF_skip _ hlt (by rw [HU.out, HE.out])]; rfl, hS⟩, (by simp [intOf]; omega)⟩
    · have HE := Lib.hid (findF_end (eachF l cl) (i := jj) (n := l.trains.length) (by omega))
      have fr := box_frozen (hS.box _ List.mem_cons_self)
      have HA : Hid (eachA l cl = (0, 0, 0, 0)) := by unfold Hid eachA; rw [HT.out, HE.out]; rfl
      go_wp2_with fail
      exact bodyPost_ret (v := clV (0, 0, 0, 0)) (by simp [results, Try.results93, go_sem, clV, k3, k4, k5, k6]) rfl ⟨by rw [HA.out], (by repeat (first | (with_reducible exact hS.ext) | (with_reducible assumption) | (with_reducible exact Ext.refl _) | with_reducible apply Ext.alloc | with_reducible apply Ext.drewN | with_reducible apply Ext.drew | with_reducible refine Ext.setCell ?_ (by simp only []; omega) _))⟩
end Go.Proofs.Ythhkbfjolmgloaa
