/- laws.wFirst answers false where the first plan is not the less. Condition: the line is right, both plans fit it. -/
import Derived.Test.YthhkbfjolmgloaaML7a
import Derived.Test.YthhkbfjolmgloaaML3a
import Derived.BigQuiet
import Derived.Deep.QuietTactic
namespace Go.Proofs.Ythhkbfjolmgloaa
open Go.RowKit
set_option linter.unusedVariables false
set_option linter.unusedSimpArgs false
theorem cmpI_notlt {a b : Int} (h : a ≠ b) (hn : cmpI a b ≠ .lt) : ¬ a < b := fun hlt => hn (by unfold cmpI; rw [if_pos hlt])
set_option maxRecDepth 100000 in
set_option maxHeartbeats 8000000 in
theorem wFirst_not {w : World} {l : Line} {p q : List (List Int)} {A B : Option Addr} {c d : Nat} (O : Ok l) (Fp : Fits l p) (Fq : Fits l q) (hc : cmpP l p q ≠ .lt) (hp : RdRows w A p) (hq : RdRows w B q) :
    Calls Try.prog 69 #[.agg #[.slice A p.length c], .agg #[.slice B q.length d]] w fun e w' => e = .returned (.bool false) ∧ Ext w w' := by
  obtain ⟨b3, o3, br, or', cr, SP⟩ := seeP O Fp hp
  obtain ⟨b4, o4, br4, or4, cr4, SQ⟩ := seeP O Fq hq
  have HSP := Lib.hid SP
  have HSQ := Lib.hid SQ
  have HFP := Lib.hid Fp.rows
  have HFQ := Lib.hid Fq.rows
  have HC := Lib.hid hc
  have HO := Lib.hid O
  have hpn : p.length ≤ 5 := by rw [Fp.rows]; exact O.ntr
  have hqn : q.length ≤ 5 := by rw [Fq.rows]; exact O.ntr
  have hpq : Hid (p.length = q.length) := by unfold Hid; rw [Fp.rows, Fq.rows]
  clear SP SQ hp hq hc O Fp Fq
  go_enter Try.func69, Try.ntmps69
  have hS := Lp.start2 w #[.slice A p.length c] #[.slice B q.length d] 42 42
  obtain ⟨k1, k2, k3, k4, k5, k6⟩ := hS.open2
  go_wp2_with fail
  go_loopw [10] (fun j wr => ∃ (i : Nat), i ≤ p.length ∧ j = .int .i64 i ∧ Hid (cmpP l p q = lexO (cmpR l p q) i l.trains.length) ∧ Lp w wr [(w.heap.size + 1, #[.slice B q.length d], 42), (w.heap.size, #[.slice A p.length c], 42)]) (fun j _ => p.length - (intOf j).toNat)
  case atStart => exact ⟨0, Nat.zero_le _, rfl, rfl, hS⟩
  case round =>
    clear hS k1 k2 k3 k4 k5 k6
    obtain ⟨i, hi, rfl, HCM, hS⟩ := hrel
    obtain ⟨k1, k2, k3, k4, k5, k6⟩ := hS.open2
    by_cases hlt : i < p.length
    · have hil : i < l.trains.length := by rw [← HFP.out]; exact hlt
      have hiq : i < q.length := by rw [HFQ.out]; exact hil
      obtain ⟨rfl, hb3⟩ := HSP.out.base (by omega)
      obtain ⟨rfl, hb4⟩ := HSQ.out.base (by omega)
      obtain ⟨r0, hbr⟩ := HSP.out.row i hil
      obtain ⟨r4, hbr4⟩ := HSQ.out.row i hil
      have nl10 := (HO.out.bd.nl1 i hil).2
      go_wp2_with fail
      go_loopw [19] (fun j wi => ∃ (m : Nat), m ≤ (l.tr i).legs.length ∧ j = .int .i64 m ∧ Hid (cmpR l p q i = lexO (fun k => cmpI (st p i k) (st q i k)) m (l.tr i).legs.length) ∧ Lp w wi [(w.heap.size + 1, #[.slice (some ⟨b4, o4, none⟩) q.length d], 42), (w.heap.size, #[.slice (some ⟨b3, o3, none⟩) p.length c], 42)]) (fun j _ => (l.tr i).legs.length - (intOf j).toNat)
      case atStart => exact ⟨0, Nat.zero_le _, rfl, rfl, (by repeat (first | (with_reducible exact hS) | apply Lp.alloc | apply Lp.drewN | apply Lp.drew))⟩
      case round =>
        clear hS k1 k2 k3 k4 k5 k6
        obtain ⟨m, hm2, rfl, HRM, hS⟩ := hrel
        obtain ⟨k1, k2, k3, k4, k5, k6⟩ := hS.open2
        by_cases hlm : m < (l.tr i).legs.length
        · have s0 := HSP.out.st i m hil hlm
          have s4 := HSQ.out.st i m hil hlm
          have hR := lexO_at (fun k => cmpI (st p i k) (st q i k)) hlm
          have hP := lexO_at (cmpR l p q) hil
          obtain ⟨sp, hsp⟩ : ∃ x, Hid (st p i m = x) := ⟨_, rfl⟩
          obtain ⟨sq, hsq⟩ : ∃ x, Hid (st q i m = x) := ⟨_, rfl⟩
          have hR : lexO (fun k => cmpI (st p i k) (st q i k)) m (l.tr i).legs.length = if cmpI (st p i m) (st q i m) = .eq then lexO (fun k => cmpI (st p i k) (st q i k)) (m + 1) (l.tr i).legs.length else cmpI (st p i m) (st q i m) := hR
          rw [hsp.out, hsq.out] at hR
          rw [hsp.out] at s0
          rw [hsq.out] at s4
          have g1 : decide ((q.length : Int) ≤ (i : Int)) = false := decide_eq_false (by omega)
          have g2 : decide (((l.tr i).legs.length : Int) ≤ (m : Int)) = false := decide_eq_false (by omega)
          by_cases he : sp = sq
          · have HR2 : Hid (cmpR l p q i = lexO (fun k => cmpI (st p i k) (st q i k)) (m + 1) (l.tr i).legs.length) := by unfold Hid; rw [HRM.out, hR, if_pos (cmpI_eq.2 he)]
            have g3 : (sp != sq) = false := by simp [he]
            clear hR hP he
            go_wp2_with fail
            go_quiet (fail)
            go_wp2_with fail
            exact ⟨⟨m + 1, by omega, by go_num, HR2.out, (by repeat (first | (with_reducible exact hS) | apply Lp.alloc | apply Lp.drewN | apply Lp.drew))⟩, (by simp [intOf]; omega)⟩
          · have hcn : cmpI sp sq ≠ .eq := fun e => he (cmpI_eq.1 e)
            have h1 : cmpR l p q i = cmpI sp sq := by rw [HRM.out, hR, if_neg hcn]
            have h2 : cmpP l p q = cmpI sp sq := by rw [HCM.out, hP, h1, if_neg hcn]
            have h3 : ¬ sp < sq := cmpI_notlt he (by rw [← h2]; exact HC.out)
            have g3 : (sp != sq) = true := by simp [he]
            have g4 : decide (sp < sq) = false := decide_eq_false h3
            clear hR hP he hcn h1 h2 h3
            go_wp2_with fail
            go_quiet (fail)
            go_wp2_with fail
            go_quiet (fail)
            go_wp2_with fail
            go_ret
            exact ⟨rfl, hS.ext.trans (by repeat (first | (with_reducible assumption) | (with_reducible exact Ext.refl _) | apply Ext.alloc | apply Ext.drewN | apply Ext.drew))⟩
        · have hR := lexO_end (fun k => cmpI (st p i k) (st q i k)) (i := m) (n := (l.tr i).legs.length) (by omega)
          have HC2 : Hid (cmpP l p q = lexO (cmpR l p q) (i + 1) l.trains.length) := by unfold Hid; rw [HCM.out, lexO_at _ hil, if_pos (by rw [HRM.out, hR])]
          clear hR
          go_wp2_with fail
          exact ⟨⟨i + 1, by omega, by go_num, HC2.out, hS⟩, (by simp [intOf]; omega)⟩
    · go_wp2_with fail
      go_ret
      exact ⟨rfl, hS.ext⟩
end Go.Proofs.Ythhkbfjolmgloaa
