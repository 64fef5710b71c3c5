/- impl.number reads a word as numL says. -/
import Derived.Test.YthhkbfjolmgloaaDoorSpec
import Derived.Test.YthhkbfjolmgloaaDoorShelf
import Derived.Lib.Atoi
import Derived.Lib.SmallJoins
namespace Go.Proofs.YthhkbfjolmgloaaDoor
open Go.RowKit Go.Deep
set_option linter.unusedVariables false
set_option linter.unusedSimpArgs false
theorem digitVal_of {b : UInt8} (h : digitB b = true) : Lib.digitVal b = some (b.toNat - 48) := by
  unfold Lib.digitVal
  simp only [digitB, decide_eq_true_eq] at h
  rw [if_pos h]
theorem decFrom_of : ∀ (l : Bs) (n : Nat), l.all digitB = true → ∃ m, Lib.decFrom n l = some m ∧ (m : Int) = valL n l
  | [], n, _ => ⟨n, rfl, rfl⟩
  | b :: r, n, h => by
    simp only [List.all_cons, Bool.and_eq_true] at h
    obtain ⟨m, h1, h2⟩ := decFrom_of r (n * 10 + (b.toNat - 48)) h.2
    refine ⟨m, by rw [Lib.decFrom, digitVal_of h.1]; exact h1, ?_⟩
    have hb : 48 ≤ b.toNat := by have := h.1; simp only [digitB, decide_eq_true_eq] at this; exact this.1
    rw [h2, valL]
    congr 1
    omega
theorem atoi_of {l : Bs} (h : l.all digitB = true) (h0 : l ≠ []) : Lib.atoi l = some (valL 0 l) := by
  cases l with
  | nil => exact absurd rfl h0
  | cons b r =>
    have hb : digitB b = true := by simp only [List.all_cons, Bool.and_eq_true] at h; exact h.1
    have hb' : 48 ≤ b.toNat := by simp only [digitB, decide_eq_true_eq] at hb; exact hb.1
    have n1 : ¬ (b == 45) = true := by intro e; have := eq_of_beq e; subst this; exact absurd hb' (by decide)
    have n2 : ¬ (b == 43) = true := by intro e; have := eq_of_beq e; subst this; exact absurd hb' (by decide)
    obtain ⟨m, h1, h2⟩ := decFrom_of (b :: r) 0 h
    rw [Lib.atoi, if_neg n1, if_neg n2, Lib.decNat]
    simp only [List.isEmpty_cons, Bool.false_eq_true, if_false]
    rw [h1]
    simp only [Option.map_some, Option.some.injEq]
    exact h2
def numV (R : Option Int) : Value := match R with
  | none => .tuple #[.int .i64 0, .bool false]
  | some n => .tuple #[.int .i64 n, .bool true]
set_option maxRecDepth 100000 in
set_option maxHeartbeats 8000000 in
theorem number_any {w : World} (s : ByteArray) (hs : s.size ≤ 4000) : Calls Tryd.prog 13 #[.string s] w fun e w' => e = .returned (numV (numL (toL s))) ∧ Ext w w' := by
  by_cases h0 : s.size < 1
  · have g1 : decide ((s.size : Int) < 1) = true := by rw [decide_eq_true_eq]; omega
    have HN : Hid (numL (toL s) = none) := by unfold Hid numL; rw [if_neg]; rintro ⟨_, h, _⟩; rw [toL_len] at h; omega
    clear h0
    go_enter Tryd.func13, Tryd.ntmps13
    go_wp2_with fail
    go_ret2
    exact ⟨by rw [HN.out]; rfl, (by repeat (first | (with_reducible assumption) | (with_reducible exact Ext.refl _) | apply Ext.alloc | apply Ext.drewN | apply Ext.drew))⟩
  · have g1 : decide ((s.size : Int) < 1) = false := by rw [decide_eq_false_iff_not]; omega
    by_cases h7 : 7 < s.size
    · have g2 : decide ((7 : Int) < (s.size : Int)) = true := by rw [decide_eq_true_eq]; omega
      have HN : Hid (numL (toL s) = none) := by unfold Hid numL; rw [if_neg]; rintro ⟨_, _, h, _⟩; rw [toL_len] at h; omega
      clear h0
      go_enter Tryd.func13, Tryd.ntmps13
      go_wp2_with fail
      go_ret2
      exact ⟨by rw [HN.out]; rfl, (by repeat (first | (with_reducible assumption) | (with_reducible exact Ext.refl _) | apply Ext.alloc | apply Ext.drewN | apply Ext.drew))⟩
    · have g2 : decide ((7 : Int) < (s.size : Int)) = false := by rw [decide_eq_false_iff_not]; omega
      have hs0 : 0 < s.size := by omega
      have hl0 : (toL s)[0]? = some s[0] := toL_at hs0
      by_cases hz : 1 < s.size ∧ s[0].toNat = 48
      · have g3 : decide ((1 : Int) < (s.size : Int)) = true := by rw [decide_eq_true_eq]; omega
        have g4 : ((s[0].toNat : Int) == 48) = true := by rw [beq_iff_eq]; omega
        have HN : Hid (numL (toL s) = none) := by
          unfold Hid numL; rw [if_neg]; rintro ⟨_, _, _, h⟩
          exact h ⟨by rw [toL_len]; exact hz.1, by rw [hl0]; congr 1; exact UInt8.toNat_inj.1 hz.2⟩
        clear h0 h7 hl0 hz
        go_enter Tryd.func13, Tryd.ntmps13
        go_wp2_with fail
        go_ret2
        exact ⟨by rw [HN.out]; rfl, (by repeat (first | (with_reducible assumption) | (with_reducible exact Ext.refl _) | apply Ext.alloc | apply Ext.drewN | apply Ext.drew))⟩
      · have HZ : Hid (¬ (1 < (toL s).length ∧ (toL s)[0]? = some 48)) := by
          rintro ⟨h1, h2⟩
          rw [toL_len] at h1
          rw [hl0] at h2
          exact hz ⟨h1, by rw [Option.some.inj h2]; rfl⟩
        have hor : ¬ 1 < s.size ∨ ¬ s[0].toNat = 48 := by omega
        have HB : Hid (1 ≤ s.size ∧ s.size ≤ 7) := ⟨by omega, by omega⟩
        clear h0 h7 hl0 hz
        go_enter Tryd.func13, Tryd.ntmps13
        by_cases h1 : 1 < s.size
        · have g3 : decide ((1 : Int) < (s.size : Int)) = true := by rw [decide_eq_true_eq]; omega
          have g4 : ((s[0].toNat : Int) == 48) = false := by rw [beq_eq_false_iff_ne]; omega
          clear hor
          go_wp2_with fail
          clear g1 g2
          go_loopw [27] (fun j wr => ∃ (k : Nat), k ≤ s.size ∧ j = .int .i64 k ∧ Hid (Ext w wr) ∧ Hid (∀ (q : Nat) b, q < k → (toL s)[q]? = some b → digitB b = true)) (fun j _ => s.size - (intOf j).toNat)
          case atStart => exact ⟨0, Nat.zero_le _, rfl, Ext.refl _, fun q b hq => by omega⟩
          case round =>
            obtain ⟨k, hk, rfl, HX, HD⟩ := hrel
            by_cases hks : k < s.size
            · by_cases hdg : digitB s[k] = true
              · have hdn : 48 ≤ s[k].toNat ∧ s[k].toNat ≤ 57 := by simpa [digitB] using hdg
                have g5 : decide ((s[k].toNat : Int) < 48) = false := by rw [decide_eq_false_iff_not]; omega
                have g6 : decide ((57 : Int) < (s[k].toNat : Int)) = false := by rw [decide_eq_false_iff_not]; omega
                have HD2 : Hid (∀ (q : Nat) b, q < k + 1 → (toL s)[q]? = some b → digitB b = true) := by
                  intro q b hq hb2
                  by_cases hqk : q < k
                  · exact HD.out q b hqk hb2
                  · have : q = k := by omega
                    subst this
                    rw [toL_at hks] at hb2
                    have := Option.some.inj hb2
                    rw [← this]; exact hdg
                clear hdg
                go_wp2_with fail
                exact ⟨⟨k + 1, by omega, by go_num, HX.out, HD2.out⟩, (by simp [intOf]; omega)⟩
              · have hdn : ¬ (48 ≤ s[k].toNat ∧ s[k].toNat ≤ 57) := by simpa [digitB] using hdg
                have HN := Lib.hid (digits_not (toL_at hks) (by simpa using hdg))
                clear hdg
                by_cases hlo : s[k].toNat < 48
                · have g5 : decide ((s[k].toNat : Int) < 48) = true := by rw [decide_eq_true_eq]; omega
                  clear hdn
                  go_wp2_with fail
                  go_ret2
                  exact ⟨by rw [HN.out]; rfl, HX.out⟩
                · have g5 : decide ((s[k].toNat : Int) < 48) = false := by rw [decide_eq_false_iff_not]; omega
                  have g6 : decide ((57 : Int) < (s[k].toNat : Int)) = true := by rw [decide_eq_true_eq]; omega
                  clear hdn hlo
                  go_wp2_with fail
                  go_ret2
                  exact ⟨by rw [HN.out]; rfl, HX.out⟩
            · have hke : k = s.size := by omega
              subst hke
              have hall : (toL s).all digitB = true := digits_take HD.out (Nat.le_of_eq (toL_len s))
              have HN : Hid (numL (toL s) = some (valL 0 (toL s))) := by
                unfold Hid numL
                rw [if_pos ⟨hall, by rw [toL_len]; exact HB.out.1, by rw [toL_len]; exact HB.out.2, HZ.out⟩]
              have HA := Lib.hid (atoi_of hall (by intro e; have := toL_len s; rw [e] at this; have := HB.out.1; simp at *; omega))
              have HC := Lib.hid (Tryd.strconv_Atoi s _ (by have := HB.out.2; omega) HA.out wr)
              clear hall
              go_wp2_with (go_at_call 26; refine HC.out.mono ?_; rintro e w2 ⟨rfl, t, rfl⟩)
              go_ret2
              exact ⟨by rw [HN.out]; rfl, HX.out.trans (Go.Joins.below_bytesWorld _ _ _ _ (Nat.le_refl _))⟩
        · have g3 : decide ((1 : Int) < (s.size : Int)) = false := by rw [decide_eq_false_iff_not]; omega
          clear hor
          go_wp2_with fail
          clear g1 g2
          go_loopw [27] (fun j wr => ∃ (k : Nat), k ≤ s.size ∧ j = .int .i64 k ∧ Hid (Ext w wr) ∧ Hid (∀ (q : Nat) b, q < k → (toL s)[q]? = some b → digitB b = true)) (fun j _ => s.size - (intOf j).toNat)
          case atStart => exact ⟨0, Nat.zero_le _, rfl, Ext.refl _, fun q b hq => by omega⟩
          case round =>
            obtain ⟨k, hk, rfl, HX, HD⟩ := hrel
            by_cases hks : k < s.size
            · by_cases hdg : digitB s[k] = true
              · have hdn : 48 ≤ s[k].toNat ∧ s[k].toNat ≤ 57 := by simpa [digitB] using hdg
                have g5 : decide ((s[k].toNat : Int) < 48) = false := by rw [decide_eq_false_iff_not]; omega
                have g6 : decide ((57 : Int) < (s[k].toNat : Int)) = false := by rw [decide_eq_false_iff_not]; omega
                have HD2 : Hid (∀ (q : Nat) b, q < k + 1 → (toL s)[q]? = some b → digitB b = true) := by
                  intro q b hq hb2
                  by_cases hqk : q < k
                  · exact HD.out q b hqk hb2
                  · have : q = k := by omega
                    subst this
                    rw [toL_at hks] at hb2
                    have := Option.some.inj hb2
                    rw [← this]; exact hdg
                clear hdg
                go_wp2_with fail
                exact ⟨⟨k + 1, by omega, by go_num, HX.out, HD2.out⟩, (by simp [intOf]; omega)⟩
              · have hdn : ¬ (48 ≤ s[k].toNat ∧ s[k].toNat ≤ 57) := by simpa [digitB] using hdg
                have HN := Lib.hid (digits_not (toL_at hks) (by simpa using hdg))
                clear hdg
                by_cases hlo : s[k].toNat < 48
                · have g5 : decide ((s[k].toNat : Int) < 48) = true := by rw [decide_eq_true_eq]; omega
                  clear hdn
                  go_wp2_with fail
                  go_ret2
                  exact ⟨by rw [HN.out]; rfl, HX.out⟩
                · have g5 : decide ((s[k].toNat : Int) < 48) = false := by rw [decide_eq_false_iff_not]; omega
                  have g6 : decide ((57 : Int) < (s[k].toNat : Int)) = true := by rw [decide_eq_true_eq]; omega
                  clear hdn hlo
                  go_wp2_with fail
                  go_ret2
                  exact ⟨by rw [HN.out]; rfl, HX.out⟩
            · have hke : k = s.size := by omega
              subst hke
              have hall : (toL s).all digitB = true := digits_take HD.out (Nat.le_of_eq (toL_len s))
              have HN : Hid (numL (toL s) = some (valL 0 (toL s))) := by
                unfold Hid numL
                rw [if_pos ⟨hall, by rw [toL_len]; exact HB.out.1, by rw [toL_len]; exact HB.out.2, HZ.out⟩]
              have HA := Lib.hid (atoi_of hall (by intro e; have := toL_len s; rw [e] at this; have := HB.out.1; simp at *; omega))
              have HC := Lib.hid (Tryd.strconv_Atoi s _ (by have := HB.out.2; omega) HA.out wr)
              clear hall
              go_wp2_with (go_at_call 26; refine HC.out.mono ?_; rintro e w2 ⟨rfl, t, rfl⟩)
              go_ret2
              exact ⟨by rw [HN.out]; rfl, HX.out.trans (Go.Joins.below_bytesWorld _ _ _ _ (Nat.le_refl _))⟩
end Go.Proofs.YthhkbfjolmgloaaDoor
