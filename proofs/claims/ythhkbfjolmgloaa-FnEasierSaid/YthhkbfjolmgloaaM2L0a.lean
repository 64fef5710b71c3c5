/- laws.wPlan answers true at two readings of one plan. Condition: lengths that an int holds. -/
import Derived.Test.YthhkbfjolmgloaaML0a
import Derived.BigQuiet
import Derived.Deep.QuietTactic
namespace Go.Proofs.Ythhkbfjolmgloaa
open Go.RowKit
set_option linter.unusedVariables false
set_option linter.unusedSimpArgs false
set_option maxRecDepth 100000 in
set_option maxHeartbeats 8000000 in
theorem wPlan_same {w : World} {p : List (List Int)} {u v : Value} (hu : IsPlan w p u) (hv : IsPlan w p v) (hn : p.length ≤ 9223372036854775807) (hl : ∀ (i : Nat) (t : List Int), p[i]? = some t → t.length ≤ 9223372036854775807) : Calls Try.prog 61 #[u, v] w fun e w' => e = .returned (.bool true) ∧ Ext w w' := by
  obtain ⟨A, c, rfl, hA⟩ := hu
  obtain ⟨B, d, rfl, hB⟩ := hv
  have HA := Lib.hid (fun W (e : Ext w W) => hA.ext e); have HB := Lib.hid (fun W (e : Ext w W) => hB.ext e); clear hA hB
  have HLL := Lib.hid hl; clear hl
  go_enter Try.func61, Try.ntmps61
  have hS := Lp.start2 w #[.slice A p.length c] #[.slice B p.length d] 42 42
  obtain ⟨k1, k2, k3, k4, k5, k6⟩ := hS.open2
  go_wp2_with fail
  go_loopw [17] (fun j wr => ∃ (jj : Nat), jj ≤ p.length ∧ j = .int .i64 jj ∧ Lp w wr [(w.heap.size + 1, #[.slice B p.length d], 42), (w.heap.size, #[.slice A p.length c], 42)]) (fun j _ => p.length - (intOf j).toNat)
  case atStart => exact ⟨0, Nat.zero_le _, rfl, hS⟩
  case round =>
    clear hS k1 k2 k3 k4 k5 k6
    obtain ⟨jj, hjj, rfl, hS⟩ := hrel
    obtain ⟨k1, k2, k3, k4, k5, k6⟩ := hS.open2
    have hE1 := hS.ext
    by_cases hlt : jj < p.length
    · obtain ⟨x, hx⟩ := hid_of_lt hlt
      have RA := HA.out _ hE1
      have RB := HB.out _ hE1
      obtain ⟨b, o, rfl, hb⟩ := RA.base hlt
      obtain ⟨b', o', rfl, hb'⟩ := RB.base hlt
      obtain ⟨A4, c4, e4, hR⟩ := RA.at_ hx.out
      obtain ⟨A5, c5, f4, hR5⟩ := RB.at_ hx.out
      have HI := Lib.hid (fun W (e : Ext wr W) => hR.ext e); have HJ := Lib.hid (fun W (e : Ext wr W) => hR5.ext e); clear hR hR5 RA RB
      have hN := HLL.out _ _ hx.out
      go_wp2_with fail
      go_quiet (fail)
      go_wp2_with fail
      go_loopw [39] (fun j wi => ∃ (m : Nat), m ≤ x.length ∧ j = .int .i64 m ∧ Lp w wi [(w.heap.size + 1, #[.slice (some ⟨b', o', none⟩) p.length d], 42), (w.heap.size, #[.slice (some ⟨b, o, none⟩) p.length c], 42)] ∧ Ext wr wi) (fun j _ => x.length - (intOf j).toNat)
      case atStart => exact ⟨0, Nat.zero_le _, rfl, (by repeat (first | (with_reducible exact hS) | apply Lp.alloc | apply Lp.drewN | apply Lp.drew)), (by repeat (first | (with_reducible assumption) | (with_reducible exact Ext.refl _) | apply Ext.alloc | apply Ext.drewN | apply Ext.drew))⟩
      case round =>
        clear hS k1 k2 k3 k4 k5 k6
        rename_i wq _ _ _ _ _ _
        obtain ⟨m, hm, rfl, hS, hEr⟩ := hrel
        obtain ⟨k1, k2, k3, k4, k5, k6⟩ := hS.open2
        by_cases hlm : m < x.length
        · obtain ⟨y, hy⟩ := hid_of_lt hlm
          obtain ⟨g, og, rfl, hg⟩ := (HI.out _ hEr).base hlm
          obtain ⟨g', og', rfl, hg'⟩ := (HJ.out _ hEr).base hlm
          have f0 := (HI.out _ hEr).at_ hy.out
          have g0 := (HJ.out _ hEr).at_ hy.out
          have e5 := (hEr.cells.1 _ _ (lt_of_cell e4)).trans e4
          have f5 := (hEr.cells.1 _ _ (lt_of_cell f4)).trans f4
          clear e4 f4
          go_wp2_with fail
          go_quiet (fail)
          go_wp2_with fail
          exact ⟨⟨m + 1, by omega, by go_num, (by repeat (first | (with_reducible exact hS) | apply Lp.alloc | apply Lp.drewN | apply Lp.drew)), (by repeat (first | (with_reducible assumption) | (with_reducible exact Ext.refl _) | apply Ext.alloc | apply Ext.drewN | apply Ext.drew))⟩, (by simp [intOf]; omega)⟩
        · go_wp2_with fail
          exact ⟨⟨jj + 1, by omega, by go_num, hS⟩, (by simp [intOf]; omega)⟩
    · go_wp2_with fail
      go_ret
      exact ⟨rfl, hS.ext⟩
end Go.Proofs.Ythhkbfjolmgloaa
