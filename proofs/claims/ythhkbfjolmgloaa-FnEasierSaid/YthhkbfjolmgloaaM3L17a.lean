/- laws.wLine and wBest answer true at two readings of one line, of one answer. Condition: the line holds at most 2^20 values. -/
import Derived.Test.YthhkbfjolmgloaaM2L0a
import Derived.Test.YthhkbfjolmgloaaML17a
import Derived.Test.YthhkbfjolmgloaaML13a
import Derived.BigQuiet
import Derived.Deep.QuietTactic
import Derived.StillTailTactics
namespace Go.Proofs.Ythhkbfjolmgloaa
open Go.RowKit
set_option linter.unusedVariables false
set_option linter.unusedSimpArgs false
set_option maxRecDepth 100000 in
set_option maxHeartbeats 8000000 in
theorem wBest_same {w : World} {a : Bool} {b : Int} {p : List (List Int)} {A A' : Option Addr} {c c' : Nat} (hu : RdRows w A p) (hv : RdRows w A' p) (hn : p.length ≤ 9223372036854775807) (hl : ∀ (i : Nat) (t : List Int), p[i]? = some t → t.length ≤ 9223372036854775807) :
    Calls Try.prog 30 #[bestV a b (.slice A p.length c), bestV a b (.slice A' p.length c')] w fun e w' => e = .returned (.bool true) ∧ Ext w w' := by
  have HU : Hid (IsPlan w p (.agg #[.slice A p.length c])) := ⟨A, c, rfl, hu⟩
  have HV : Hid (IsPlan w p (.agg #[.slice A' p.length c'])) := ⟨A', c', rfl, hv⟩
  have HLL := Lib.hid hl
  have ha : (a == a) = true := by simp
  have hb : (b == b) = true := by simp
  clear hu hv hl
  unfold bestV
  go_enter Try.func30, Try.ntmps30
  go_wp2_with fail
  refine (wPlan_same (HU.out.ext (by repeat (first | (with_reducible assumption) | (with_reducible exact Ext.refl _) | apply Ext.alloc | apply Ext.drewN | apply Ext.drew))) (HV.out.ext (by repeat (first | (with_reducible assumption) | (with_reducible exact Ext.refl _) | apply Ext.alloc | apply Ext.drewN | apply Ext.drew))) hn HLL.out).mono ?_
  rintro e w1 ⟨rfl, hE⟩
  go_wp2_with fail
  go_ret
  exact ⟨rfl, Ext.trans (by repeat (first | (with_reducible assumption) | (with_reducible exact Ext.refl _) | apply Ext.alloc | apply Ext.drewN | apply Ext.drew)) hE⟩
set_option maxRecDepth 100000 in
set_option maxHeartbeats 8000000 in
theorem wLine_same {w : World} {l : Line} {u v : Value} (hu : IsLine w l u) (hv : IsLine w l v) (O : Ok l) :
    Calls Try.prog 31 #[u, v] w fun e w' => e = .returned (.bool true) ∧ Ext w w' := by
  obtain ⟨A0, c0, A2, c2, rfl, h0, h2⟩ := hu
  obtain ⟨B0, d0, B2, d2, rfl, g0, g2⟩ := hv
  have n12 := O.bd.tracks
  have n5 := O.ntr
  have HO := Lib.hid O
  have hgg : (l.gap != l.gap) = false := by simp
  have H0 := Lib.hid h0; have H2 := Lib.hid h2; have G0 := Lib.hid g0; have G2 := Lib.hid g2; clear h0 h2 g0 g2 O
  go_enter Try.func31, Try.ntmps31
  have hS := Lp.start2 w #[.slice A0 l.tracks.length c0, .int .i64 l.gap, .slice A2 l.trains.length c2] #[.slice B0 l.tracks.length d0, .int .i64 l.gap, .slice B2 l.trains.length d2] 33 33
  obtain ⟨k1, k2, k3, k4, k5, k6⟩ := hS.open2
  go_wp2_with fail
  clear hgg
  go_loopw [36] (fun j wr => ∃ (jj : Nat), jj ≤ l.tracks.length ∧ j = .int .i64 jj ∧ Lp w wr [(w.heap.size + 1, #[.slice B0 l.tracks.length d0, .int .i64 l.gap, .slice B2 l.trains.length d2], 33), (w.heap.size, #[.slice A0 l.tracks.length c0, .int .i64 l.gap, .slice A2 l.trains.length c2], 33)]) (fun j _ => l.tracks.length - (intOf j).toNat)
  case atStart => exact ⟨0, Nat.zero_le _, rfl, hS⟩
  case round =>
    clear hS k1 k2 k3 k4 k5 k6
    obtain ⟨jj, hjj, rfl, hS⟩ := hrel
    obtain ⟨k1, k2, k3, k4, k5, k6⟩ := hS.open2
    by_cases hlt : jj < l.tracks.length
    · obtain ⟨x, hx⟩ := hid_of_lt hlt
      obtain ⟨b, o, rfl, hb⟩ := H0.out.base hlt
      obtain ⟨b', o', rfl, hb'⟩ := G0.out.base hlt
      have e0 := H0.out.at_ hx.out
      have f0 := G0.out.at_ hx.out
      have c30 := k3 0
      have c50 := k5 0
      have hxx : (x != x) = false := by simp
      clear k3 k5
      go_wp2_with fail
      go_quiet (fail)
      go_wp2_with fail
      exact ⟨⟨jj + 1, by omega, by go_num, (by repeat (first | (with_reducible exact hS) | apply Lp.alloc | apply Lp.drewN | apply Lp.drew))⟩, (by simp [intOf]; omega)⟩
    · go_wp2_with fail
      clear k1 k2 k3 k4 k5 k6
      go_loopw [54] (fun j wr => ∃ (jj : Nat), jj ≤ l.trains.length ∧ j = .int .i64 jj ∧ Lp w wr [(w.heap.size + 1, #[.slice B0 l.tracks.length d0, .int .i64 l.gap, .slice B2 l.trains.length d2], 33), (w.heap.size, #[.slice A0 l.tracks.length c0, .int .i64 l.gap, .slice A2 l.trains.length c2], 33)]) (fun j _ => l.trains.length - (intOf j).toNat)
      case atStart => exact ⟨0, Nat.zero_le _, rfl, hS⟩
      case round =>
        clear hS
        rename_i wq _ _ _ _
        obtain ⟨jt, hjt, rfl, hS⟩ := hrel
        obtain ⟨k1, k2, k3, k4, k5, k6⟩ := hS.open2
        by_cases hlj : jt < l.trains.length
        · obtain ⟨x, hx⟩ := hid_of_lt hlj
          obtain ⟨b, o, rfl, hb⟩ := H2.out.base hlj
          obtain ⟨b', o', rfl, hb'⟩ := G2.out.base hlj
          obtain ⟨e0, e1, e2, e3, A4, c4, e4, hR⟩ := H2.out.at_ hx.out
          obtain ⟨f0, f1, f2, f3, A5, c5, f4, hR5⟩ := G2.out.at_ hx.out
          have HI := Lib.hid hR; have HJ := Lib.hid hR5; clear hR hR5
          have hN := TrOk.nlegs HO.out hx.out
          have c32 := k3 2
          have c52 := k5 2
          have q0 : (x.frm != x.frm) = false := by simp
          have q1 : (x.ready != x.ready) = false := by simp
          have q2 : (x.due != x.due) = false := by simp
          have q3 : (x.weight != x.weight) = false := by simp
          clear k3 k5
          go_wp2_with fail
          have hS2 := (hS.new #[.int .i64 x.frm, .int .i64 x.ready, .int .i64 x.due, .int .i64 x.weight, .slice A4 x.legs.length c4] 80).newAt (g := wr.heap.size + 1) #[.int .i64 x.frm, .int .i64 x.ready, .int .i64 x.due, .int .i64 x.weight, .slice A5 x.legs.length c5] 80 (by rw [alloc_size])
          obtain ⟨wo, hwo⟩ : ∃ wo, Hid (wo = wr) := ⟨_, rfl⟩
          clear k1 k2 k4 k6 c32 c52 q0 q1 q2 q3
          go_loopw [105] (fun j wi => ∃ (m : Nat), m ≤ x.legs.length ∧ j = .int .i64 m ∧ Lp w wi ((wr.heap.size + 1, #[.int .i64 x.frm, .int .i64 x.ready, .int .i64 x.due, .int .i64 x.weight, .slice A5 x.legs.length c5], 80) :: (wr.heap.size, #[.int .i64 x.frm, .int .i64 x.ready, .int .i64 x.due, .int .i64 x.weight, .slice A4 x.legs.length c4], 80) :: [(w.heap.size + 1, #[.slice B0 l.tracks.length d0, .int .i64 l.gap, .slice (some ⟨b', o', none⟩) l.trains.length d2], 33), (w.heap.size, #[.slice A0 l.tracks.length c0, .int .i64 l.gap, .slice (some ⟨b, o, none⟩) l.trains.length c2], 33)])) (fun j _ => x.legs.length - (intOf j).toNat)
          case atStart => exact ⟨0, Nat.zero_le _, rfl, hS2⟩
          case round =>
            clear hS hS2
            obtain ⟨m, hm, rfl, hS⟩ := hrel
            obtain ⟨k1, k2, k3, k4, k5, k6⟩ := hS.open2
            by_cases hlm : m < x.legs.length
            · obtain ⟨y, hy⟩ := hid_of_lt hlm
              obtain ⟨g, og, rfl, hg⟩ := HI.out.base hlm
              obtain ⟨g', og', rfl, hg'⟩ := HJ.out.base hlm
              obtain ⟨r0, r1, r2⟩ := HI.out.at_ hy.out
              obtain ⟨s0, s1, s2⟩ := HJ.out.at_ hy.out
              have c34 := k3 4
              have c54 := k5 4
              clear k3 k5
              go_wp2_with fail
              go_quiet (fail)
              go_wp2_with fail
              exact ⟨⟨m + 1, by omega, by go_num, (by repeat (first | (with_reducible exact hS) | apply Lp.alloc | apply Lp.drewN | apply Lp.drew))⟩, (by simp [intOf]; omega)⟩
            · go_wp2_with fail
              exact ⟨⟨jt + 1, by omega, by go_num, hS.tail.tail⟩, (by simp [intOf]; omega)⟩
        · go_wp2_with fail
          go_ret
          exact ⟨rfl, hS.ext⟩
end Go.Proofs.Ythhkbfjolmgloaa
