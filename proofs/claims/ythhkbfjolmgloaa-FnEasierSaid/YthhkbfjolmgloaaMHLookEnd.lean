/- look at a whole plan; look finds the best of all plans that come from a part of one. Condition: the line is right, the part was placed so. -/
import Derived.Test.YthhkbfjolmgloaaML16a
namespace Go.Proofs.Ythhkbfjolmgloaa
open Go.RowKit
set_option linter.unusedVariables false
set_option linter.unusedSimpArgs false
/-- Is a whole plan better than the best found? -/
def better (l : Line) (p : List (List Int)) (c : Int) : Acc → Bool
  | none => true
  | some (c', b) => decide (c < c') || (cmpP l p b == .lt)
theorem updS_better {l : Line} {p : List (List Int)} {c : Int} {acc : Acc} : updS l p c acc = if better l p c acc = true then some (c, p) else acc := by
  cases acc with
  | none => rfl
  | some cb =>
    obtain ⟨c', b⟩ := cb
    simp only [updS, better, Bool.or_eq_true, decide_eq_true_eq, beq_iff_eq]
set_option maxRecDepth 100000 in
set_option maxHeartbeats 8000000 in
theorem look_end {l : Line} {gs : Nat} {A0 : Option Addr} {c0 : Nat} {A2 : Option Addr} {c2 : Nat} (O : Ok l) {w : World} {B : Nat} {p : List (List Int)} {last : Int} {gp : Nat} {AR : Option Addr} {cR gr : Nat} {vs : Nat → Value} {acc : Acc}
    (P : Plc w B 138 l p last gp A0 c0 A2 c2 AR cR gr vs) (G : Good l p last) (hn : 0 = remain l p) (hl : last ≤ 400000) (hB : gs < B) (hA : AccIs w gs l A0 c0 A2 c2 acc) (hov : over (floorS l p last) acc = false) :
    Calls Try.prog 84 #[.pointer (some ⟨gs, 0, none⟩), .pointer (some ⟨gp, 0, none⟩), .int .i64 0] w fun e w' => (∃ v, e = .returned v) ∧ AccIs w' gs l A0 c0 A2 c2 (lookS l id 0 p last acc) ∧ Chg (fun g => g = gs) w w' := by
  have HA := Lib.hid hA
  obtain ⟨has, c', AP, m, cP, h1, h2⟩ := hA
  have hgo : has = false ∨ (has = true ∧ decide (c' < floorS l p last) = false) := by
    cases acc with
    | none => exact Or.inl h2
    | some cb => obtain ⟨c, b⟩ := cb; obtain ⟨q1, rfl, _⟩ := h2; exact Or.inr ⟨q1, hov⟩
  have hf : Fits l p := (G.can O (remain_zero G hn.symm) (by omega)).1
  have hend : Hid (lookS l id 0 p last acc = if better l p (floorS l p last) acc = true then some (floorS l p last, p) else acc) := by
    unfold Hid
    rw [lookS_end (fl := id) hov, updS_better]; rfl
  obtain ⟨bt, hbt0⟩ : ∃ bt : Bool, Hid (better l p (floorS l p last) acc = bt) := ⟨_, rfl⟩
  rw [hbt0.out] at hend
  have HM := Lib.hid h2
  have HP := Lib.hid P
  have HR := Lib.hid P.rd
  have HRP := Lib.hid P.prows.rd
  have hpl : p.length = l.trains.length := P.rows
  have p3 := P.rd.b3
  have hgp := P.rd.lt
  have HO := Lib.hid O
  have HFW := Lib.hid (G.few (by omega))
  have HFT := Lib.hid hf
  have hl0 := G.last0
  have s3 := box_cell h1 3
  have s4 := box_cell h1 4
  have s5 := box_cell h1 5
  have hsl := box_lt h1
  have HB := Lib.hid h1
  have hne : gp ≠ gs := by have := P.lop; omega
  have hne2 : gs ≠ gp := Ne.symm hne
  clear P O G h1 h2 hf hov hn
  go_enter Try.func84, Try.ntmps84
  go_wp2_with fail
  refine (floor_any HR.out HO.out HFW.out hl0 (by omega)).mono ?_
  rintro e w1 ⟨rfl, hE⟩
  obtain ⟨k1, k2⟩ := (Lp.of_ext hE).open0
  go_upto_region 1 with fail
  go_cut [22] (fun s wx => s = .bool false ∧ wx = w1)
  case first =>
    rcases hgo with rfl | ⟨rfl, hd⟩
    all_goals (
      go_wp2_with fail
      go_meet
      exact ⟨rfl, rfl⟩)
  case rest =>
    obtain ⟨rfl, rfl⟩ := hcut
    clear hgo
    go_upto_region 3 with fail
    go_cut [48] (fun s wx => s = .bool bt ∧ Ext wc wx)
    case first =>
      cases acc with
      | none =>
        obtain rfl := HM.out
        have hbt : Hid (better l p (floorS l p last) none = true) := rfl
        go_quiet (fail)
        go_wp2_with fail
        go_meet
        exact ⟨by rw [← hbt0.out, hbt.out], (by repeat (first | (with_reducible assumption) | (with_reducible exact Ext.refl _) | apply Ext.alloc | apply Ext.drewN | apply Ext.drew))⟩
      | some cb =>
        obtain ⟨c, bb⟩ := cb
        obtain ⟨rfl, rfl, hbl, hfb, grb, vsb, hPb⟩ := HM.out
        by_cases hlt2 : floorS l p last < c'
        · have hd : decide (floorS l p last < c') = true := by simp [hlt2]
          have hbt : Hid (better l p (floorS l p last) (some (c', bb)) = true) := by simp [Hid, better, hd]
          clear hlt2
          go_quiet (fail)
          go_wp2_with fail
          go_meet
          exact ⟨by rw [← hbt0.out, hbt.out], (by repeat (first | (with_reducible assumption) | (with_reducible exact Ext.refl _) | apply Ext.alloc | apply Ext.drewN | apply Ext.drew))⟩
        · have hd : decide (floorS l p last < c') = false := by simp [hlt2]
          have hbt : Hid (better l p (floorS l p last) (some (c', bb)) = (cmpP l p bb == .lt)) := by simp [Hid, better, hd]
          have HCM : Hid (∀ W, Ext w W → Calls Try.prog 128 #[.agg #[.slice AR l.trains.length cR], .agg #[.slice AP m cP]] W fun e w' => e = .returned (.bool (cmpP l p bb == .lt)) ∧ Ext W w') := fun W e => by
            have h := spec_less_any (c := cR) (d := cP) HO.out HFT.out hfb (HRP.out.ext e) (hPb.rd.ext e)
            rw [hpl, hbl] at h
            exact h
          clear hlt2 hPb
          go_still_tail 22, (by kernel_rfl)
          go_wp2_with fail
          refine (HCM.out _ (hE.trans (by repeat (first | (with_reducible assumption) | (with_reducible exact Ext.refl _) | apply Ext.alloc | apply Ext.drewN | apply Ext.drew)))).mono ?_
          rintro e w5 ⟨rfl, hE5⟩
          go_wp2_with fail
          go_meet
          exact ⟨by rw [← hbt0.out, hbt.out], Ext.trans (by repeat (first | (with_reducible assumption) | (with_reducible exact Ext.refl _) | apply Ext.alloc | apply Ext.drewN | apply Ext.drew)) hE5⟩
    case rest =>
      obtain ⟨rfl, hE2⟩ := hcut
      have hEw := hE.trans hE2
      cases bt with
      | true =>
        have hres : Hid (lookS l id 0 p last acc = some (floorS l p last, p)) := by unfold Hid; rw [hend.out, if_pos rfl]
        have hbxw := hEw.box HB.out
        have fr := box_frozen hbxw
        have HBW := Lib.hid hbxw
        clear k1 k2 s3 s4 s5 hbxw
        obtain ⟨k1, k2⟩ := (Lp.of_ext hEw).open0
        have hgw := k2 gs hsl
        have hgpw := k2 gp hgp
        have w3 := box_cell HBW.out 3
        have w4 := box_cell HBW.out 4
        have w5 := box_cell HBW.out 5
        have p3w := (k1 gp 3 hgp).trans p3
        have HPw := Lib.hid (HP.out.prows.ext hEw)
        have hXf := fun (k : Nat) => Chg.of_ext (S := fun g => g = gs) (hEw.drewN k)
        clear k1 k2 p3
        go_wp2_with fail
        have hC : Chg (fun g => g = gs) w (((wc.setCell ⟨gs, 3, none⟩ (.bool true)).setCell ⟨gs, 4, none⟩ (.int .i64 (floorS l p last))).setCell ⟨gs, 5, none⟩ (.slice AR l.trains.length cR)) := (((Chg.of_ext (S := fun g => g = gs) hEw).setCell (Or.inl rfl) _ _).setCell (Or.inl rfl) _ _).setCell (Or.inl rfl) _ _
        exact bodyPost_ret (v := .tuple #[]) (by simp [results, Try.results84, go_sem]) rfl ⟨⟨_, rfl⟩, by
          rw [hres.out]
          exact ⟨true, floorS l p last, AR, l.trains.length, cR, by rw [box_set (box_set (box_set HBW.out _ _) _ _) _ _]; rfl, rfl, rfl, hpl, HFT.out, gr, vs, ((((HPw.out.set_far (by have := HP.out.lop; have := HP.out.lor; omega) _ _).set_far (by omega) _ _).set_far (by omega) _ _).mono (by omega))⟩, hC⟩
      | false =>
        have hres : Hid (lookS l id 0 p last acc = acc) := by unfold Hid; rw [hend.out, if_neg (by decide)]
        go_wp2_with fail
        exact bodyPost_ret (v := .tuple #[]) (by simp [results, Try.results84, go_sem]) rfl ⟨⟨_, rfl⟩, by rw [hres.out]; exact HA.out.ext (hEw.trans (by repeat (first | (with_reducible assumption) | (with_reducible exact Ext.refl _) | apply Ext.alloc | apply Ext.drewN | apply Ext.drew))), Chg.of_ext (hEw.trans (by repeat (first | (with_reducible assumption) | (with_reducible exact Ext.refl _) | apply Ext.alloc | apply Ext.drewN | apply Ext.drew)))⟩
theorem look_any {l : Line} {gs : Nat} {A0 : Option Addr} {c0 : Nat} {A2 : Option Addr} {c2 : Nat} (O : Ok l) : ∀ n : Nat, LookC l gs A0 c0 A2 c2 n := by
  intro n
  induction n with
  | zero =>
    intro w B p last gp AR cR gr vs acc P G hn h10 hl hB hL hA
    by_cases hov : over (floorS l p last) acc = true
    · rw [lookS_over (fl := id) hov]
      cases acc with
      | none => cases hov
      | some cb =>
        obtain ⟨c, b⟩ := cb
        refine (look_over (n := 0) P O G (by omega) hA (by simpa [over] using hov)).mono ?_
        rintro e w' ⟨h1, h2, h3⟩
        exact ⟨h1, h2, Chg.of_ext h3⟩
    · exact look_end O P G (by omega) (by omega) hB hA (by simpa using hov)
  | succ n ih =>
    intro w B p last gp AR cR gr vs acc P G hn h10 hl hB hL hA
    by_cases hov : over (floorS l p last) acc = true
    · rw [lookS_over (fl := id) hov]
      cases acc with
      | none => cases hov
      | some cb =>
        obtain ⟨c, b⟩ := cb
        refine (look_over (n := n + 1) P O G (by omega) hA (by simpa [over] using hov)).mono ?_
        rintro e w' ⟨h1, h2, h3⟩
        exact ⟨h1, h2, Chg.of_ext h3⟩
    · have e : (((n + 1 : Nat) : Int)) = (n : Int) + 1 := by omega
      rw [e] at hn ⊢
      exact look_loop O ih P G hn (by omega) (by omega) hB hL hA (by simpa using hov)
end Go.Proofs.Ythhkbfjolmgloaa
