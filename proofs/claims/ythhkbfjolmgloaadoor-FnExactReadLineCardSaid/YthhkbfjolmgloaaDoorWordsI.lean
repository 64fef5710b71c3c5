/- impl.words reads the numbers behind given words. -/
import Derived.Test.YthhkbfjolmgloaaDoorSplit
import Derived.Lib.SplitLaws
namespace Go.Proofs.YthhkbfjolmgloaaDoor
open Go.RowKit Go.Deep
set_option linter.unusedVariables false
set_option linter.unusedSimpArgs false
theorem likeP_len (xs : List Bs) : (likeP xs).length = 2 * xs.length := by
  induction xs with
  | nil => rfl
  | cons x xs ih => simp only [likeP, List.map_cons, List.flatten_cons, List.length_append, List.length_cons, List.length_nil] at ih ⊢; omega
theorem likeP_cons (x : Bs) (xs : List Bs) : likeP (x :: xs) = some x :: none :: likeP xs := rfl
/-- Memory holds strings' variable. -/
def Max0 (m : Int) (w : World) : Prop := w.cell? ⟨0, 0, none⟩ = some (.int .i64 m) ∧ 0 < w.heap.size
theorem Max0.ext {m : Int} {w w' : World} (h : Max0 m w) (e : Ext w w') : Max0 m w' := ⟨(e.cells.1 0 _ h.2).trans h.1, by have := e.size; have := h.2; omega⟩
theorem nums_two {ws : List Bs} {ls : List (Option Bs)} {acc : List Int} {a b x : Bs} {n : Int} {R : Option (List Int)} (h : (numsL (a :: b :: ws) (some x :: none :: ls)).map (fun ns => acc ++ ns) = R) (ha : a = x) (hn : numL b = some n) : (numsL ws ls).map (fun ns => (acc ++ [n]) ++ ns) = R := by
  rw [numsL, if_pos ha] at h
  exact nums_more h hn
theorem nums_bad {ws : List Bs} {ls : List (Option Bs)} {acc : List Int} {a b x : Bs} {R : Option (List Int)} (h : (numsL (a :: b :: ws) (some x :: none :: ls)).map (fun ns => acc ++ ns) = R) (hb : a ≠ x ∨ numL b = none) : R = none := by
  rw [numsL] at h
  by_cases e : a = x
  · rw [if_pos e] at h
    exact nums_none h (hb.resolve_left (fun hn => hn e))
  · rw [if_neg e] at h; exact h.symm
set_option maxRecDepth 100000 in
set_option maxHeartbeats 8000000 in
theorem words_any {w : World} {m : Int} (hm : Max0 m w) (s : ByteArray) (hs : s.size ≤ 4000) {B : Option Addr} {cB : Nat} {names : List ByteArray} (hB : RdStr w B names) (hn : names.length ≤ 10) :
    Calls Tryd.prog 14 #[.string s, .slice B names.length cB] w fun e w' => NumsIs w.heap.size (numsL (splitL 32 (toL s)) (likeP (names.map toL))) e w' ∧ Ext w w' := by
  obtain ⟨ss, hss⟩ : ∃ ss, Hid (Lib.splitB ⟨#[32]⟩ 0 (Lib.countB s ⟨#[32]⟩) s = ss) := ⟨_, rfl⟩
  have hmap : ss.map toL = splitL 32 (toL s) := by rw [← hss.out]; exact splitB_of s 32
  have hC := Tryd.strings_Split s ⟨#[32]⟩ m w (by omega) hm.1 (by decide)
  rw [hss.out] at hC
  have hlen : Lib.countB s ⟨#[32]⟩ + 1 = ss.length := by rw [← hss.out, Lib.splitB_all _ (by decide) 0 _ s rfl]
  rw [hlen] at hC
  have HC := Lib.hid hC
  have HM := Lib.hid hmap
  have HZ := Lib.hid (words_size hs hmap)
  have hlw : ss.length ≤ 4001 := by rw [← List.length_map (f := toL), hmap]; have := splitL_len 32 (toL s); rw [toL_len] at this; omega
  obtain ⟨R, hR⟩ : ∃ R, Hid (numsL (ss.map toL) (likeP (names.map toL)) = R) := ⟨_, rfl⟩
  have hRR : numsL (splitL 32 (toL s)) (likeP (names.map toL)) = R := by rw [← hmap]; exact hR.out
  rw [hRR]
  have HB := Lib.hid (fun (W : World) (e : Ext w W) => RdStr.ext hB e)
  have HA : Hid (∀ W, Ext (w.alloc (.cells (ss.map Value.string).toArray 9)) W → RdStr W (some ⟨w.heap.size, 0, none⟩) ss) := fun W e => by
    have h := World.ownsRow_lit (base := w.heap.size) (e := 9) (size := 1) w (strs ss).toArray ss.length (Nat.le_refl _) (by unfold maxLen; omega) (by simp [strs])
    obtain ⟨_, A, c, hv, hr⟩ := rd_of_strs (ss := ss) (by simpa using h)
    simp only [Value.slice.injEq] at hv
    rw [hv.1]; exact hr.ext e
  clear hss hmap hC hlen hRR hB hm
  by_cases hl : ss.length = 2 * names.length
  · have g0 : ((ss.length : Int) != 2 * (names.length : Int)) = false := by simp; omega
    have HL := Lib.hid hl
    clear hl
    go_enter Tryd.func14, Tryd.ntmps14
    go_wp2_with (go_at_call 12; refine HC.out.mono ?_; rintro e w1 ⟨rfl, rfl⟩)
    have HX0 := Lib.hid ((Ext.refl w).alloc (.cells (ss.map Value.string).toArray 9))
    have hsz0 : w.heap.size < (w.alloc (.cells (ss.map Value.string).toArray 9)).heap.size := by rw [alloc_size]; omega
    clear g0 HC
    generalize w.alloc (.cells (ss.map Value.string).toArray 9) = w1 at *
    go_loopw [7, 22] (fun o j wr => ∃ (i : Nat) (acc : List Int), i ≤ names.length ∧ j = .int .i64 i ∧ acc.length ≤ i ∧ Hid (wr.ownsRow w1.heap.size 3 1 o acc.length (nums acc)) ∧ Hid ((numsL ((ss.map toL).drop (2 * i)) (likeP ((names.map toL).drop i))).map (fun ns => acc ++ ns) = R) ∧ Hid (Ext w1 wr)) (fun _ j _ => names.length - (intOf j).toNat)
    case atStart => exact ⟨0, [], Nat.zero_le _, rfl, Nat.le_refl 0, World.ownsRow_nil _ _ _ _, by unfold Hid; rw [← hR.out]; simp, Ext.refl _⟩
    case round =>
      obtain ⟨i, acc, hi, rfl, hacc, HO, HE, HX⟩ := hrel
      by_cases hlt : i < names.length
      · obtain ⟨x, hx⟩ := hid_of_lt hlt
        have hls := HL.out
        obtain ⟨a, ha⟩ := hid_of_lt (show 2 * i < ss.length by omega)
        obtain ⟨b, hb⟩ := hid_of_lt (show 2 * i + 1 < ss.length by omega)
        obtain ⟨bB, oB, rfl, hbB⟩ := (HB.out _ (HX0.out.trans HX.out)).base hlt
        have f0 := (HB.out _ (HX0.out.trans HX.out)).at_ hx.out
        have f1 : wr.cell? ⟨w.heap.size, 0 + 2 * i, none⟩ = some (.string a) := (HA.out _ HX.out).at_ ha.out
        have f2 : wr.cell? ⟨w.heap.size, 0 + (2 * i + 1), none⟩ = some (.string b) := (HA.out _ HX.out).at_ hb.out
        simp only [Nat.zero_add] at f1 f2
        have hlt0 : w.heap.size < wr.heap.size := by have := HX.out.size; omega
        have h1 : 2 * i < ss.length := by omega
        have h2 : 2 * i + 1 < ss.length := by omega
        have hbz := HZ.out _ b hb.out
        have HE1 : Hid ((numsL (toL a :: toL b :: (ss.map toL).drop (2 * (i + 1))) (some (toL x) :: none :: likeP ((names.map toL).drop (i + 1)))).map (fun ns => acc ++ ns) = R) := by
          unfold Hid
          have := HE.out
          rw [drop_some (l := ss.map toL) (x := toL a) (by rw [List.getElem?_map, ha.out]; rfl), drop_some (l := ss.map toL) (i := 2 * i + 1) (x := toL b) (by rw [List.getElem?_map, hb.out]; rfl), drop_some (l := names.map toL) (x := toL x) (by rw [List.getElem?_map, hx.out]; rfl), likeP_cons] at this
          exact this
        clear hls
        have HC := Lib.hid (number_any (w := wr) b hbz)
        cases hnb : numL (toL b) with
        | none =>
          rw [hnb] at HC
          have HRN := Lib.hid (nums_bad HE1.out (Or.inr hnb))
          clear hnb
          go_wp2_with (go_at_call 13; refine HC.out.mono ?_; rintro e w2 ⟨he, hX2⟩; simp only [numV] at he; subst he)
          go_ret2
          exact ⟨Or.inl ⟨HRN.out, rfl⟩, HX0.out.trans (HX.out.trans hX2)⟩
        | some n =>
          rw [hnb] at HC
          have HNB := Lib.hid hnb
          clear hnb
          by_cases hax : toL a = toL x
          · have g2 : (!a.toList == x.toList) = false := by rw [toList_eq, toList_eq, hax]; simp
            have HE2 := Lib.hid (nums_two HE1.out hax HNB.out)
            clear hax
            have hN : acc.length ≤ 1000000 := by omega
            go_upto_region 9 with (go_at_call 13; refine HC.out.mono ?_; rintro e w2 ⟨he, hX2⟩; simp only [numV] at he; subst he; have f3 := (hX2.cells.1 _ _ hlt0).trans f1)
            have HO2 := Lib.hid (ownsRow_ext HO.out hX2)
            have HX2 := Lib.hid (HX.out.trans hX2)
            have hlt2 : w.heap.size < w2.heap.size := by have := hX2.size; omega
            clear hX2 f0 f1 f2 HO HX HC hlt0
            go_wp2_with (at_builtin; refine app_any rfl _ _ 22 rfl w1.heap.size 3 1 8 _ Tryd.underlying22 info3 rfl (by decide) _ _ _ rfl (HO2.out.alloc _) (by rw [alloc_size]; have := HX2.out.size; omega) _ _ #[.int .i64 n] _ rfl (box_new _ _) rfl (one_int _) hN (by decide) _ rfl ?_)
            intro g cap w6 hown hgrow hg hlt6
            have HO6 := Lib.hid (row_snoc hown)
            have HX6 : Hid (Ext w1 w6) := Below.grown (HX2.out.alloc (.cells #[.int .i64 n] 3)) hgrow (by rw [alloc_size]; have := HX2.out.size; omega) (fun q hq => (World.ownsRow.lt HO2.out q hq).1)
            clear hown hgrow hg
            go_wp2_with fail
            exact ⟨⟨i + 1, acc ++ [n], by omega, by go_num, by simp; omega, HO6.out, HE2.out, HX6.out⟩, (by simp [intOf]; omega)⟩
          · have g2 : (!a.toList == x.toList) = true := by
              rw [toList_eq, toList_eq]
              simp only [Bool.not_eq_eq_eq_not, Bool.not_true, beq_eq_false_iff_ne]
              exact hax
            have HRN := Lib.hid (nums_bad HE1.out (Or.inl hax))
            clear hax
            go_wp2_with (go_at_call 13; refine HC.out.mono ?_; rintro e w2 ⟨he, hX2⟩; simp only [numV] at he; subst he; have f3 := (hX2.cells.1 _ _ hlt0).trans f1)
            go_ret2
            exact ⟨Or.inl ⟨HRN.out, rfl⟩, HX0.out.trans (HX.out.trans hX2)⟩
      · have hin : i = names.length := by omega
        have hE := HE.out
        have hls := HL.out
        rw [drop_end (l := ss.map toL) (by simp; omega), drop_end (l := names.map toL) (by simp; omega)] at hE
        have HE2 : Hid (R = some acc) := by unfold Hid; rw [← hE]; simp [numsL, likeP]
        clear hE hin hls
        go_wp2_with fail
        go_ret2
        exact ⟨Or.inr ⟨acc, _, HE2.out, rfl, ownsRow_mono HO.out HX0.out.size⟩, HX0.out.trans HX.out⟩
  · have g0 : ((ss.length : Int) != 2 * (names.length : Int)) = true := by simp; omega
    have HRN : Hid (R = none) := by unfold Hid; rw [← hR.out]; exact numsL_len (by rw [likeP_len, List.length_map, List.length_map]; exact hl)
    clear hl
    go_enter Tryd.func14, Tryd.ntmps14
    go_wp2_with (go_at_call 12; refine HC.out.mono ?_; rintro e w1 ⟨rfl, rfl⟩)
    go_ret2
    exact ⟨Or.inl ⟨HRN.out, rfl⟩, (by repeat (first | (with_reducible assumption) | (with_reducible exact Ext.refl _) | apply Ext.alloc | apply Ext.drewN | apply Ext.drew))⟩
end Go.Proofs.YthhkbfjolmgloaaDoor
