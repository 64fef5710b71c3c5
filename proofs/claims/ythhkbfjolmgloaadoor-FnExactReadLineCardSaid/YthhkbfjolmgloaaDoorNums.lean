/- spec.l4nums reads the words that are like a pattern. Condition: the words have at most 4000 bytes, there are at most 4001 of them. -/
import Derived.Test.YthhkbfjolmgloaaDoorWords
namespace Go.Proofs.YthhkbfjolmgloaaDoor
open Go.RowKit Go.Deep
set_option linter.unusedVariables false
set_option linter.unusedSimpArgs false
theorem toL_inj {a b : ByteArray} : toL a = toL b ↔ a = b := by
  constructor
  · intro h
    obtain ⟨a⟩ := a
    obtain ⟨b⟩ := b
    simp only [toL, Array.toList_inj] at h
    rw [h]
  · intro h; rw [h]
def likeOf (b : ByteArray) : Option Bs := if toL b = [35] then none else some (toL b)
theorem toL_at {s : ByteArray} {k : Nat} (h : k < s.size) : (toL s)[k]? = some s[k] := by
  have : k < (toL s).length := by rw [Array.length_toList]; exact h
  rw [List.getElem?_eq_getElem this]
  rfl
theorem toList_eq (s : ByteArray) : s.toList = toL s := ByteArray.toList_eq s
theorem toL_len (s : ByteArray) : (toL s).length = s.size := Array.length_toList
/-- What the reading of words by a pattern answers. -/
def NumsIs (B : Nat) (R : Option (List Int)) (e : Ending) (w' : World) : Prop := (R = none ∧ e = .returned (.tuple #[.slice none 0 0, .bool false])) ∨ ∃ ns v, R = some ns ∧ e = .returned (.tuple #[v, .bool true]) ∧ w'.ownsRow B 3 1 v ns.length (nums ns)
theorem digits_take {l : Bs} {k : Nat} (h : ∀ j b, j < k → l[j]? = some b → digitB b = true) (hk : l.length ≤ k) : l.all digitB = true := by
  rw [List.all_eq_true]
  intro b hb
  obtain ⟨j, hj⟩ := List.getElem?_of_mem hb
  exact h j b (by have := lt_of_some hj; omega) hj
theorem digits_not {l : Bs} {k : Nat} {b : UInt8} (h : l[k]? = some b) (hb : digitB b = false) : numL l = none := by
  unfold numL
  rw [if_neg]
  rintro ⟨h1, _⟩
  rw [List.all_eq_true] at h1
  have := h1 b (List.mem_of_getElem? h)
  rw [hb] at this; cases this
theorem valL_take {l : Bs} {k : Nat} {b : UInt8} (h : l[k]? = some b) : valL 0 (l.take (k + 1)) = 10 * valL 0 (l.take k) + ((b.toNat : Int) - 48) := by
  have e : l.take (k + 1) = l.take k ++ [b] := by rw [List.take_add_one, h]; rfl
  rw [e, valL_append]
  rfl
theorem valL_small {l : Bs} {k : Nat} (h : ∀ j b, j < k → l[j]? = some b → digitB b = true) (hk : k ≤ 7) : 0 ≤ valL 0 (l.take k) ∧ valL 0 (l.take k) ≤ 9999999 := by
  have hall : (l.take k).all digitB = true := digits_take (k := k) (fun j b hj hb => h j b hj (by rw [List.getElem?_take_of_lt hj] at hb; exact hb)) (by simp; omega)
  obtain ⟨h1, h2⟩ := valL_bd (l.take k) 0 hall (Int.le_refl 0)
  refine ⟨h1, Int.le_trans h2 ?_⟩
  have hlen : (l.take k).length ≤ 7 := by simp; omega
  have : (10 : Int) ^ (l.take k).length ≤ 10 ^ 7 := by
    generalize (l.take k).length = n at hlen
    have hc : n = 0 ∨ n = 1 ∨ n = 2 ∨ n = 3 ∨ n = 4 ∨ n = 5 ∨ n = 6 ∨ n = 7 := by omega
    rcases hc with e | e | e | e | e | e | e | e <;> rw [e] <;> decide
  have h7 : (10 : Int) ^ 7 = 10000000 := by decide
  omega
theorem nums_none {ws : List Bs} {ls : List (Option Bs)} {acc : List Int} {w : Bs} {R : Option (List Int)} (h : (numsL (w :: ws) (none :: ls)).map (fun ns => acc ++ ns) = R) (hn : numL w = none) : R = none := by
  rw [numsL, hn] at h
  exact h.symm
theorem nums_more {ws : List Bs} {ls : List (Option Bs)} {acc : List Int} {w : Bs} {n : Int} {R : Option (List Int)} (h : (numsL (w :: ws) (none :: ls)).map (fun ns => acc ++ ns) = R) (hn : numL w = some n) : (numsL ws ls).map (fun ns => (acc ++ [n]) ++ ns) = R := by
  rw [numsL, hn] at h
  rw [← h]
  cases numsL ws ls <;> simp
set_option maxRecDepth 100000 in
set_option maxHeartbeats 8000000 in
theorem l4nums_any {w : World} {ss ls : List ByteArray} {A B : Option Addr} {cA cB : Nat} (hA : RdStr w A ss) (hB : RdStr w B ls) (hn : ss.length ≤ 4001) (hm : ls.length ≤ 4001) (hz : ∀ (i : Nat) s, ss[i]? = some s → s.size ≤ 4000) :
    Calls Tryd.prog 20 #[.slice A ss.length cA, .slice B ls.length cB] w fun e w' => NumsIs w.heap.size (numsL (ss.map toL) (ls.map likeOf)) e w' ∧ Ext w w' := by
  have HA := Lib.hid (fun (W : World) (e : Ext w W) => RdStr.ext hA e)
  have HB := Lib.hid (fun (W : World) (e : Ext w W) => RdStr.ext hB e)
  have HZ := Lib.hid hz
  clear hA hB hz
  by_cases hl : ss.length = ls.length
  · have g0 : ((ss.length : Int) != (ls.length : Int)) = false := by simp [hl]
    have HL := Lib.hid hl
    clear hl
    obtain ⟨R, hR⟩ : ∃ R, Hid (numsL (ss.map toL) (ls.map likeOf) = R) := ⟨_, Lib.hid rfl⟩
    rw [hR.out]
    go_enter Tryd.func20, Tryd.ntmps20
    go_wp2_with fail
    clear g0
    go_loopw [6, 18] (fun o j wr => ∃ (i : Nat) (acc : List Int), i ≤ ss.length ∧ j = .int .i64 i ∧ acc.length ≤ i ∧ Hid (wr.ownsRow w.heap.size 3 1 o acc.length (nums acc)) ∧ Hid ((numsL ((ss.map toL).drop i) ((ls.map likeOf).drop i)).map (fun ns => acc ++ ns) = R) ∧ Hid (Ext w wr)) (fun _ j _ => ss.length - (intOf j).toNat)
    case atStart => exact ⟨0, [], Nat.zero_le _, rfl, Nat.le_refl 0, World.ownsRow_nil _ _ _ _, by unfold Hid; rw [← hR.out]; simp, Ext.refl _⟩
    case round =>
      obtain ⟨i, acc, hi, rfl, hacc, HO, HE, HX⟩ := hrel
      by_cases hlt : i < ss.length
      · obtain ⟨s, hs⟩ := hid_of_lt hlt
        obtain ⟨x, hx⟩ := hid_of_lt (show i < ls.length by rw [← HL.out]; exact hlt)
        have hil : i < ls.length := by rw [← HL.out]; exact hlt
        obtain ⟨b, o, rfl, hb⟩ := (HA.out _ HX.out).base hlt
        obtain ⟨b', o', rfl, hb'⟩ := (HB.out _ HX.out).base hil
        have f0 := (HA.out _ HX.out).at_ hs.out
        have f1 := (HB.out _ HX.out).at_ hx.out
        have hzs := HZ.out i s hs.out
        have hE := HE.out
        rw [drop_some (l := ss.map toL) (x := toL s) (by rw [List.getElem?_map, hs.out]; rfl), drop_some (l := ls.map likeOf) (x := likeOf x) (by rw [List.getElem?_map, hx.out]; rfl)] at hE
        by_cases hx35 : toL x = [35]
        · have g1 : (!x.toList == [35]) = false := by rw [toList_eq, hx35]; rfl
          have hlk : likeOf x = none := if_pos hx35
          rw [hlk] at hE
          clear hlk hx35
          have HE1 := Lib.hid hE
          clear hE
          go_wp2_with fail
          go_loopw [9, 10] (fun u j wr' => ∃ (k : Nat) (v : Int), k ≤ s.size ∧ j = .int .i64 k ∧ u = .int .i64 v ∧ wr' = wr ∧ Hid (∀ (q : Nat) b, q < k → (toL s)[q]? = some b → digitB b = true) ∧ Hid (k ≤ 7 → v = valL 0 ((toL s).take k))) (fun _ j _ => s.size - (intOf j).toNat)
          case atStart => exact ⟨0, 0, Nat.zero_le _, rfl, rfl, rfl, fun q b hq => by omega, fun _ => rfl⟩
          case round =>
            obtain ⟨k, v, hk, rfl, rfl, rfl, HD, HV⟩ := hrel
            by_cases hks : k < s.size
            · by_cases hdg : digitB s[k] = true
              · have hdn : 48 ≤ s[k].toNat ∧ s[k].toNat ≤ 57 := by simpa [digitB] using hdg
                have g2 : decide ((s[k].toNat : Int) < 48) = false := by simp; omega
                have g3 : decide ((57 : Int) < (s[k].toNat : Int)) = false := by simp; omega
                have HD2 : Hid (∀ (q : Nat) b, q < k + 1 → (toL s)[q]? = some b → digitB b = true) := by
                  intro q b hq hb2
                  by_cases hqk : q < k
                  · exact HD.out q b hqk hb2
                  · have : q = k := by omega
                    subst this
                    rw [toL_at hks] at hb2
                    have := Option.some.inj hb2
                    rw [← this]; exact hdg
                have HV2 : Hid (k + 1 ≤ 7 → wrap64 (wrap64 (10 * v) + ((s[k].toNat : Int) - 48)) = valL 0 ((toL s).take (k + 1))) := by
                  intro h7
                  have hv := HV.out (by omega)
                  obtain ⟨b1, b2⟩ := valL_small (l := toL s) (k := k) HD.out (by omega)
                  rw [← hv] at b1 b2
                  rw [valL_take (toL_at hks), ← hv, IntWalk.wrap64_in (10 * v) (by omega), IntWalk.wrap64_in _ (by omega)]
                clear hdg
                go_wp2_with fail
                exact ⟨⟨k + 1, _, by omega, by go_num, rfl, trivial, HD2.out, HV2.out⟩, (by simp [intOf]; omega)⟩
              · have hdn : ¬ (48 ≤ s[k].toNat ∧ s[k].toNat ≤ 57) := by simpa [digitB] using hdg
                have HN := Lib.hid (digits_not (toL_at hks) (by simpa using hdg))
                have HR2 : Hid (R = none) := by
                  have := HE1.out
                  rw [numsL, HN.out] at this
                  exact this.symm
                clear hdg
                by_cases hlo : s[k].toNat < 48
                · have g2 : decide ((s[k].toNat : Int) < 48) = true := by simp; omega
                  clear hdn
                  go_wp2_with fail
                  go_ret2
                  exact ⟨Or.inl ⟨HR2.out, rfl⟩, HX.out⟩
                · have g2 : decide ((s[k].toNat : Int) < 48) = false := by simp; omega
                  have g3 : decide ((57 : Int) < (s[k].toNat : Int)) = true := by simp; omega
                  clear hdn hlo
                  go_wp2_with fail
                  go_ret2
                  exact ⟨Or.inl ⟨HR2.out, rfl⟩, HX.out⟩
            · have hke : k = s.size := by omega
              subst hke
              have hall : (toL s).all digitB = true := digits_take HD.out (Nat.le_of_eq (toL_len s))
              by_cases h0 : s.size = 0
              · have g2 : ((s.size : Int) == 0) = true := by rw [beq_iff_eq]; omega
                have HR2 : Hid (R = none) := nums_none HE1.out (by unfold numL; rw [if_neg]; rintro ⟨_, h, _⟩; rw [toL_len] at h; omega)
                clear hall h0
                go_wp2_with fail
                go_ret2
                exact ⟨Or.inl ⟨HR2.out, rfl⟩, HX.out⟩
              · have g2 : ((s.size : Int) == 0) = false := by rw [beq_eq_false_iff_ne]; omega
                by_cases h7 : 7 < s.size
                · have g3 : decide ((7 : Int) < (s.size : Int)) = true := by simp; omega
                  have HR2 : Hid (R = none) := nums_none HE1.out (by unfold numL; rw [if_neg]; rintro ⟨_, _, h, _⟩; rw [toL_len] at h; omega)
                  clear hall h0 h7
                  go_wp2_with fail
                  go_ret2
                  exact ⟨Or.inl ⟨HR2.out, rfl⟩, HX.out⟩
                · have g3 : decide ((7 : Int) < (s.size : Int)) = false := by simp; omega
                  have hs0 : 0 < s.size := by omega
                  have hl0 : (toL s)[0]? = some s[0] := toL_at hs0
                  by_cases hz0 : s[0].toNat = 48 ∧ 1 < s.size
                  · have g4 : ((s[0].toNat : Int) == 48) = true := by rw [beq_iff_eq]; have := hz0.1; omega
                    have g5 : decide ((1 : Int) < (s.size : Int)) = true := by simp; omega
                    have HR2 : Hid (R = none) := nums_none HE1.out (by
                      unfold numL; rw [if_neg]; rintro ⟨_, _, _, h⟩
                      exact h ⟨by rw [toL_len]; exact hz0.2, by rw [hl0]; congr 1; exact UInt8.toNat_inj.1 hz0.1⟩)
                    clear hall h0 h7 hl0 hz0
                    go_wp2_with fail
                    go_ret2
                    exact ⟨Or.inl ⟨HR2.out, rfl⟩, HX.out⟩
                  · have g45 : (((s[0].toNat : Int) == 48) && decide ((1 : Int) < (s.size : Int))) = false := by
                      rw [Bool.and_eq_false_iff]
                      by_cases hz : s[0].toNat = 48
                      · exact Or.inr (by rw [decide_eq_false_iff_not]; omega)
                      · exact Or.inl (by rw [beq_eq_false_iff_ne]; omega)
                    have hnum : numL (toL s) = some v := by
                      unfold numL
                      rw [if_pos, HV.out (by omega), List.take_of_length_le (Nat.le_of_eq (toL_len s))]
                      refine ⟨hall, by rw [toL_len]; omega, by rw [toL_len]; omega, ?_⟩
                      rintro ⟨h1, h2⟩
                      rw [toL_len] at h1
                      rw [hl0] at h2
                      exact hz0 ⟨by rw [Option.some.inj h2]; rfl, h1⟩
                    have HE2 : Hid ((numsL ((ss.map toL).drop (i + 1)) ((ls.map likeOf).drop (i + 1))).map (fun ns => (acc ++ [v]) ++ ns) = R) := nums_more HE1.out hnum
                    have hN : acc.length ≤ 1000000 := by omega
                    clear hall h0 h7 hl0 hz0 hnum
                    by_cases gg : ((s[0].toNat : Int) == 48) = true
                    · have g5 : decide ((1 : Int) < (s.size : Int)) = false := by rw [gg] at g45; exact g45
                      clear g45
                      go_wp2_with (at_builtin; refine app_any rfl _ _ 22 rfl w.heap.size 3 1 8 _ Tryd.underlying22 info3 rfl (by decide) _ _ _ rfl (HO.out.alloc _) (by rw [alloc_size]; have := HX.out.size; omega) _ _ #[.int .i64 v] _ rfl (box_new _ _) rfl (one_int _) hN (by decide) _ rfl ?_)
                      intro g cap w6 hown hgrow hg hlt6
                      have HO6 := Lib.hid (row_snoc hown)
                      have HX6 := Lib.hid ((HX.out.alloc (.cells #[.int .i64 v] 3)).grown hgrow (by rw [alloc_size]; have := HX.out.size; omega) (fun q hq => (World.ownsRow.lt HO.out q hq).1))
                      clear hown hgrow hg HO HX
                      go_wp2_with fail
                      exact ⟨⟨i + 1, acc ++ [v], by omega, by go_num, by simp; omega, HO6.out, HE2.out, HX6.out⟩, (by simp [intOf]; omega)⟩
                    · have g4 : ((s[0].toNat : Int) == 48) = false := by simpa using gg
                      clear g45 gg
                      go_wp2_with (at_builtin; refine app_any rfl _ _ 22 rfl w.heap.size 3 1 8 _ Tryd.underlying22 info3 rfl (by decide) _ _ _ rfl (HO.out.alloc _) (by rw [alloc_size]; have := HX.out.size; omega) _ _ #[.int .i64 v] _ rfl (box_new _ _) rfl (one_int _) hN (by decide) _ rfl ?_)
                      intro g cap w6 hown hgrow hg hlt6
                      have HO6 := Lib.hid (row_snoc hown)
                      have HX6 := Lib.hid ((HX.out.alloc (.cells #[.int .i64 v] 3)).grown hgrow (by rw [alloc_size]; have := HX.out.size; omega) (fun q hq => (World.ownsRow.lt HO.out q hq).1))
                      clear hown hgrow hg HO HX
                      go_wp2_with fail
                      exact ⟨⟨i + 1, acc ++ [v], by omega, by go_num, by simp; omega, HO6.out, HE2.out, HX6.out⟩, (by simp [intOf]; omega)⟩
        · have hlk : likeOf x = some (toL x) := if_neg hx35
          rw [hlk] at hE
          have g1 : (!x.toList == [35]) = true := by
            rw [toList_eq]
            simp only [Bool.not_eq_eq_eq_not, Bool.not_true, beq_eq_false_iff_ne]
            exact hx35
          clear hlk hx35
          by_cases hsx : toL s = toL x
          · have g2 : (!s.toList == x.toList) = false := by rw [toList_eq, toList_eq, hsx]; simp
            have HE2 : Hid ((numsL ((ss.map toL).drop (i + 1)) ((ls.map likeOf).drop (i + 1))).map (fun ns => acc ++ ns) = R) := by
              unfold Hid
              rw [numsL, if_pos hsx] at hE
              exact hE
            clear hE hsx
            go_wp2_with fail
            exact ⟨⟨i + 1, acc, by omega, by go_num, by omega, HO.out, HE2.out, HX.out⟩, (by simp [intOf]; omega)⟩
          · have g2 : (!s.toList == x.toList) = true := by
              rw [toList_eq, toList_eq]
              simp only [Bool.not_eq_eq_eq_not, Bool.not_true, beq_eq_false_iff_ne]
              exact hsx
            have HE2 : Hid (R = none) := by
              unfold Hid
              rw [numsL, if_neg hsx] at hE
              exact hE.symm
            clear hE hsx
            go_wp2_with fail
            go_ret2
            exact ⟨Or.inl ⟨HE2.out, rfl⟩, HX.out⟩
      · have hin : i = ss.length := by omega
        have hE := HE.out
        rw [drop_end (l := ss.map toL) (by simp; omega), drop_end (l := ls.map likeOf) (by rw [List.length_map, ← HL.out]; omega)] at hE
        have hE2 : R = some acc := by rw [← hE]; simp [numsL]
        have HE2 := Lib.hid hE2
        clear hE hE2 hin
        go_wp2_with fail
        go_ret2
        exact ⟨Or.inr ⟨acc, _, HE2.out, rfl, HO.out⟩, HX.out⟩
  · have g0 : ((ss.length : Int) != (ls.length : Int)) = true := by simp; omega
    have HR : Hid (numsL (ss.map toL) (ls.map likeOf) = none) := numsL_len (by simpa using hl)
    clear hl
    go_enter Tryd.func20, Tryd.ntmps20
    go_wp2_with fail
    go_ret2
    exact ⟨Or.inl ⟨HR.out, rfl⟩, (by repeat (first | (with_reducible assumption) | (with_reducible exact Ext.refl _) | apply Ext.alloc | apply Ext.drewN | apply Ext.drew))⟩
end Go.Proofs.YthhkbfjolmgloaaDoor
