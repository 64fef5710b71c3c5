/- spec.l4words cuts a line at each of its blanks. Condition: the line has at most 4000 bytes. -/
import Derived.Test.YthhkbfjolmgloaaDoorMem
import Derived.Laws.BytesArg
import Derived.BigQuiet
import Derived.Deep.QuietTactic
namespace Go.Proofs.YthhkbfjolmgloaaDoor
open Go.RowKit Go.Deep
set_option linter.unusedVariables false
set_option linter.unusedSimpArgs false
theorem info9 : (Tryd.prog.info? 9).map (fun i => (i.zero, i.size, i.bytes)) = some (some (.string ⟨#[]⟩), 1, 16) := by kernel_rfl
def strs (ss : List ByteArray) : List Value := ss.map Value.string
theorem strs_length (ss : List ByteArray) : (strs ss).length = ss.length := by simp [strs]
abbrev toL (s : ByteArray) : Bs := s.data.toList
theorem one_str (s : ByteArray) : ∀ u ∈ (#[Value.string s] : Array Value).toList, u.oneCell' = true := by
  intro u hu
  simp at hu
  subst hu; rfl
theorem strs_snoc {w : World} {B : Nat} {v : Value} {ss : List ByteArray} {s : ByteArray} (h : w.ownsRow B 9 1 v (ss.length + 1) (strs ss ++ (#[Value.string s] : Array Value).toList)) : w.ownsRow B 9 1 v (ss ++ [s]).length (strs (ss ++ [s])) := by
  have e : strs (ss ++ [s]) = strs ss ++ (#[Value.string s] : Array Value).toList := by simp [strs]
  rw [e, List.length_append]
  exact h
def AtStr (w : World) (b o : Nat) (s : ByteArray) : Prop := w.cell? ⟨b, o, none⟩ = some (.string s)
abbrev RdStr (w : World) (A : Option Addr) (ss : List ByteArray) : Prop := Rd AtStr w A ss 1
theorem RdStr.ext {w w' : World} {A : Option Addr} {ss : List ByteArray} (h : RdStr w A ss) (e : Ext w w') : RdStr w' A ss := Rd.ext (fun b o x hb h => (e.cells.1 b o hb).trans h) h e
theorem RdStr.at_ {w : World} {b off : Nat} {ss : List ByteArray} (h : RdStr w (some ⟨b, off, none⟩) ss) {j : Nat} {x : ByteArray} (hx : ss[j]? = some x) : w.cell? ⟨b, off + j, none⟩ = some (.string x) := by
  have := Rd.at_ h hx
  rwa [Nat.mul_one] at this
theorem rd_of_strs {w : World} {B n : Nat} {v : Value} {ss : List ByteArray} (h : w.ownsRow B 9 1 v n (strs ss)) : n = ss.length ∧ ∃ A c, v = .slice A ss.length c ∧ RdStr w A ss := by
  have hl := h.1
  rw [strs_length, Nat.mul_one] at hl
  refine ⟨hl.symm, ?_⟩
  subst hl
  rcases h.2 with ⟨h1, h2⟩ | ⟨g, cap, cur, h1, h2, h3, h4, h5, h6, h7⟩
  · obtain rfl : ss = [] := List.eq_nil_of_length_eq_zero h2
    exact ⟨none, 0, h1, fun j x hx => by simp at hx⟩
  · refine ⟨some ⟨g, 0, none⟩, cap, h1, fun j x hx => ⟨g, 0, rfl, box_lt h3, ?_⟩⟩
    have hj := lt_of_some hx
    show w.cell? ⟨g, 0 + j * 1, none⟩ = some (.string x)
    rw [Nat.zero_add, Nat.mul_one, box_cell h3]
    have e : cur.toList[j]? = (strs ss)[j]? := by rw [← h7, List.getElem?_take_of_lt (by omega)]
    have e2 : cur[j]? = cur.toList[j]? := by simp
    rw [e2, e]
    simp [strs, hx]
set_option maxRecDepth 100000 in
set_option maxHeartbeats 8000000 in
theorem l4words_any {w : World} (s : ByteArray) (hn : s.size ≤ 4000) :
    Calls Tryd.prog 19 #[.string s] w fun e w' => ∃ (v : Value) (ss : List ByteArray), e = .returned v ∧ w'.ownsRow w.heap.size 9 1 v ss.length (strs ss) ∧ ss.map toL = splitL 32 (toL s) ∧ Ext w w' := by
  go_enter Tryd.func19, Tryd.ntmps19
  go_wp2_with fail
  go_loopw [3, 4, 5] (fun o u j wr => ∃ (i : Nat) (os : List ByteArray) (wd : ByteArray), i ≤ s.size + 1 ∧ j = .int .i64 i ∧ u = .string wd ∧ Hid (wr.ownsRow w.heap.size 9 1 o os.length (strs os)) ∧ os.length ≤ i ∧ wd.size ≤ i ∧ Hid (i ≤ s.size → os.map toL ++ gluL (toL wd) (splitL 32 ((toL s).drop i)) = splitL 32 (toL s)) ∧ Hid (s.size < i → os.map toL = splitL 32 (toL s)) ∧ Hid (Ext w wr)) (fun _ _ j _ => s.size + 1 - (intOf j).toNat)
  case atStart => exact ⟨0, [], ⟨#[]⟩, by omega, rfl, rfl, World.ownsRow_nil _ _ _ _, by simp, Nat.le_refl 0, fun _ => by simp [toL, gluL_nil], fun h => by omega, Ext.refl _⟩
  case round =>
    obtain ⟨i, os, wd, hi, rfl, rfl, HO, hos, hwd, HE, HF, HX⟩ := hrel
    by_cases hlt : i ≤ s.size
    · by_cases he : i = s.size
      · subst he
        have g1 : ((s.size : Int) == (s.size : Int)) = true := by simp
        have hN : os.length ≤ 1000000 := by omega
        have hE := HE.out (Nat.le_refl _)
        have hdn : (toL s).drop s.size = [] := List.drop_eq_nil_of_le (Nat.le_of_eq Array.length_toList)
        rw [hdn, gluL_end] at hE
        have HE2 : Hid (s.size < s.size + 1 → (os ++ [wd]).map toL = splitL 32 (toL s)) := fun _ => by rw [List.map_append]; exact hE
        clear hE
        go_wp2_with (at_builtin; refine app_any rfl _ _ 39 rfl w.heap.size 9 1 16 _ Tryd.underlying39 info9 rfl (by decide) _ _ _ rfl (HO.out.alloc _) (by rw [alloc_size]; have := HX.out.size; omega) _ _ #[.string wd] _ rfl (box_new _ _) rfl (one_str _) hN (by decide) _ rfl ?_)
        intro g cap w6 hown hgrow hg hlt6
        have HO6 := Lib.hid (strs_snoc hown)
        have HX6 := Lib.hid ((HX.out.alloc (.cells #[.string wd] 9)).grown hgrow (by rw [alloc_size]; have := HX.out.size; omega) (fun q hq => (World.ownsRow.lt HO.out q hq).1))
        clear hown hgrow hg HO HX
        go_wp2_with fail
        exact ⟨⟨s.size + 1, os ++ [wd], ⟨#[]⟩, by omega, by go_num, rfl, HO6.out, by simp; omega, Nat.zero_le _, fun h => by omega, HE2.out, HX6.out⟩, by simp [intOf]⟩
      · have hil : i < s.size := by omega
        have g1 : ((i : Int) == (s.size : Int)) = false := by simp; omega
        have hd : (toL s).drop i = s[i] :: (toL s).drop (i + 1) := by
          rw [List.drop_eq_getElem_cons (by simp [toL]; exact hil)]
          rfl
        have hE := HE.out (by omega)
        rw [hd] at hE
        have hN : os.length ≤ 1000000 := by omega
        by_cases hb : s[i] = 32
        · have g2 : ((s[i].toNat : Int) == 32) = true := by rw [hb]; rfl
          rw [gluL_sep _ hb] at hE
          have HE2 : Hid (i + 1 ≤ s.size → (os ++ [wd]).map toL ++ gluL (toL ⟨#[]⟩) (splitL 32 ((toL s).drop (i + 1))) = splitL 32 (toL s)) := fun _ => by rw [List.map_append, List.append_assoc]; exact hE
          clear hE hd hb
          go_wp2_with (at_builtin; refine app_any rfl _ _ 39 rfl w.heap.size 9 1 16 _ Tryd.underlying39 info9 rfl (by decide) _ _ _ rfl (HO.out.alloc _) (by rw [alloc_size]; have := HX.out.size; omega) _ _ #[.string wd] _ rfl (box_new _ _) rfl (one_str _) hN (by decide) _ rfl ?_)
          intro g cap w6 hown hgrow hg hlt6
          have HO6 := Lib.hid (strs_snoc hown)
          have HX6 := Lib.hid ((HX.out.alloc (.cells #[.string wd] 9)).grown hgrow (by rw [alloc_size]; have := HX.out.size; omega) (fun q hq => (World.ownsRow.lt HO.out q hq).1))
          clear hown hgrow hg HO HX
          go_wp2_with fail
          exact ⟨⟨i + 1, os ++ [wd], ⟨#[]⟩, by omega, by go_num, rfl, HO6.out, by simp; omega, Nat.zero_le _, HE2.out, fun h => by omega, HX6.out⟩, (by simp [intOf]; omega)⟩
        · have g2 : ((s[i].toNat : Int) == 32) = false := by
            simp only [beq_eq_false_iff_ne, ne_eq]
            intro e
            exact hb (UInt8.toNat_inj.1 (by have : s[i].toNat = 32 := by omega
                                            rw [this]; rfl))
          rw [gluL_more _ hb] at hE
          obtain ⟨bs, hbs⟩ : ∃ bs, Hid (strOfNums [(s[i].toNat : Int)] = bs) := ⟨strOfNums [(s[i].toNat : Int)], Lib.hid rfl⟩
          have hbl : toL bs = [s[i]] := by rw [← hbs.out]; simp [strOfNums, toL]
          have hcv := run_convert_bytes_arg (P := Tryd.prog) (wr.alloc (.cells #[.int .u8 (s[i].toNat : Int)] 5)) 67 5 Tryd.underlying67 Tryd.underlying5 wr.heap.size 0 1 1 [(s[i].toNat : Int)] rfl (fun k hk => by have e : k = 0 := Nat.lt_one_iff.1 hk; subst e; exact box_cell (box_new wr _) 0) 9 Tryd.underlying9
          rw [hbs.out] at hcv
          have hbz : bs.size = 1 := by rw [← hbs.out, strOfNums_size]; rfl
          have hsz : ¬ 9223372036854775807 < wd.size + bs.size := by omega
          have HE2 : Hid (i + 1 ≤ s.size → os.map toL ++ gluL (toL (wd ++ bs)) (splitL 32 ((toL s).drop (i + 1))) = splitL 32 (toL s)) := fun _ => by
            have e : toL (wd ++ bs) = toL wd ++ [s[i]] := by rw [← hbl]; simp [toL]
            rw [e]; exact hE
          have HX6 := Lib.hid (HX.out.alloc (.cells #[.int .u8 (s[i].toNat : Int)] 5))
          have HO6 := Lib.hid (HO.out.alloc (.cells #[.int .u8 (s[i].toNat : Int)] 5))
          clear hE hd hb hbl HX HO
          go_wp2_with fail
          exact ⟨⟨i + 1, os, wd ++ bs, by omega, by go_num, rfl, HO6.out, by omega, by rw [ByteArray.size_append]; omega, HE2.out, fun h => by omega, HX6.out⟩, (by simp [intOf]; omega)⟩
    · go_wp2_with fail
      go_ret
      exact ⟨_, os, rfl, HO.out, HF.out (by omega), HX.out⟩
end Go.Proofs.YthhkbfjolmgloaaDoor
