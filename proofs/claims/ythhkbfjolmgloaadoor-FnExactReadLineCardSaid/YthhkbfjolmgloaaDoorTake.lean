/- spec.l4take takes one line of a text into the line. -/
import Derived.Test.YthhkbfjolmgloaaDoorGrow
import Derived.BigQuiet
import Derived.Deep.QuietTactic
import Derived.Deep.RegionHeld3
import Derived.Deep.DeepCutAuto
import Derived.Deep.CutBlock
import Derived.Deep.Cut
import Derived.StillTailTactics
namespace Go.Proofs.YthhkbfjolmgloaaDoor
open Go.RowKit Go.Deep
set_option linter.unusedVariables false
set_option linter.unusedSimpArgs false
def Sm (N : Nat) (l : Line) : Prop := l.trains.length ≤ N ∧ ∀ i, (l.trains.getD i default).legs.length ≤ N
/-- What taking a line answers. -/
def TakeIs (B gl : Nat) (w : World) (R : Option Line) (e : Ending) (w' : World) : Prop := ∃ l' v0 v2 vl, LnI B w' gl l' v0 v2 vl ∧ Chg (Soft B w) w w' ∧ ((R = none ∧ e = .returned (.bool false)) ∨ (R = some l' ∧ e = .returned (.bool true)))
theorem splitL_pos (d : UInt8) (s : Bs) : 0 < (splitL d s).length := by
  obtain ⟨x, xs, e⟩ := splitL_ne d s
  rw [e]; simp
theorem numsL_count : ∀ {ws : List Bs} {ls : List (Option Bs)} {ns : List Int}, numsL ws ls = some ns → ns.length = (ls.filter fun x => x.isNone).length
  | [], [], ns, h => by simp only [numsL, Option.some.injEq] at h; subst h; rfl
  | [], _ :: _, ns, h => by simp [numsL] at h
  | _ :: _, [], ns, h => by simp [numsL] at h
  | w :: ws, some x :: ls, ns, h => by
    rw [numsL] at h
    by_cases e : w = x
    · rw [if_pos e] at h; simpa using numsL_count h
    · rw [if_neg e] at h; cases h
  | w :: ws, none :: ls, ns, h => by
    rw [numsL] at h
    cases hn : numL w with
    | none => rw [hn] at h; cases h
    | some n =>
      rw [hn] at h
      cases hm : numsL ws ls with
      | none => rw [hm] at h; cases h
      | some ms =>
        rw [hm] at h
        simp only [Option.map_some, Option.some.injEq] at h
        subst h
        simp [numsL_count hm]
/-- Words laid down in new memory. -/
theorem rd_lit (w : World) (cs : List ByteArray) (hn : cs.length ≤ 100) : RdStr (w.alloc (.cells (strs cs).toArray 9)) (some ⟨w.heap.size, 0, none⟩) cs := by
  have h := World.ownsRow_lit (base := w.heap.size) (e := 9) (size := 1) w (strs cs).toArray cs.length (Nat.le_refl _) (by unfold maxLen; omega) (by simp [strs])
  obtain ⟨_, A, c, hv, hr⟩ := rd_of_strs (ss := cs) (by simpa using h)
  simp only [Value.slice.injEq] at hv
  rw [hv.1]; exact hr
theorem splitL_small (d : UInt8) : ∀ (s : Bs) (i : Nat) (x : Bs), (splitL d s)[i]? = some x → x.length ≤ s.length
  | [], i, x, h => by
    have : i = 0 ∨ 0 < i := by omega
    rcases this with rfl | hi
    · simp [splitL] at h; subst h; exact Nat.le_refl _
    · rw [List.getElem?_eq_none (by simp [splitL]; omega)] at h; cases h
  | b :: r, i, x, h => by
    obtain ⟨y, ys, e⟩ := splitL_ne d r
    by_cases hb : b = d
    · simp only [splitL, if_pos hb] at h
      cases i with
      | zero => simp at h; subst h; exact Nat.zero_le _
      | succ i =>
        have := splitL_small d r i x (by simpa using h)
        simp only [List.length_cons]; omega
    · simp only [splitL, if_neg hb, e] at h
      cases i with
      | zero =>
        have := splitL_small d r 0 y (by rw [e]; rfl)
        simp at h; subst h; simp only [List.length_cons]; omega
      | succ i =>
        have := splitL_small d r (i + 1) x (by rw [e]; simpa using h)
        simp only [List.length_cons]; omega
theorem words_size {s : ByteArray} {ss : List ByteArray} (hs : s.size ≤ 4000) (hm : ss.map toL = splitL 32 (toL s)) : ∀ (i : Nat) x, ss[i]? = some x → x.size ≤ 4000 := by
  intro i x hx
  have := splitL_small 32 (toL s) i (toL x) (by rw [← hm, List.getElem?_map, hx]; rfl)
  rw [toL_len, toL_len] at this
  omega
theorem LnI.facts {B : Nat} {w : World} {gl : Nat} {l : Line} {v0 v2 : Value} {vl : Nat → Value} (h : LnI B w gl l v0 v2 vl) : gl < w.heap.size ∧ w.cell? ⟨gl, 0, none⟩ = some v0 ∧ w.cell? ⟨gl, 1, none⟩ = some (.int .i64 l.gap) ∧ w.cell? ⟨gl, 2, none⟩ = some v2 ∧ ∀ j, w.frozen? ⟨gl, j, none⟩ = false :=
  ⟨box_lt h.box, box_cell h.box 0, box_cell h.box 1, box_cell h.box 2, fun j => box_frozen h.box j⟩
def lenOf : Value → Nat
  | .slice _ n _ => n
  | _ => 0
def pat (m : Nat) : List ByteArray := ⟨#[116, 114, 97, 99, 107, 115]⟩ :: List.replicate (m - 1) ⟨#[35]⟩
theorem pat_snoc {m : Nat} (h : 2 ≤ m) : strs (pat (m + 1)) = strs (pat m) ++ (#[Value.string ⟨#[35]⟩] : Array Value).toList := by
  obtain ⟨k, rfl⟩ : ∃ k, m = k + 1 := ⟨m - 1, by omega⟩
  simp [pat, strs, List.replicate_succ']
theorem pat_like (m : Nat) : (pat m).map likeOf = some bTracks :: List.replicate (m - 1) none := by
  rw [pat, List.map_cons, List.map_replicate]; rfl
theorem pat_len {m : Nat} (h : 1 ≤ m) : (pat m).length = m := by simp [pat]; omega
theorem take0 {l : Line} {t : Bs} {n m : Nat} (hn : n = (splitL 32 t).length) (h1 : 0 < n) (h2 : 2 ≤ m) (h40 : m ≤ 40) (hor : m = 2 ∨ m ≤ n) (hend : n ≤ m ∨ 40 ≤ m) :
    takeL l t 0 = (numsL (splitL 32 t) ((pat m).map likeOf)).map fun ns => { l with tracks := ns } := by
  rw [pat_like]
  unfold takeL
  rw [if_pos rfl, ← hn]
  by_cases c : 40 < n
  · rw [if_pos c, numsL_len]
    · rfl
    · simp; omega
  · rw [if_neg c, show max 1 (n - 1) = m - 1 by omega]
theorem NumsIs.cases {B : Nat} {R : Option (List Int)} {e : Ending} {w' : World} (h : NumsIs B R e w') : (R = none ∧ e = .returned (.tuple #[.slice none 0 0, .bool false])) ∨ ∃ ns A c, R = some ns ∧ e = .returned (.tuple #[.slice A ns.length c, .bool true]) ∧ w'.ownsRow B 3 1 (.slice A ns.length c) ns.length (nums ns) ∧ RdInt w' A ns := by
  rcases h with h | ⟨ns, v, h1, h2, h3⟩
  · exact Or.inl h
  · obtain ⟨_, A, c, rfl, hr⟩ := rd_of_ownsP h3
    exact Or.inr ⟨ns, A, c, h1, h2, h3, hr⟩
theorem NumsIs.casesP {B : Nat} {R : Option (List Int)} {e : Ending} {w' : World} (h : NumsIs B R e w') {cnt : Nat} (hp : 0 < cnt) (hc : ∀ ns, R = some ns → ns.length = cnt) : (R = none ∧ e = .returned (.tuple #[.slice none 0 0, .bool false])) ∨ ∃ ns b c cur, R = some ns ∧ e = .returned (.tuple #[.slice (some ⟨b, 0, none⟩) cnt c, .bool true]) ∧ b < w'.heap.size ∧ RowAt b cur w' ∧ ∀ j, j < cnt → cur[j]? = some (.int .i64 (ns.getD j 0)) := by
  rcases h with h | ⟨ns, v, h1, h2, h3⟩
  · exact Or.inl h
  · have hn := hc ns h1
    rcases h3.2 with ⟨_, hz⟩ | ⟨g, cap, cur, k1, k2, k3, k4, k5, k6, k7⟩
    · omega
    · refine Or.inr ⟨ns, g, cap, cur, h1, by rw [h2, k1, hn], box_lt k3, k3, fun j hj => ?_⟩
      obtain ⟨x, hx⟩ := some_of_lt (show j < ns.length by omega)
      rw [getD_some hx]
      have : cur.toList[j]? = (nums ns)[j]? := by rw [← k7, List.getElem?_take_of_lt (by omega)]
      rw [← Array.getElem?_toList, this, nums, List.getElem?_map, hx]; rfl
theorem own_form {w : World} {B : Nat} {e : TypeId} {size : Nat} {v : Value} {n : Nat} {xs : List Value} (h : w.ownsRow B e size v n xs) (hn : 0 < n) : ∃ g c, v = .slice (some ⟨g, 0, none⟩) n c := by
  rcases h.2 with ⟨_, hz⟩ | ⟨g, cap, cur, k1, _⟩
  · omega
  · exact ⟨g, cap, k1⟩
def likeT : List ByteArray := [⟨#[116, 114, 97, 105, 110]⟩, ⟨#[35]⟩, ⟨#[114, 101, 97, 100, 121]⟩, ⟨#[35]⟩, ⟨#[100, 117, 101]⟩, ⟨#[35]⟩, ⟨#[119, 101, 105, 103, 104, 116]⟩, ⟨#[35]⟩]
def likeG : List ByteArray := [⟨#[108, 101, 103]⟩, ⟨#[35]⟩, ⟨#[114, 117, 110]⟩, ⟨#[35]⟩, ⟨#[115, 116, 97, 121]⟩, ⟨#[35]⟩]
set_option maxRecDepth 100000 in
set_option maxHeartbeats 8000000 in
theorem l4take_any {B gl : Nat} {w : World} {l : Line} {v0 v2 : Value} {vl : Nat → Value} (h : LnI B w gl l v0 v2 vl) (hB : B ≤ w.heap.size) (s : ByteArray) (hs : s.size ≤ 4000) (k : Nat) (hsm : Sm 5000 l) (hk : k ≤ 5000) :
    Calls Tryd.prog 9 #[.pointer (some ⟨gl, 0, none⟩), .string s, .int .i64 k] w (TakeIs B gl w (takeL l (toL s) k)) := by
  have H := Lib.hid h
  have HS := Lib.hid hsm
  have hgl := box_lt h.box
  clear h hsm
  go_enter Tryd.func9, Tryd.ntmps9
  go_upto_region 2 with (go_at_call 19; refine (l4words_any s hs).mono ?_; rintro e w1 ⟨vw, ss, rfl, hss, hmap, hX1⟩)
  obtain ⟨_, aw, cw, rfl, hRw⟩ := rd_of_strs hss
  have hnw : ss.length = (splitL 32 (toL s)).length := by rw [← hmap, List.length_map]
  have hnw1 : 0 < ss.length := by rw [hnw]; exact splitL_pos _ _
  have hnw2 : ss.length ≤ 4001 := by rw [hnw]; have := splitL_len 32 (toL s); rw [toL_len] at this; omega
  have HZ := Lib.hid (words_size hs hmap)
  have HM := Lib.hid hmap
  have HNW := Lib.hid hnw
  clear hss hmap hnw
  by_cases k0 : k = 0
  · subst k0
    have hL0 : Hid ((w1.alloc (.cells #[.string ⟨#[116, 114, 97, 99, 107, 115]⟩, .string ⟨#[35]⟩] 9)).ownsRow w1.heap.size 9 1 (.slice (some ⟨w1.heap.size, 0, none⟩) 2 2) 2 (strs (pat 2))) := World.ownsRow_lit (base := w1.heap.size) (e := 9) (size := 1) w1 #[.string ⟨#[116, 114, 97, 99, 107, 115]⟩, .string ⟨#[35]⟩] 2 (Nat.le_refl _) (by decide) rfl
    go_wp2_with fail
    go_loopw [8] (fun o wr => ∃ m, 2 ≤ m ∧ m ≤ 40 ∧ (m = 2 ∨ m ≤ ss.length) ∧ Hid (wr.ownsRow w1.heap.size 9 1 o m (strs (pat m))) ∧ Hid (Ext w1 wr)) (fun o _ => 40 - lenOf o)
    case atStart => exact ⟨2, by omega, by omega, Or.inl rfl, hL0.out, (Ext.refl w1).alloc _⟩
    case round =>
      obtain ⟨m, hm2, hm40, hmor, HO, HX⟩ := hrel
      obtain ⟨hml, A, c, rfl, hRl⟩ := rd_of_strs HO.out
      rw [← hml] at HO ⊢
      clear hml
      by_cases hc1 : m < ss.length
      · by_cases hc2 : m < 40
        · have g1 : decide ((m : Int) < (ss.length : Int)) = true := by rw [decide_eq_true_eq]; omega
          have g2 : decide ((m : Int) < 40) = true := by rw [decide_eq_true_eq]; omega
          have hN : m ≤ 1000000 := by omega
          go_wp2_with (at_builtin; refine app_any rfl _ _ 39 rfl w1.heap.size 9 1 16 _ Tryd.underlying39 info9 rfl (by decide) _ _ _ rfl (HO.out.alloc _) (by rw [alloc_size]; have := HX.out.size; omega) _ _ #[.string ⟨#[35]⟩] _ rfl (box_new _ _) rfl (one_str _) hN (by decide) _ rfl ?_)
          intro g cap w6 hown hgrow hg hlt6
          have HO6 : Hid (w6.ownsRow w1.heap.size 9 1 (.slice (some ⟨g, 0, none⟩) (m + 1) cap) (m + 1) (strs (pat (m + 1)))) := by unfold Hid; rw [pat_snoc hm2]; exact hown
          have HX6 := Lib.hid ((HX.out.alloc (.cells #[.string ⟨#[35]⟩] 9)).grown hgrow (by rw [alloc_size]; have := HX.out.size; omega) (fun q hq => (World.ownsRow.lt HO.out q hq).1))
          clear hown hgrow hg HO HX hRl
          go_wp2_with fail
          exact ⟨⟨m + 1, by omega, by omega, Or.inr (by omega), HO6.out, HX6.out⟩, by simp only [lenOf]; omega⟩
        · have g1 : decide ((m : Int) < (ss.length : Int)) = true := by rw [decide_eq_true_eq]; omega
          have g2 : decide ((m : Int) < 40) = false := by rw [decide_eq_false_iff_not]; omega
          have HRT := Lib.hid (take0 (l := l) HNW.out hnw1 hm2 hm40 hmor (Or.inr (by omega)))
          have hRw1 := hRw.ext HX.out
          have HC := Lib.hid (l4nums_any hRw1 hRl hnw2 (by rw [pat_len (by omega)]; omega) HZ.out (cA := cw) (cB := c))
          rw [pat_len (show 1 ≤ m by omega), ← HM.out.symm] at HC
          clear hRw1 hRl hRw
          go_wp2_with (go_at_call 20; refine HC.out.mono ?_; rintro e w2 ⟨hN, hX2⟩; have HI2 := Lib.hid (H.out.ext (hX1.trans (HX.out.trans hX2))); obtain ⟨q0, q1, q2, q3, q4⟩ := LnI.facts HI2.out; rcases hN.cases with ⟨hR, rfl⟩ | ⟨ns, A2, c2, hR, rfl, hown, hI⟩ <;> clear hN)
          · have HC2 : Hid (Chg (Soft B w) w w2) := Chg.of_ext (hX1.trans (HX.out.trans hX2))
            have HR2 : Hid (takeL l (toL s) 0 = none) := by unfold Hid; rw [HRT.out, hR]; rfl
            have HI3 := Lib.hid (HI2.out.tracks (v := .slice none 0 0) (ns := []) (World.ownsRow_nil _ _ _ _))
            have HC3 := Lib.hid (HI2.out.set_soft HC2.out 0 (.slice none 0 0))
            clear hR
            go_ret
            exact ⟨_, _, _, _, HI3.out, HC3.out, Or.inl ⟨HR2.out, rfl⟩⟩
          · have HC2 : Hid (Chg (Soft B w) w w2) := Chg.of_ext (hX1.trans (HX.out.trans hX2))
            have HR2 : Hid (takeL l (toL s) 0 = some { l with tracks := ns }) := by unfold Hid; rw [HRT.out, hR]; rfl
            have HI3 := Lib.hid (HI2.out.tracks (v := .slice A2 ns.length c2) (ns := ns) (ownsRow_mono hown (by have := hX1.size; have := HX.out.size; omega)))
            have HC3 := Lib.hid (HI2.out.set_soft HC2.out 0 (.slice A2 ns.length c2))
            clear hR hown
            go_ret
            exact ⟨_, _, _, _, HI3.out, HC3.out, Or.inr ⟨HR2.out, rfl⟩⟩
      · have g1 : decide ((m : Int) < (ss.length : Int)) = false := by rw [decide_eq_false_iff_not]; omega
        have HRT := Lib.hid (take0 (l := l) HNW.out hnw1 hm2 hm40 hmor (Or.inl (by omega)))
        have hRw1 := hRw.ext HX.out
        have HC := Lib.hid (l4nums_any hRw1 hRl hnw2 (by rw [pat_len (by omega)]; omega) HZ.out (cA := cw) (cB := c))
        rw [pat_len (show 1 ≤ m by omega), ← HM.out.symm] at HC
        clear hRw1 hRl hRw
        go_wp2_with (go_at_call 20; refine HC.out.mono ?_; rintro e w2 ⟨hN, hX2⟩; have HI2 := Lib.hid (H.out.ext (hX1.trans (HX.out.trans hX2))); obtain ⟨q0, q1, q2, q3, q4⟩ := LnI.facts HI2.out; rcases hN.cases with ⟨hR, rfl⟩ | ⟨ns, A2, c2, hR, rfl, hown, hI⟩ <;> clear hN)
        · have HC2 : Hid (Chg (Soft B w) w w2) := Chg.of_ext (hX1.trans (HX.out.trans hX2))
          have HR2 : Hid (takeL l (toL s) 0 = none) := by unfold Hid; rw [HRT.out, hR]; rfl
          have HI3 := Lib.hid (HI2.out.tracks (v := .slice none 0 0) (ns := []) (World.ownsRow_nil _ _ _ _))
          have HC3 := Lib.hid (HI2.out.set_soft HC2.out 0 (.slice none 0 0))
          clear hR
          go_ret
          exact ⟨_, _, _, _, HI3.out, HC3.out, Or.inl ⟨HR2.out, rfl⟩⟩
        · have HC2 : Hid (Chg (Soft B w) w w2) := Chg.of_ext (hX1.trans (HX.out.trans hX2))
          have HR2 : Hid (takeL l (toL s) 0 = some { l with tracks := ns }) := by unfold Hid; rw [HRT.out, hR]; rfl
          have HI3 := Lib.hid (HI2.out.tracks (v := .slice A2 ns.length c2) (ns := ns) (ownsRow_mono hown (by have := hX1.size; have := HX.out.size; omega)))
          have HC3 := Lib.hid (HI2.out.set_soft HC2.out 0 (.slice A2 ns.length c2))
          clear hR hown
          go_ret
          exact ⟨_, _, _, _, HI3.out, HC3.out, Or.inr ⟨HR2.out, rfl⟩⟩
  · by_cases k1 : k = 1
    · subst k1
      have g0 : ((1 : Int) == 0) = false := rfl
      have hL : RdStr (w1.alloc (.cells #[.string ⟨#[103, 97, 112]⟩, .string ⟨#[35]⟩] 9)) (some ⟨w1.heap.size, 0, none⟩) [⟨#[103, 97, 112]⟩, ⟨#[35]⟩] := rd_lit w1 [⟨#[103, 97, 112]⟩, ⟨#[35]⟩] (by decide)
      have HRT : Hid (takeL l (toL s) 1 = (numsL (ss.map toL) (List.map likeOf [⟨#[103, 97, 112]⟩, ⟨#[35]⟩])).map fun ns => { l with gap := ns.getD 0 0 }) := by
        unfold Hid takeL
        rw [if_neg (by decide), if_pos rfl, HM.out]
        rfl
      have hRw1 := hRw.ext ((Ext.refl w1).alloc (.cells #[.string ⟨#[103, 97, 112]⟩, .string ⟨#[35]⟩] 9))
      have HC := Lib.hid (l4nums_any hRw1 hL hnw2 (by decide) HZ.out (cA := cw) (cB := 2))
      clear hRw1 hL hRw
      go_upto_region 11 with (go_at_call 20; refine HC.out.mono ?_; rintro e w2 ⟨hN, hX2⟩; have HI2 := Lib.hid (H.out.ext (hX1.trans (((Ext.refl w1).alloc _).trans hX2))); obtain ⟨q0, q1, q2, q3, q4⟩ := LnI.facts HI2.out; rcases hN.casesP (cnt := 1) (by decide) (fun ns h => numsL_count h) with ⟨hR, rfl⟩ | ⟨ns, b, c2, cur, hR, rfl, hb, hcur, hf⟩ <;> clear hN)
      · have hC2 : Chg (Soft B w) w w2 := Chg.of_ext ((hX1.alloc _).trans hX2)
        go_wp2_with fail
        go_ret
        exact ⟨l, v0, v2, vl, HI2.out, hC2, Or.inl ⟨by rw [HRT.out, hR]; rfl, rfl⟩⟩
      · have hC2 : Hid (Chg (Soft B w) w w2) := Chg.of_ext ((hX1.alloc _).trans hX2)
        have HR2 : Hid (takeL l (toL s) 1 = some { l with gap := ns.getD 0 0 }) := by unfold Hid; rw [HRT.out, hR]; rfl
        have f0 := (box_cell hcur 0).trans (hf 0 (by decide))
        obtain ⟨n0, hn0⟩ : ∃ n, Hid (ns.getD 0 0 = n) := ⟨_, rfl⟩
        rw [hn0.out] at f0
        clear hR hf hcur
        go_wp2_with fail
        have HI3 := Lib.hid (HI2.out.gap n0)
        have HC3 := Lib.hid (HI2.out.set_soft hC2.out 1 (.int .i64 n0))
        go_ret
        exact ⟨_, _, _, _, HI3.out, HC3.out, Or.inr ⟨by rw [HR2.out, hn0.out], rfl⟩⟩
    · have g0 : ((k : Int) == 0) = false := by rw [beq_eq_false_iff_ne]; omega
      have g1 : ((k : Int) == 1) = false := by rw [beq_eq_false_iff_ne]; omega
      obtain ⟨x0, hx0⟩ := hid_of_lt hnw1
      obtain ⟨bw, ow, rfl, hbw⟩ := hRw.base hnw1
      have f0 : w1.cell? ⟨bw, ow + 0 * 1, none⟩ = some (.string x0) := hRw.at_ hx0.out
      simp only [Nat.zero_mul, Nat.add_zero] at f0
      have hw0 : (splitL 32 (toL s)).getD 0 [] = toL x0 := by
        rw [← HM.out]
        exact getD_some (by rw [List.getElem?_map, hx0.out]; rfl)
      by_cases ht : toL x0 = bTrain
      · have g2 : (x0.toList == [116, 114, 97, 105, 110]) = true := by rw [toList_eq, ht]; rfl
        have hL : RdStr (w1.alloc (.cells (strs likeT).toArray 9)) (some ⟨w1.heap.size, 0, none⟩) likeT := rd_lit w1 likeT (by decide)
        have HRT : Hid (takeL l (toL s) k = (numsL (ss.map toL) (likeT.map likeOf)).map fun ns => { l with trains := l.trains ++ [⟨ns.getD 0 0, ns.getD 1 0, ns.getD 2 0, ns.getD 3 0, []⟩] }) := by
          unfold Hid takeL
          rw [if_neg k0, if_neg k1, if_pos (by rw [hw0, ht]), HM.out]
          rfl
        have hRw1 := hRw.ext ((Ext.refl w1).alloc (.cells (strs likeT).toArray 9))
        have HC := Lib.hid (l4nums_any hRw1 hL hnw2 (by decide) HZ.out (cA := cw) (cB := 8))
        clear hRw1 hL hRw hw0 ht
        go_upto_region 16 with (go_at_call 20; refine HC.out.mono ?_; rintro e w2 ⟨hN, hX2⟩; have HI2 := Lib.hid (H.out.ext (hX1.trans (((Ext.refl w1).alloc _).trans hX2))); obtain ⟨q0, q1, q2, q3, q4⟩ := LnI.facts HI2.out; rcases hN.casesP (cnt := 4) (by decide) (fun ns h => numsL_count h) with ⟨hR, rfl⟩ | ⟨ns, b, c2, cur, hR, rfl, hb, hcur, hf⟩ <;> clear hN)
        · have hC2 : Chg (Soft B w) w w2 := Chg.of_ext ((hX1.alloc _).trans hX2)
          go_wp2_with fail
          go_ret
          exact ⟨l, v0, v2, vl, HI2.out, hC2, Or.inl ⟨by rw [HRT.out, hR]; rfl, rfl⟩⟩
        · have hC2 : Hid (Chg (Soft B w) w w2) := Chg.of_ext ((hX1.alloc _).trans hX2)
          have HR2 : Hid (takeL l (toL s) k = some { l with trains := l.trains ++ [⟨ns.getD 0 0, ns.getD 1 0, ns.getD 2 0, ns.getD 3 0, []⟩] }) := by unfold Hid; rw [HRT.out, hR]; rfl
          have c0 := hf 0 (by decide)
          have c1 := hf 1 (by decide)
          have c2 := hf 2 (by decide)
          have c3 := hf 3 (by decide)
          clear hR hf
          generalize ns.getD 0 0 = n0 at *
          generalize ns.getD 1 0 = n1 at *
          generalize ns.getD 2 0 = n2 at *
          generalize ns.getD 3 0 = n3 at *
          go_upto_region 17 with fail
          have HI3 := Lib.hid (HI2.out.ext (Ext.refl w2).drew)
          have HC3 := Lib.hid (hC2.out.trans (Chg.of_ext (Ext.refl w2).drew))
          have hS3 : RowAt b cur w2.drew := hcur.ext (Ext.refl w2).drew
          obtain ⟨r0, r1, r2, r3, r4⟩ := LnI.facts HI3.out
          obtain ⟨A2, cA2, hv2, _⟩ := HI3.out.own.2.1.rd
          subst hv2
          refine wp_region_held_drew (S := RowAt b cur) (by kernel_rfl) hS3 (fun _ => ?_)
          refine wpAnyH_take (i := 0) (oi := _) (v := ?_) rfl (by kernel_rfl) (by kernel_rfl) (by kernel_rfl) (fun _ _ _ h => h) (Or.inl ⟨by rfl, ?_⟩) (by assumption) ?_
          rotate_left 1
          · intro W hSw
            go_simp
            try with_reducible rfl
          try simp only [Act.put, List.setIfInBounds_toArray, List.set_cons_zero, List.set_cons_succ]
          refine wpAnyH_take (i := 1) (oi := _) (v := ?_) rfl (by kernel_rfl) (by kernel_rfl) (by kernel_rfl) (fun _ _ _ h => h) (Or.inl ⟨by rfl, ?_⟩) (by assumption) ?_
          rotate_left 1
          · intro W hSw
            go_simp
            try with_reducible rfl
          try simp only [Act.put, List.setIfInBounds_toArray, List.set_cons_zero, List.set_cons_succ]
          refine wpAnyH_take (i := 2) (oi := _) (v := ?_) rfl (by kernel_rfl) (by kernel_rfl) (by kernel_rfl) (fun _ _ _ h => h) (Or.inl ⟨by rfl, ?_⟩) (by assumption) ?_
          rotate_left 1
          · intro W hSw
            go_simp
            try with_reducible rfl
          try simp only [Act.put, List.setIfInBounds_toArray, List.set_cons_zero, List.set_cons_succ]
          refine wpAnyH_take (i := 3) (oi := _) (v := ?_) rfl (by kernel_rfl) (by kernel_rfl) (by kernel_rfl) (fun _ _ _ h => h) (Or.inl ⟨by rfl, ?_⟩) (by assumption) ?_
          rotate_left 1
          · intro W hSw
            go_simp
            try with_reducible rfl
          try simp only [Act.put, List.setIfInBounds_toArray, List.set_cons_zero, List.set_cons_succ]
          refine wpAnyH_take (i := 5) (oi := _) (v := ?_) rfl (by kernel_rfl) (by kernel_rfl) (by kernel_rfl) (fun _ _ _ h => h) (Or.inl ⟨by rfl, ?_⟩) (by assumption) ?_
          rotate_left 1
          · intro W hSw
            go_simp
            try with_reducible rfl
          try simp only [Act.put, List.setIfInBounds_toArray, List.set_cons_zero, List.set_cons_succ]
          refine wpAnyH_take (i := 6) (oi := _) (v := ?_) rfl (by kernel_rfl) (by kernel_rfl) (by kernel_rfl) (fun _ _ _ h => h) (Or.inl ⟨by rfl, ?_⟩) (by assumption) ?_
          rotate_left 1
          · intro W hSw
            go_simp
            try with_reducible rfl
          try simp only [Act.put, List.setIfInBounds_toArray, List.set_cons_zero, List.set_cons_succ]
          refine wpAnyH_take (i := 7) (oi := _) (v := ?_) rfl (by kernel_rfl) (by kernel_rfl) (by kernel_rfl) (fun _ _ _ h => h) (Or.inl ⟨by rfl, ?_⟩) (by assumption) ?_
          rotate_left 1
          · intro W hSw
            have hs0 := (box_cell hSw 0).trans c0
            go_simp
            try with_reducible rfl
          try simp only [Act.put, List.setIfInBounds_toArray, List.set_cons_zero, List.set_cons_succ]
          refine wpAnyH_take (i := 8) (oi := _) (v := ?_) rfl (by kernel_rfl) (by kernel_rfl) (by kernel_rfl) (fun _ _ _ h => h) (Or.inl ⟨by rfl, ?_⟩) (by assumption) ?_
          rotate_left 1
          · intro W hSw
            go_simp
            try with_reducible rfl
          try simp only [Act.put, List.setIfInBounds_toArray, List.set_cons_zero, List.set_cons_succ]
          refine wpAnyH_take (i := 9) (oi := _) (v := ?_) rfl (by kernel_rfl) (by kernel_rfl) (by kernel_rfl) (fun _ _ _ h => h) (Or.inl ⟨by rfl, ?_⟩) (by assumption) ?_
          rotate_left 1
          · intro W hSw
            go_simp
            try with_reducible rfl
          try simp only [Act.put, List.setIfInBounds_toArray, List.set_cons_zero, List.set_cons_succ]
          refine wpAnyH_take (i := 10) (oi := _) (v := ?_) rfl (by kernel_rfl) (by kernel_rfl) (by kernel_rfl) (fun _ _ _ h => h) (Or.inl ⟨by rfl, ?_⟩) (by assumption) ?_
          rotate_left 1
          · intro W hSw
            have hs1 := (box_cell hSw 1).trans c1
            go_simp
            try with_reducible rfl
          try simp only [Act.put, List.setIfInBounds_toArray, List.set_cons_zero, List.set_cons_succ]
          refine wpAnyH_take (i := 11) (oi := _) (v := ?_) rfl (by kernel_rfl) (by kernel_rfl) (by kernel_rfl) (fun _ _ _ h => h) (Or.inl ⟨by rfl, ?_⟩) (by assumption) ?_
          rotate_left 1
          · intro W hSw
            go_simp
            try with_reducible rfl
          try simp only [Act.put, List.setIfInBounds_toArray, List.set_cons_zero, List.set_cons_succ]
          refine wpAnyH_take (i := 12) (oi := _) (v := ?_) rfl (by kernel_rfl) (by kernel_rfl) (by kernel_rfl) (fun _ _ _ h => h) (Or.inl ⟨by rfl, ?_⟩) (by assumption) ?_
          rotate_left 1
          · intro W hSw
            go_simp
            try with_reducible rfl
          try simp only [Act.put, List.setIfInBounds_toArray, List.set_cons_zero, List.set_cons_succ]
          refine wpAnyH_take (i := 13) (oi := _) (v := ?_) rfl (by kernel_rfl) (by kernel_rfl) (by kernel_rfl) (fun _ _ _ h => h) (Or.inl ⟨by rfl, ?_⟩) (by assumption) ?_
          rotate_left 1
          · intro W hSw
            have hs2 := (box_cell hSw 2).trans c2
            go_simp
            try with_reducible rfl
          try simp only [Act.put, List.setIfInBounds_toArray, List.set_cons_zero, List.set_cons_succ]
          refine wpAnyH_take (i := 14) (oi := _) (v := ?_) rfl (by kernel_rfl) (by kernel_rfl) (by kernel_rfl) (fun _ _ _ h => h) (Or.inl ⟨by rfl, ?_⟩) (by assumption) ?_
          rotate_left 1
          · intro W hSw
            go_simp
            try with_reducible rfl
          try simp only [Act.put, List.setIfInBounds_toArray, List.set_cons_zero, List.set_cons_succ]
          refine wpAnyH_take (i := 15) (oi := _) (v := ?_) rfl (by kernel_rfl) (by kernel_rfl) (by kernel_rfl) (fun _ _ _ h => h) (Or.inl ⟨by rfl, ?_⟩) (by assumption) ?_
          rotate_left 1
          · intro W hSw
            go_simp
            try with_reducible rfl
          try simp only [Act.put, List.setIfInBounds_toArray, List.set_cons_zero, List.set_cons_succ]
          refine wpAnyH_take (i := 16) (oi := _) (v := ?_) rfl (by kernel_rfl) (by kernel_rfl) (by kernel_rfl) (fun _ _ _ h => h) (Or.inl ⟨by rfl, ?_⟩) (by assumption) ?_
          rotate_left 1
          · intro W hSw
            have hs3 := (box_cell hSw 3).trans c3
            go_simp
            try with_reducible rfl
          try simp only [Act.put, List.setIfInBounds_toArray, List.set_cons_zero, List.set_cons_succ]
          refine wpAnyH_take (i := 17) (oi := _) (v := ?_) rfl (by kernel_rfl) (by kernel_rfl) (by kernel_rfl) (fun _ _ _ h => h) (Or.inl ⟨by rfl, ?_⟩) (by assumption) ?_
          rotate_left 1
          · intro W hSw
            go_simp
            try with_reducible rfl
          try simp only [Act.put, List.setIfInBounds_toArray, List.set_cons_zero, List.set_cons_succ]
          refine wpAnyH_ready (rs := [4, 18]) (by kernel_rfl) (by simp) ?_
          refine AllReadyH.cons rfl (fun K hK => ?_) ?_
          · go_simp
            refine hK.out _ _ (hS3) (fun _ => ?_)
            clear hK K
            refine wpAnyH_ready (rs := [18]) (by kernel_rfl) (by simp) ?_
            refine AllReadyH.cons rfl (fun K hK => ?_) AllReadyH.nil
            go_simp
            refine hK.out _ _ (hS3.ext ((Ext.refl _).alloc _)) (fun _ => ?_)
            clear hK K
            refine wpAnyH_ready (rs := [19]) (by kernel_rfl) (by simp) ?_
            refine AllReadyH.cons rfl (fun K hK => ?_) AllReadyH.nil
            have hBA : B ≤ (w2.drew.alloc (.cells #[.int .i64 n0, .int .i64 n1, .int .i64 n2, .int .i64 n3, .slice none 0 0] 47)).heap.size := by rw [alloc_size]; have := HI3.out.low; omega
            refine app_step rfl (.tmp 78) (.tmp 92) 23 rfl B 47 5 56 _ Tryd.underlying23 info47 rfl (by decide) _ _ _ rfl (HI3.out.own.2.1.own.alloc _) hBA _ _ #[.int .i64 n0, .int .i64 n1, .int .i64 n2, .int .i64 n3, .slice none 0 0] _ rfl (box_new _ _) rfl (tr_one _ _ _ _ _ _ _) (by have := HS.out.1; omega) (by decide) _ rfl ?_
            intro g cap w6 hown hgrow hg hlt6
            obtain ⟨HI7, hbx⟩ := HI3.out.train (t := ⟨n0, n1, n2, n3, []⟩) rfl hgrow hown hg
            have HC7 := Lib.hid (chg_step HC3.out HI3.out.own.2.1.own (by decide) hgrow hbx (by decide) HI3.out.low 2 (.slice (some ⟨g, 0, none⟩) (l.trains.length + 1) cap))
            have hS6 := hS3.grown HI3.out.own.2.1.own (by decide) hgrow
            have hS7 := hS6.set hbx (by decide) 2 (.slice (some ⟨g, 0, none⟩) (l.trains.length + 1) cap)
            refine hK.out _ _ (hS6) (fun _ => ?_)
            clear hK K
            refine wpAnyH_take (i := 20) (oi := _) (v := ?_) rfl (by kernel_rfl) (by kernel_rfl) (by kernel_rfl) (fun _ _ _ h => h) (Or.inl ⟨by rfl, ?_⟩) (by assumption) ?_
            rotate_left 1
            · intro W hSw
              go_simp
              try with_reducible rfl
            try simp only [Act.put, List.setIfInBounds_toArray, List.set_cons_zero, List.set_cons_succ]
            refine wpAnyH_take (i := 21) (oi := _) (v := ?_) rfl (by kernel_rfl) (by kernel_rfl) (by kernel_rfl) (fun _ _ _ h => h) (Or.inl ⟨by rfl, ?_⟩) (by assumption) ?_
            rotate_left 1
            · intro W hSw
              go_simp
              try with_reducible rfl
            try simp only [Act.put, List.setIfInBounds_toArray, List.set_cons_zero, List.set_cons_succ]
            refine wpAnyH_ready (rs := [22]) (by kernel_rfl) (by simp) ?_
            refine AllReadyH.cons rfl (fun K hK => ?_) AllReadyH.nil
            have t0 := box_lt hbx
            have t1 := box_cell hbx 2
            have t2 := box_frozen hbx 2
            go_simp
            refine hK.out _ _ (hS7) (fun _ => ?_)
            clear hK K
            refine wpAnyH_done (by kernel_rfl) ?_ _
            go_wp2_with fail
            go_ret
            exact ⟨_, _, _, _, HI7, HC7.out, Or.inr ⟨HR2.out, rfl⟩⟩
          refine AllReadyH.cons rfl (fun K hK => ?_) AllReadyH.nil
          go_simp
          refine hK.out _ _ (hS3.ext ((Ext.refl _).alloc _)) (fun _ => ?_)
          clear hK K
          refine wpAnyH_ready (rs := [4]) (by kernel_rfl) (by simp) ?_
          refine AllReadyH.cons rfl (fun K hK => ?_) AllReadyH.nil
          have r3b : (w2.drew.alloc (.cells #[.int .i64 n0, .int .i64 n1, .int .i64 n2, .int .i64 n3, .slice none 0 0] 47)).cell? ⟨gl, 2, none⟩ = some (.slice A2 l.trains.length cA2) := box_cell (((Ext.refl w2.drew).alloc _).box HI3.out.box) 2
          have r0b : gl < (w2.drew.alloc (.cells #[.int .i64 n0, .int .i64 n1, .int .i64 n2, .int .i64 n3, .slice none 0 0] 47)).heap.size := by rw [alloc_size]; omega
          go_simp
          refine hK.out _ _ (hS3.ext ((Ext.refl _).alloc _)) (fun _ => ?_)
          clear hK K
          refine wpAnyH_ready (rs := [19]) (by kernel_rfl) (by simp) ?_
          refine AllReadyH.cons rfl (fun K hK => ?_) AllReadyH.nil
          have hBA : B ≤ (w2.drew.alloc (.cells #[.int .i64 n0, .int .i64 n1, .int .i64 n2, .int .i64 n3, .slice none 0 0] 47)).heap.size := by rw [alloc_size]; have := HI3.out.low; omega
          refine app_step rfl (.tmp 78) (.tmp 92) 23 rfl B 47 5 56 _ Tryd.underlying23 info47 rfl (by decide) _ _ _ rfl (HI3.out.own.2.1.own.alloc _) hBA _ _ #[.int .i64 n0, .int .i64 n1, .int .i64 n2, .int .i64 n3, .slice none 0 0] _ rfl (box_new _ _) rfl (tr_one _ _ _ _ _ _ _) (by have := HS.out.1; omega) (by decide) _ rfl ?_
          intro g cap w6 hown hgrow hg hlt6
          obtain ⟨HI7, hbx⟩ := HI3.out.train (t := ⟨n0, n1, n2, n3, []⟩) rfl hgrow hown hg
          have HC7 := Lib.hid (chg_step HC3.out HI3.out.own.2.1.own (by decide) hgrow hbx (by decide) HI3.out.low 2 (.slice (some ⟨g, 0, none⟩) (l.trains.length + 1) cap))
          have hS6 := hS3.grown HI3.out.own.2.1.own (by decide) hgrow
          have hS7 := hS6.set hbx (by decide) 2 (.slice (some ⟨g, 0, none⟩) (l.trains.length + 1) cap)
          refine hK.out _ _ (hS6) (fun _ => ?_)
          clear hK K
          refine wpAnyH_take (i := 20) (oi := _) (v := ?_) rfl (by kernel_rfl) (by kernel_rfl) (by kernel_rfl) (fun _ _ _ h => h) (Or.inl ⟨by rfl, ?_⟩) (by assumption) ?_
          rotate_left 1
          · intro W hSw
            go_simp
            try with_reducible rfl
          try simp only [Act.put, List.setIfInBounds_toArray, List.set_cons_zero, List.set_cons_succ]
          refine wpAnyH_take (i := 21) (oi := _) (v := ?_) rfl (by kernel_rfl) (by kernel_rfl) (by kernel_rfl) (fun _ _ _ h => h) (Or.inl ⟨by rfl, ?_⟩) (by assumption) ?_
          rotate_left 1
          · intro W hSw
            go_simp
            try with_reducible rfl
          try simp only [Act.put, List.setIfInBounds_toArray, List.set_cons_zero, List.set_cons_succ]
          refine wpAnyH_ready (rs := [22]) (by kernel_rfl) (by simp) ?_
          refine AllReadyH.cons rfl (fun K hK => ?_) AllReadyH.nil
          have t0 := box_lt hbx
          have t1 := box_cell hbx 2
          have t2 := box_frozen hbx 2
          go_simp
          refine hK.out _ _ (hS7) (fun _ => ?_)
          clear hK K
          refine wpAnyH_done (by kernel_rfl) ?_ _
          go_wp2_with fail
          go_ret
          exact ⟨_, _, _, _, HI7, HC7.out, Or.inr ⟨HR2.out, rfl⟩⟩
      · have g2 : (x0.toList == [116, 114, 97, 105, 110]) = false := by
          rw [toList_eq, beq_eq_false_iff_ne]; exact ht
        have hL : RdStr (w1.alloc (.cells (strs likeG).toArray 9)) (some ⟨w1.heap.size, 0, none⟩) likeG := rd_lit w1 likeG (by decide)
        have HRT : Hid (takeL l (toL s) k = match numsL (ss.map toL) (likeG.map likeOf) with
            | none => none
            | some ns => if l.trains.length = 0 then none else some { l with trains := addLeg l.trains ⟨ns.getD 0 0, ns.getD 1 0, ns.getD 2 0⟩ }) := by
          unfold Hid takeL
          rw [if_neg k0, if_neg k1, if_neg (by rw [hw0]; exact ht), HM.out]
          rfl
        have hRw1 := hRw.ext ((Ext.refl w1).alloc (.cells (strs likeG).toArray 9))
        have HC := Lib.hid (l4nums_any hRw1 hL hnw2 (by decide) HZ.out (cA := cw) (cB := 6))
        clear hRw1 hL hRw hw0 ht
        go_upto_region 20 with (go_at_call 20; refine HC.out.mono ?_; rintro e w2 ⟨hN, hX2⟩; have HI2 := Lib.hid (H.out.ext (hX1.trans (((Ext.refl w1).alloc _).trans hX2))); obtain ⟨q0, q1, q2, q3, q4⟩ := LnI.facts HI2.out; rcases hN.casesP (cnt := 3) (by decide) (fun ns h => numsL_count h) with ⟨hR, rfl⟩ | ⟨ns, b, c2, cur, hR, rfl, hb, hcur, hf⟩ <;> clear hN)
        · have hC2 : Chg (Soft B w) w w2 := Chg.of_ext ((hX1.alloc _).trans hX2)
          go_wp2_with fail
          go_ret
          exact ⟨l, v0, v2, vl, HI2.out, hC2, Or.inl ⟨by rw [HRT.out, hR], rfl⟩⟩
        · have hC2 : Hid (Chg (Soft B w) w w2) := Chg.of_ext ((hX1.alloc _).trans hX2)
          have c0 := hf 0 (by decide)
          have c1 := hf 1 (by decide)
          have c2 := hf 2 (by decide)
          by_cases hz : l.trains.length = 0
          · have HR2 : Hid (takeL l (toL s) k = none) := by unfold Hid; rw [HRT.out, hR]; exact if_pos hz
            obtain ⟨A2, cA2, hv2, _⟩ := HI2.out.own.2.1.rd
            rw [hz] at hv2
            subst hv2
            clear hz hR hf
            go_wp2_with fail
            go_ret
            exact ⟨l, v0, _, vl, HI2.out, hC2.out, Or.inl ⟨HR2.out, rfl⟩⟩
          · have HR2 : Hid (takeL l (toL s) k = some { l with trains := addLeg l.trains ⟨ns.getD 0 0, ns.getD 1 0, ns.getD 2 0⟩ }) := by unfold Hid; rw [HRT.out, hR]; exact if_neg hz
            clear hR hf
            generalize ns.getD 0 0 = n0 at *
            generalize ns.getD 1 0 = n1 at *
            generalize ns.getD 2 0 = n2 at *
            obtain ⟨m, hm⟩ : ∃ m, Hid (l.trains.length = m + 1) := ⟨l.trains.length - 1, by unfold Hid; omega⟩
            obtain ⟨gT, cT, hv2⟩ := own_form HI2.out.own.2.1.own (by omega)
            subst hv2
            have hm5 : m < 5000 := by have := hm.out; have := HS.out.1; omega
            have g3 : ((m : Int) + 1 == 0) = false := by rw [beq_eq_false_iff_ne]; omega
            rw [hm.out] at q3
            clear hz
            go_upto_region 22 with fail
            go_quiet (fail)
            have HI4 := Lib.hid (HI2.out.ext ((Ext.refl w2).drewN nq))
            have hC4 : Hid (Chg (Soft B w) w (w2.drewN nq)) := hC2.out.trans (Chg.of_ext ((Ext.refl w2).drewN nq))
            have hcur4 : RowAt b cur (w2.drewN nq) := hcur.ext ((Ext.refl w2).drewN nq)
            clear HI2 hC2 hcur q0 q1 q2 q3 q4 hb g3 hX2
            generalize w2.drewN nq = w4 at *
            go_upto_region 23 with fail
            have HI3 := Lib.hid (HI4.out.ext (Ext.refl w4).drew)
            have HC3 := Lib.hid (hC4.out.trans (Chg.of_ext (Ext.refl w4).drew))
            have hS3 : RowAt b cur w4.drew := hcur4.ext (Ext.refl w4).drew
            have hml : m < l.trains.length := by have := hm.out; omega
            have hN : (l.trains.getD m default).legs.length ≤ 1000000 := (by have := HS.out.2 m; omega)
            obtain ⟨nl, hnl⟩ : ∃ K, Hid ((l.trains.getD m default).legs.length = K) := ⟨_, rfl⟩
            rw [hnl.out] at hN
            have hLG := HI3.out.own.2.1.legs m hml
            rw [hnl.out] at hLG
            obtain ⟨A5, c5, hv5, _⟩ := rd_of_legs hLG hnl.out.symm
            rw [hnl.out] at hv5
            have HLG := Lib.hid hLG
            rw [hv5] at hLG
            have hBT : B ≤ gT := (HI3.out.own.2.1.own.lt gT rfl).1
            have r0 := (HI3.out.own.2.1.own.lt gT rfl).2
            have r3 := ownsRow_cell HI3.out.own.2.1.own (trRows_at (vl := vl) (some_getD hml) (i := 4) (by omega))
            change w4.drew.cell? ⟨gT, m * 5 + 4, none⟩ = some (vl m) at r3
            have HR3 := Lib.hid r3
            rw [hv5] at r3
            have hBA : B ≤ (w4.drew.alloc (.cells #[.int .i64 n0, .int .i64 n1, .int .i64 n2] 50)).heap.size := by rw [alloc_size]; omega
            have HV5 := Lib.hid hv5
            have HL5 := Lib.hid hLG
            have hx0 : w4.drew.heap.size = w4.heap.size := rfl
            clear hv5 hLG
            refine wp_region_held_drew (S := RowAt b cur) (by kernel_rfl) hS3 (fun _ => ?_)
            refine wpAnyH_take (i := 0) (oi := _) (v := ?_) rfl (by kernel_rfl) (by kernel_rfl) (by kernel_rfl) (fun _ _ _ h => h) (Or.inl ⟨by rfl, ?_⟩) (by assumption) ?_
            rotate_left 1
            · intro W hSw
              go_simp
              try with_reducible rfl
            try simp only [Act.put, List.setIfInBounds_toArray, List.set_cons_zero, List.set_cons_succ]
            refine wpAnyH_take (i := 1) (oi := _) (v := ?_) rfl (by kernel_rfl) (by kernel_rfl) (by kernel_rfl) (fun _ _ _ h => h) (Or.inl ⟨by rfl, ?_⟩) (by assumption) ?_
            rotate_left 1
            · intro W hSw
              go_simp
              try with_reducible rfl
            try simp only [Act.put, List.setIfInBounds_toArray, List.set_cons_zero, List.set_cons_succ]
            refine wpAnyH_take (i := 2) (oi := _) (v := ?_) rfl (by kernel_rfl) (by kernel_rfl) (by kernel_rfl) (fun _ _ _ h => h) (Or.inl ⟨by rfl, ?_⟩) (by assumption) ?_
            rotate_left 1
            · intro W hSw
              go_simp
              try with_reducible rfl
            try simp only [Act.put, List.setIfInBounds_toArray, List.set_cons_zero, List.set_cons_succ]
            refine wpAnyH_take (i := 3) (oi := _) (v := ?_) rfl (by kernel_rfl) (by kernel_rfl) (by kernel_rfl) (fun _ _ _ h => h) (Or.inl ⟨by rfl, ?_⟩) (by assumption) ?_
            rotate_left 1
            · intro W hSw
              go_simp
              try with_reducible rfl
            try simp only [Act.put, List.setIfInBounds_toArray, List.set_cons_zero, List.set_cons_succ]
            refine wpAnyH_take (i := 5) (oi := _) (v := ?_) rfl (by kernel_rfl) (by kernel_rfl) (by kernel_rfl) (fun _ _ _ h => h) (Or.inl ⟨by rfl, ?_⟩) (by assumption) ?_
            rotate_left 1
            · intro W hSw
              go_simp
              try with_reducible rfl
            try simp only [Act.put, List.setIfInBounds_toArray, List.set_cons_zero, List.set_cons_succ]
            refine wpAnyH_take (i := 6) (oi := _) (v := ?_) rfl (by kernel_rfl) (by kernel_rfl) (by kernel_rfl) (fun _ _ _ h => h) (Or.inl ⟨by rfl, ?_⟩) (by assumption) ?_
            rotate_left 1
            · intro W hSw
              go_simp
              try with_reducible rfl
            try simp only [Act.put, List.setIfInBounds_toArray, List.set_cons_zero, List.set_cons_succ]
            refine wpAnyH_take (i := 7) (oi := _) (v := ?_) rfl (by kernel_rfl) (by kernel_rfl) (by kernel_rfl) (fun _ _ _ h => h) (Or.inl ⟨by rfl, ?_⟩) (by assumption) ?_
            rotate_left 1
            · intro W hSw
              have hs0 := (box_cell hSw 0).trans c0
              go_simp
              try with_reducible rfl
            try simp only [Act.put, List.setIfInBounds_toArray, List.set_cons_zero, List.set_cons_succ]
            refine wpAnyH_take (i := 8) (oi := _) (v := ?_) rfl (by kernel_rfl) (by kernel_rfl) (by kernel_rfl) (fun _ _ _ h => h) (Or.inl ⟨by rfl, ?_⟩) (by assumption) ?_
            rotate_left 1
            · intro W hSw
              go_simp
              try with_reducible rfl
            try simp only [Act.put, List.setIfInBounds_toArray, List.set_cons_zero, List.set_cons_succ]
            refine wpAnyH_take (i := 9) (oi := _) (v := ?_) rfl (by kernel_rfl) (by kernel_rfl) (by kernel_rfl) (fun _ _ _ h => h) (Or.inl ⟨by rfl, ?_⟩) (by assumption) ?_
            rotate_left 1
            · intro W hSw
              go_simp
              try with_reducible rfl
            try simp only [Act.put, List.setIfInBounds_toArray, List.set_cons_zero, List.set_cons_succ]
            refine wpAnyH_take (i := 10) (oi := _) (v := ?_) rfl (by kernel_rfl) (by kernel_rfl) (by kernel_rfl) (fun _ _ _ h => h) (Or.inl ⟨by rfl, ?_⟩) (by assumption) ?_
            rotate_left 1
            · intro W hSw
              have hs1 := (box_cell hSw 1).trans c1
              go_simp
              try with_reducible rfl
            try simp only [Act.put, List.setIfInBounds_toArray, List.set_cons_zero, List.set_cons_succ]
            refine wpAnyH_take (i := 11) (oi := _) (v := ?_) rfl (by kernel_rfl) (by kernel_rfl) (by kernel_rfl) (fun _ _ _ h => h) (Or.inl ⟨by rfl, ?_⟩) (by assumption) ?_
            rotate_left 1
            · intro W hSw
              go_simp
              try with_reducible rfl
            try simp only [Act.put, List.setIfInBounds_toArray, List.set_cons_zero, List.set_cons_succ]
            refine wpAnyH_take (i := 12) (oi := _) (v := ?_) rfl (by kernel_rfl) (by kernel_rfl) (by kernel_rfl) (fun _ _ _ h => h) (Or.inl ⟨by rfl, ?_⟩) (by assumption) ?_
            rotate_left 1
            · intro W hSw
              go_simp
              try with_reducible rfl
            try simp only [Act.put, List.setIfInBounds_toArray, List.set_cons_zero, List.set_cons_succ]
            refine wpAnyH_take (i := 13) (oi := _) (v := ?_) rfl (by kernel_rfl) (by kernel_rfl) (by kernel_rfl) (fun _ _ _ h => h) (Or.inl ⟨by rfl, ?_⟩) (by assumption) ?_
            rotate_left 1
            · intro W hSw
              have hs2 := (box_cell hSw 2).trans c2
              go_simp
              try with_reducible rfl
            try simp only [Act.put, List.setIfInBounds_toArray, List.set_cons_zero, List.set_cons_succ]
            refine wpAnyH_take (i := 14) (oi := _) (v := ?_) rfl (by kernel_rfl) (by kernel_rfl) (by kernel_rfl) (fun _ _ _ h => h) (Or.inl ⟨by rfl, ?_⟩) (by assumption) ?_
            rotate_left 1
            · intro W hSw
              go_simp
              try with_reducible rfl
            try simp only [Act.put, List.setIfInBounds_toArray, List.set_cons_zero, List.set_cons_succ]
            refine wpAnyH_ready (rs := [4, 15]) (by kernel_rfl) (by simp) ?_
            refine AllReadyH.cons rfl (fun K hK => ?_) ?_
            · go_simp
              refine hK.out _ _ (hS3) (fun _ => ?_)
              clear hK K
              refine wpAnyH_ready (rs := [15]) (by kernel_rfl) (by simp) ?_
              refine AllReadyH.cons rfl (fun K hK => ?_) AllReadyH.nil
              go_simp
              refine hK.out _ _ (hS3.ext ((Ext.refl _).alloc _)) (fun _ => ?_)
              clear hK K
              refine wpAnyH_ready (rs := [16]) (by kernel_rfl) (by simp) ?_
              refine AllReadyH.cons rfl (fun K hK => ?_) AllReadyH.nil
              refine app_step rfl (.tmp 128) (.tmp 139) 45 rfl B 50 3 24 _ Tryd.underlying45 info50 rfl (by decide) _ _ _ rfl (HL5.out.alloc _) hBA _ _ #[.int .i64 n0, .int .i64 n1, .int .i64 n2] _ rfl (box_new _ _) rfl (three_int _ _ _) hN (by decide) _ rfl ?_
              intro g cap w6 hown hgrow hg hlt6
              rw [← HV5.out] at hgrow hg
              obtain ⟨HI7, cu, hbx, hcx⟩ := HI3.out.leg (x := ⟨n0, n1, n2⟩) hm.out hnl.out hgrow hown hg
              have HC7 := Lib.hid (chg_step HC3.out HLG.out (by decide) hgrow hbx (by decide) hBT (m * 5 + 4) (.slice (some ⟨g, 0, none⟩) (nl + 1) cap))
              have hS6 := hS3.grown HLG.out (by decide) hgrow
              have hS7 := hS6.set hbx (by decide) (m * 5 + 4) (.slice (some ⟨g, 0, none⟩) (nl + 1) cap)
              refine hK.out _ _ (hS6) (fun _ => ?_)
              clear hK K
              refine wpAnyH_take (i := 17) (oi := _) (v := ?_) rfl (by kernel_rfl) (by kernel_rfl) (by kernel_rfl) (fun _ _ _ h => h) (Or.inl ⟨by rfl, ?_⟩) (by assumption) ?_
              rotate_left 1
              · intro W hSw
                go_simp
                try with_reducible rfl
              try simp only [Act.put, List.setIfInBounds_toArray, List.set_cons_zero, List.set_cons_succ]
              refine wpAnyH_take (i := 18) (oi := _) (v := ?_) rfl (by kernel_rfl) (by kernel_rfl) (by kernel_rfl) (fun _ _ _ h => h) (Or.inl ⟨by rfl, ?_⟩) (by assumption) ?_
              rotate_left 1
              · intro W hSw
                go_simp
                try with_reducible rfl
              try simp only [Act.put, List.setIfInBounds_toArray, List.set_cons_zero, List.set_cons_succ]
              refine wpAnyH_ready (rs := [19]) (by kernel_rfl) (by simp) ?_
              refine AllReadyH.cons rfl (fun K hK => ?_) AllReadyH.nil
              have t0 := box_lt hbx
              have t2 := box_frozen hbx (m * 5 + 4)
              go_simp
              refine hK.out _ _ (hS7) (fun _ => ?_)
              clear hK K
              refine wpAnyH_done (by kernel_rfl) ?_ _
              go_wp2_with fail
              go_ret
              exact ⟨_, _, _, _, HI7, HC7.out, Or.inr ⟨HR2.out, rfl⟩⟩
            refine AllReadyH.cons rfl (fun K hK => ?_) AllReadyH.nil
            go_simp
            refine hK.out _ _ (hS3.ext ((Ext.refl _).alloc _)) (fun _ => ?_)
            clear hK K
            refine wpAnyH_ready (rs := [4]) (by kernel_rfl) (by simp) ?_
            refine AllReadyH.cons rfl (fun K hK => ?_) AllReadyH.nil
            have r0c : gT < w4.heap.size := r0
            have r3c : w4.cell? ⟨gT, m * 5 + 4, none⟩ = some (.slice A5 nl c5) := r3
            have r3b : (w4.drew.alloc (.cells #[.int .i64 n0, .int .i64 n1, .int .i64 n2] 50)).cell? ⟨gT, m * 5 + 4, none⟩ = some (.slice A5 nl c5) := (((Ext.refl w4.drew).alloc _).cells.1 gT _ r0).trans r3
            have r0b : gT < (w4.drew.alloc (.cells #[.int .i64 n0, .int .i64 n1, .int .i64 n2] 50)).heap.size := by rw [alloc_size]; omega
            go_simp
            refine hK.out _ _ (hS3.ext ((Ext.refl _).alloc _)) (fun _ => ?_)
            clear hK K
            refine wpAnyH_ready (rs := [16]) (by kernel_rfl) (by simp) ?_
            refine AllReadyH.cons rfl (fun K hK => ?_) AllReadyH.nil
            refine app_step rfl (.tmp 128) (.tmp 139) 45 rfl B 50 3 24 _ Tryd.underlying45 info50 rfl (by decide) _ _ _ rfl (HL5.out.alloc _) hBA _ _ #[.int .i64 n0, .int .i64 n1, .int .i64 n2] _ rfl (box_new _ _) rfl (three_int _ _ _) hN (by decide) _ rfl ?_
            intro g cap w6 hown hgrow hg hlt6
            rw [← HV5.out] at hgrow hg
            obtain ⟨HI7, cu, hbx, hcx⟩ := HI3.out.leg (x := ⟨n0, n1, n2⟩) hm.out hnl.out hgrow hown hg
            have HC7 := Lib.hid (chg_step HC3.out HLG.out (by decide) hgrow hbx (by decide) hBT (m * 5 + 4) (.slice (some ⟨g, 0, none⟩) (nl + 1) cap))
            have hS6 := hS3.grown HLG.out (by decide) hgrow
            have hS7 := hS6.set hbx (by decide) (m * 5 + 4) (.slice (some ⟨g, 0, none⟩) (nl + 1) cap)
            refine hK.out _ _ (hS6) (fun _ => ?_)
            clear hK K
            refine wpAnyH_take (i := 17) (oi := _) (v := ?_) rfl (by kernel_rfl) (by kernel_rfl) (by kernel_rfl) (fun _ _ _ h => h) (Or.inl ⟨by rfl, ?_⟩) (by assumption) ?_
            rotate_left 1
            · intro W hSw
              go_simp
              try with_reducible rfl
            try simp only [Act.put, List.setIfInBounds_toArray, List.set_cons_zero, List.set_cons_succ]
            refine wpAnyH_take (i := 18) (oi := _) (v := ?_) rfl (by kernel_rfl) (by kernel_rfl) (by kernel_rfl) (fun _ _ _ h => h) (Or.inl ⟨by rfl, ?_⟩) (by assumption) ?_
            rotate_left 1
            · intro W hSw
              go_simp
              try with_reducible rfl
            try simp only [Act.put, List.setIfInBounds_toArray, List.set_cons_zero, List.set_cons_succ]
            refine wpAnyH_ready (rs := [19]) (by kernel_rfl) (by simp) ?_
            refine AllReadyH.cons rfl (fun K hK => ?_) AllReadyH.nil
            have t0 := box_lt hbx
            have t2 := box_frozen hbx (m * 5 + 4)
            go_simp
            refine hK.out _ _ (hS7) (fun _ => ?_)
            clear hK K
            refine wpAnyH_done (by kernel_rfl) ?_ _
            go_wp2_with fail
            go_ret
            exact ⟨_, _, _, _, HI7, HC7.out, Or.inr ⟨HR2.out, rfl⟩⟩
end Go.Proofs.YthhkbfjolmgloaaDoor
