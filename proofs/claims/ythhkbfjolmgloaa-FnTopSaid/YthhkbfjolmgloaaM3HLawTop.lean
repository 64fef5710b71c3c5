/- laws.FnTop answers true, at every code. No condition. (The walk; the row stands in a text behind.) -/
import Derived.Test.YthhkbfjolmgloaaMHSolveI
import Derived.Test.YthhkbfjolmgloaaML17a
import Derived.Test.YthhkbfjolmgloaaML16a
import Derived.Test.YthhkbfjolmgloaaMHCost
import Derived.Test.YthhkbfjolmgloaaML9a
import Derived.Test.YthhkbfjolmgloaaM2L17a
import Derived.Test.YthhkbfjolmgloaaM3L17a
import Derived.Test.YthhkbfjolmgloaaM2L13a
import Derived.Deep.DeepCutAuto
import Derived.Deep.RegionHeld3
namespace Go.Proofs.Ythhkbfjolmgloaa
open Go.RowKit
set_option linter.unusedVariables false
set_option linter.unusedSimpArgs false
theorem Ok.size_le' {l : Line} (O : Ok l) : l.size ≤ 1048576 := by
  have h1 := O.ntr; have h2 := O.nlegs; have h3 := O.bd.tracks
  unfold Line.size
  omega
theorem Lp.far {w wr : World} {bs : List (Nat × Array Value × TypeId)} (h : Lp w wr bs) {g : Nat} (hg : w.heap.size ≤ g) (hne : ∀ x, x ∈ bs → x.1 ≠ g) (j : Nat) (u : Value) : Lp w (wr.setCell ⟨g, j, none⟩ u) bs :=
  ⟨h.ext.setCell hg u, fun x hx => box_set_far (h.box x hx) j u (hne x hx)⟩
/-- A number of a plan of one's own is overwritten. -/
theorem PRows.poke {w : World} {lo : Nat} {p : List (List Int)} {AR : Option Addr} {gr : Nat} {vs : Nat → Value} (h : PRows w lo p AR gr vs) {i j : Nat} (hi : i < p.length) (hj : j < rl p i) (x : Int) :
    ∃ g cap, vs i = .slice (some ⟨g, 0, none⟩) (rl p i) cap ∧ lo ≤ g ∧ g < w.heap.size ∧ (∀ j, w.frozen? ⟨g, j, none⟩ = false) ∧ (∃ y : Int, w.cell? ⟨g, j, none⟩ = some (.int .i64 y)) ∧ PRows (w.setCell ⟨g, j, none⟩ (.int .i64 x)) lo (p.set i ((p.getD i []).set j x)) AR gr vs := by
  obtain ⟨hlen, h0 | ⟨g, cap, cur, hv, hlo, hbx, hc, hm, hsz, htk⟩⟩ := h.own i hi
  · omega
  · have hrl : ∀ k, rl (p.set i ((p.getD i []).set j x)) k = rl p k := fun k => by
      unfold rl
      simp only [List.getD_eq_getElem?_getD, List.getElem?_set]
      split
      · rename_i e; subst e; simp [hi]
      · rfl
    have hob : (vs i).ownBlock = some g := by rw [hv]; rfl
    refine ⟨g, cap, hv, hlo, box_lt hbx, box_frozen hbx, ?_, fun hn => ?_, fun k hk => ?_, fun a b c ha hb => h.apart a b c (by simpa using ha) (by simpa using hb), fun a b ha => h.far a b (by simpa using ha), h.lor⟩
    · obtain ⟨y, hy⟩ := some_of_lt (l := p.getD i []) (i := j) hj
      refine ⟨y, ?_⟩
      have e1 : (nums (p.getD i []))[j]? = some (.int .i64 y) := by rw [nums, List.getElem?_map, hy]; rfl
      rw [← htk, List.getElem?_take_of_lt (by omega)] at e1
      rw [box_cell hbx, ← e1]
      simp
    · obtain ⟨h1, cs, h2, h3⟩ := h.base (by omega)
      exact ⟨h1, cs, box_set_far h2 j _ (fun e => h.far i g hi hob e.symm), fun k hk => h3 k (by simpa using hk)⟩
    · rw [hrl]
      by_cases e : k = i
      · subst e
        refine ⟨by simp [nums, rl, hi], Or.inr ⟨g, cap, cur.setIfInBounds j (.int .i64 x), hv, hlo, box_set hbx j _, hc, hm, by simp [hsz], ?_⟩⟩
        have : (p.set k ((p.getD k []).set j x)).getD k [] = (p.getD k []).set j x := by simp [List.getD_eq_getElem?_getD, hi]
        rw [this]
        have e2 : nums ((p.getD k []).set j x) = (nums (p.getD k [])).set j (.int .i64 x) := by simp [nums, List.map_set]
        rw [e2, ← htk]
        simp [List.take_set]
      · have : (p.set i ((p.getD i []).set j x)).getD k [] = p.getD k [] := by simp [List.getD_eq_getElem?_getD, List.getElem?_set, Ne.symm e]
        rw [this]
        exact ownsRow_keep (S := fun a => a = g) (h.own k (by simpa using hk)) ((Chg.of_ext (S := fun a => a = g) (Ext.refl w)).setCell (Or.inl rfl) j _) (fun a ha e' => h.apart k i a (by simpa using hk) hi e ha (by rw [hob, e']))
theorem solveR_facts {l : Line} {c : Int} {p : List (List Int)} (h : bestR (solveR l) = ((true, c), p)) : Can l p ∧ checkA l p = (0, 0, 0, 0) ∧ costA l p = c ∧ leastA l ≤ c := by
  unfold solveR at h
  by_cases hr : right l = true
  · rw [if_pos hr] at h
    have O := right_iff.1 hr
    cases hs : solveA l id with
    | none => rw [hs] at h; simp [bestR] at h
    | some cb =>
      obtain ⟨c', b⟩ := cb
      rw [hs] at h
      simp only [bestR, Prod.mk.injEq, true_and] at h
      obtain ⟨rfl, rfl⟩ := h
      obtain ⟨C, hc, _⟩ := solve_some O O.sum10 (fl := id) (fun x _ => Int.le_refl x) hs
      have hb : canB l b = true := by simp [canB, C.check]
      refine ⟨C, C.check, by unfold costA; rw [if_pos hb, hc], by rw [hc]; exact least_le C⟩
  · rw [if_neg hr] at h; simp [bestR] at h
set_option maxRecDepth 100000 in
set_option maxHeartbeats 8000000 in
theorem lawTop_any {w : World} {xs : List Int} {A1 : Option Addr} {c1 : Nat} (hA : RdByte w A1 xs) (hA0 : ∀ b o, A1 = some ⟨b, o, none⟩ → b < w.heap.size) (hAB : Bytes xs) :
    Calls Try.prog 5 #[.slice A1 xs.length c1] w fun e w' => e = .returned (.bool true) ∧ Ext w w' := by
  have HB := Lib.hid (fun (W : World) (e : Ext w W) => hA.ext e)
  have HB0 := Lib.hid hA0
  clear hA hA0
  by_cases hn : xs.length ≤ 1048576
  · have hd0 : decide ((1048576 : Int) < (xs.length : Int)) = false := by simp; omega
    obtain ⟨l, hl⟩ : ∃ l, Hid (drawLine xs 7 = l) := ⟨_, rfl⟩
    have O : Ok l := by rw [← hl.out]; exact (drawLine_ok hAB (by omega) (by omega)).ok
    have HO := Lib.hid O
    have HSZ := O.size_le'
    obtain ⟨r, hr⟩ : ∃ r, Hid (bestR (solveR l) = r) := ⟨_, rfl⟩
    obtain ⟨⟨code, at_⟩, p⟩ := r
    have hsm := solveR_small l
    rw [hr.out] at hsm
    obtain ⟨hp5, hrl⟩ := hsm
    simp only [] at hp5 hrl
    have HLEN : Hid (∀ (i : Nat) (t : List Int), p[i]? = some t → t.length ≤ 1048576) := fun i t ht => by
      have h := hrl i
      unfold rl at h
      rw [List.getD_eq_getElem?_getD, ht] at h
      simp only [Option.getD_some] at h
      omega
    have HRL := Lib.hid hrl
    clear hrl O
    go_enter Try.func5, Try.ntmps5
    go_wp2_with fail
    refine (lines_any (most := 7) (HB.out _ (by repeat (first | (with_reducible assumption) | (with_reducible exact Ext.refl _) | apply Ext.alloc | apply Ext.drewN | apply Ext.drew))) (fun b o e => HB0.out b o e) hAB hn (by omega) (by omega)).mono ?_
    rintro e w1 ⟨v, rfl, hO, hE⟩
    rw [hl.out] at hO
    obtain ⟨A0, c0, A2, c2, rfl, h0, h2⟩ := hO.rd
    have HL1 : Hid (∀ W, Ext w1 W → IsLine W l (.agg #[.slice A0 l.tracks.length c0, .int .i64 l.gap, .slice A2 l.trains.length c2])) := fun W e => hO.rd.ext e
    have hX1 : Ext w w1 := Ext.trans (by repeat (first | (with_reducible assumption) | (with_reducible exact Ext.refl _) | apply Ext.alloc | apply Ext.drewN | apply Ext.drew)) hE
    clear hO h0 h2 hE
    have hS := (Lp.of_ext hX1).new #[.slice A0 l.tracks.length c0, .int .i64 l.gap, .slice A2 l.trains.length c2] 33
    obtain ⟨k1, k2, k3, k4⟩ := hS.open1
    go_wp2_with fail
    refine (lines_any (most := 7) (HB.out _ (Ext.trans hX1 (by repeat (first | (with_reducible assumption) | (with_reducible exact Ext.refl _) | apply Ext.alloc | apply Ext.drewN | apply Ext.drew)))) (fun b o e => Nat.lt_of_lt_of_le (HB0.out b o e) (Ext.trans hX1 (by repeat (first | (with_reducible assumption) | (with_reducible exact Ext.refl _) | apply Ext.alloc | apply Ext.drewN | apply Ext.drew))).size) hAB hn (by omega) (by omega)).mono ?_
    rintro e w2 ⟨v, rfl, hO, hE⟩
    rw [hl.out] at hO
    obtain ⟨A0', c0', A2', c2', rfl, h0, h2⟩ := hO.rd
    have HM2 : Hid (∀ W, Ext w2 W → IsLine W l (.agg #[.slice A0' l.tracks.length c0', .int .i64 l.gap, .slice A2' l.trains.length c2'])) := fun W e => hO.rd.ext e
    have hX2 : Ext w1 w2 := Ext.trans (by repeat (first | (with_reducible assumption) | (with_reducible exact Ext.refl _) | apply Ext.alloc | apply Ext.drewN | apply Ext.drew)) hE
    have HL2 : Hid (∀ W, Ext w2 W → IsLine W l (.agg #[.slice A0 l.tracks.length c0, .int .i64 l.gap, .slice A2 l.trains.length c2])) := fun W e => HL1.out W (hX2.trans e)
    have hT := (hS.trans (Ext.trans (by repeat (first | (with_reducible assumption) | (with_reducible exact Ext.refl _) | apply Ext.alloc | apply Ext.drewN | apply Ext.drew)) hE)).new #[.slice A0' l.tracks.length c0', .int .i64 l.gap, .slice A2' l.trains.length c2'] 33
    clear hO h0 h2 hE hX2 k1 k2 k3 k4 hS HL1 HB HB0
    have hS := hT; clear hT
    obtain ⟨k1, k2, k3, k4, k5, k6⟩ := hS.open2
    go_wp2_with fail
    refine (spec_Solve_any (HM2.out _ (by repeat (first | (with_reducible assumption) | (with_reducible exact Ext.refl _) | apply Ext.alloc | apply Ext.drewN | apply Ext.drew))) HSZ).mono ?_
    rintro e w3 ⟨⟨AR, cR, gr, vs, rfl, hP⟩, hE⟩
    rw [hr.out] at hP ⊢
    simp only [] at hP
    simp only [bestV]
    have hX : Ext w2 w3 := Ext.trans (by repeat (first | (with_reducible assumption) | (with_reducible exact Ext.refl _) | apply Ext.alloc | apply Ext.drewN | apply Ext.drew)) hE
    have hT := (hS.trans (Ext.trans (by repeat (first | (with_reducible assumption) | (with_reducible exact Ext.refl _) | apply Ext.alloc | apply Ext.drewN | apply Ext.drew)) hE)).new #[.bool code, .int .i64 at_, .slice AR p.length cR] 44
    have HP3 := Lib.hid (fun (W : World) (e : Ext w3 W) => hP.rd.ext e)
    have HL3 : Hid (∀ W, Ext w3 W → IsLine W l (.agg #[.slice A0 l.tracks.length c0, .int .i64 l.gap, .slice A2 l.trains.length c2])) := fun W e => HL2.out W (hX.trans e)
    have HM3 : Hid (∀ W, Ext w3 W → IsLine W l (.agg #[.slice A0' l.tracks.length c0', .int .i64 l.gap, .slice A2' l.trains.length c2'])) := fun W e => HM2.out W (hX.trans e)
    clear hE hX hP k1 k2 k3 k4 k5 k6 hS HL2 HM2
    have hS := hT; clear hT
    obtain ⟨k1, k2, k3, k4, k5, k6, k7, k8⟩ := hS.open3
    go_wp2_with fail
    obtain ⟨wk, hwc⟩ : ∃ wk, w3.alloc (.cells #[.bool code, .int .i64 at_, .slice AR p.length cR] 44) = wk := ⟨_, rfl⟩
    have hXc : Ext w3 wk := by rw [← hwc]; exact (by repeat (first | (with_reducible assumption) | (with_reducible exact Ext.refl _) | apply Ext.alloc | apply Ext.drewN | apply Ext.drew))
    rw [hwc] at hS k1 k2 k3 k4 k5 k6 k7 k8 ⊢
    have b5 : ∀ j, wk.cell? ⟨w3.heap.size, j, none⟩ = (#[.bool code, .int .i64 at_, .slice AR p.length cR] : Array Value)[j]? := k3
    have b4 : ∀ j, wk.cell? ⟨w2.heap.size, j, none⟩ = (#[.slice A0' l.tracks.length c0', .int .i64 l.gap, .slice A2' l.trains.length c2'] : Array Value)[j]? := k5
    have b3 : ∀ j, wk.cell? ⟨w1.heap.size, j, none⟩ = (#[.slice A0 l.tracks.length c0, .int .i64 l.gap, .slice A2 l.trains.length c2] : Array Value)[j]? := k7
    have m5 : w3.heap.size < wk.heap.size := k4
    have m4 : w2.heap.size < wk.heap.size := k6
    have m3 : w1.heap.size < wk.heap.size := k8
    have hXw := hS.ext
    have HPc := Lib.hid (fun (W : World) (e : Ext wk W) => HP3.out W (hXc.trans e))
    have HLc : Hid (∀ W, Ext wk W → IsLine W l (.agg #[.slice A0 l.tracks.length c0, .int .i64 l.gap, .slice A2 l.trains.length c2])) := fun W e => HL3.out W (hXc.trans e)
    have HMc : Hid (∀ W, Ext wk W → IsLine W l (.agg #[.slice A0' l.tracks.length c0', .int .i64 l.gap, .slice A2' l.trains.length c2'])) := fun W e => HM3.out W (hXc.trans e)
    clear HP3 HL3 HM3 k1 k2 k3 k4 k5 k6 k7 k8 hS hXc hwc
    refine (impl_Solve_any (HLc.out _ (by repeat (first | (with_reducible assumption) | (with_reducible exact Ext.refl _) | apply Ext.alloc | apply Ext.drewN | apply Ext.drew))) HSZ).mono ?_
    rintro e w4 ⟨⟨AR4, cR4, gr4, vs4, rfl, hP⟩, hE⟩
    rw [hr.out] at hP ⊢
    simp only [] at hP
    simp only [bestV]
    have hS := (Lp.of_ext hE).new #[.bool code, .int .i64 at_, .slice AR4 p.length cR4] 44
    have HQ4 := Lib.hid hP
    have HG : Hid (∀ i g, i < p.length → (vs4 i).ownBlock = some g → g < w4.heap.size) := fun i g hi hg => ((hP.own i hi).lt g hg).2
    clear hP hE
    obtain ⟨k1, k2, k3, k4⟩ := hS.open1
    go_wp2_with fail
    refine (wBest_same (a := code) (b := at_) (c := cR4) (c' := cR) (HQ4.out.rd.ext (by repeat (first | (with_reducible assumption) | (with_reducible exact Ext.refl _) | apply Ext.alloc | apply Ext.drewN | apply Ext.drew))) (HPc.out _ (by repeat (first | (with_reducible exact hS.ext) | (with_reducible assumption) | (with_reducible exact Ext.refl _) | with_reducible apply Ext.alloc | with_reducible apply Ext.drewN | with_reducible apply Ext.drew | with_reducible refine Ext.setCell ?_ (by simp only []; omega) _))) (by omega) (fun i t ht => by have := HLEN.out i t ht; omega)).mono ?_
    rintro e w5 ⟨rfl, hE⟩
    have HQ5 := Lib.hid (HQ4.out.ext (Ext.trans (by repeat (first | (with_reducible assumption) | (with_reducible exact Ext.refl _) | apply Ext.alloc | apply Ext.drewN | apply Ext.drew)) hE))
    have hT := hS.trans hE
    clear hE k1 k2 k3 k4 hS HQ4
    have hS := hT; clear hT
    obtain ⟨k1, k2, k3, k4⟩ := hS.open1
    go_wp2_with fail
    refine (wLine_same (HLc.out _ (by repeat (first | (with_reducible exact hS.ext) | (with_reducible assumption) | (with_reducible exact Ext.refl _) | with_reducible apply Ext.alloc | with_reducible apply Ext.drewN | with_reducible apply Ext.drew | with_reducible refine Ext.setCell ?_ (by simp only []; omega) _))) (HMc.out _ (by repeat (first | (with_reducible exact hS.ext) | (with_reducible assumption) | (with_reducible exact Ext.refl _) | with_reducible apply Ext.alloc | with_reducible apply Ext.drewN | with_reducible apply Ext.drew | with_reducible refine Ext.setCell ?_ (by simp only []; omega) _))) HO.out).mono ?_
    rintro e w6 ⟨rfl, hE⟩
    have HQ6 := Lib.hid (HQ5.out.ext (Ext.trans (by repeat (first | (with_reducible assumption) | (with_reducible exact Ext.refl _) | apply Ext.alloc | apply Ext.drewN | apply Ext.drew)) hE))
    have hT := hS.trans (Ext.trans (by repeat (first | (with_reducible assumption) | (with_reducible exact Ext.refl _) | apply Ext.alloc | apply Ext.drewN | apply Ext.drew)) hE)
    clear hE k1 k2 k3 k4 hS HQ5 HMc
    have hS := hT; clear hT
    obtain ⟨k1, k2, k3, k4⟩ := hS.open1
    go_upto_region 9 with fail
    have hpn : p.length ≤ 1048576 := by omega
    have hX6 := hS.ext
    have HK : Hid (∀ W, Ext w6 W → Ext w6 W ∧ (∀ j, W.cell? ⟨w1.heap.size, j, none⟩ = (#[.slice A0 l.tracks.length c0, .int .i64 l.gap, .slice A2 l.trains.length c2] : Array Value)[j]?) ∧ w1.heap.size < W.heap.size ∧ (∀ j, W.cell? ⟨w4.heap.size, j, none⟩ = (#[.bool code, .int .i64 at_, .slice AR4 p.length cR4] : Array Value)[j]?) ∧ w4.heap.size < W.heap.size) := fun W e =>
      ⟨e, fun j => (e.cells.1 _ _ (k2 _ m3)).trans ((k1 _ _ m3).trans (b3 j)), e.up _ (k2 _ m3), fun j => (e.cells.1 _ _ k4).trans (k3 j), e.up _ k4⟩
    go_cut [55] (fun s wx => s = .bool false ∧ Ext w6 wx)
    case first =>
      have hu : undef = Value.tuple #[] := rfl
      clear k1 k2 k3 k4 hS b3 b4 b5 m3 m4 m5
      cases code with
      | false =>
        obtain ⟨q1, q2, q3, q4, q5⟩ := HK.out _ (Ext.refl _)
        go_quiet (fail)
        go_wp2_with fail
        go_meet
        exact ⟨rfl, (by repeat (first | (with_reducible assumption) | (with_reducible exact Ext.refl _) | apply Ext.alloc | apply Ext.drewN | apply Ext.drew))⟩
      | true =>
        obtain ⟨_, f1, f2, f3⟩ := solveR_facts hr.out
        have F1 := Lib.hid f1
        have F2 := Lib.hid f2
        have f4 : decide (at_ < leastA l) = false := by simp; omega
        have f5 : (at_ != at_) = false := by simp
        clear f1 f2 f3
        go_region_held3 (fun W => Ext w6 W ∧ (∀ j, W.cell? ⟨w1.heap.size, j, none⟩ = (#[.slice A0 l.tracks.length c0, .int .i64 l.gap, .slice A2 l.trains.length c2] : Array Value)[j]?) ∧ w1.heap.size < W.heap.size ∧ (∀ j, W.cell? ⟨w4.heap.size, j, none⟩ = (#[.bool true, .int .i64 at_, .slice AR4 p.length cR4] : Array Value)[j]?) ∧ w4.heap.size < W.heap.size) (first | assumption | exact HK.out _ (Ext.drew (Ext.refl _)) | exact HK.out _ (Ext.trans (And.left (by assumption)) (by assumption))) (first  | (go_at_call 32; have hX := And.left (by assumption : Ext w6 _ ∧ _); with_reducible refine (impl_Check_any (p := p) (HLc.out _ (hX6.trans hX)) ((HQ6.out.ext hX).plan cR4) HSZ hpn HLEN.out).mono ?_; rw [F1.out]; rintro e wa ⟨rfl, hEa⟩; simp only [clV])  | (go_at_call 33; have hX := And.left (by assumption : Ext w6 _ ∧ _); with_reducible refine (impl_Cost_any (p := p) (HLc.out _ (hX6.trans hX)) ((HQ6.out.ext hX).plan cR4) HSZ hpn HLEN.out).mono ?_; rw [F2.out]; rintro e wa ⟨rfl, hEa⟩)  | (go_at_call 34; have hX := And.left (by assumption : Ext w6 _ ∧ _); with_reducible refine (impl_Least_any (HLc.out _ (hX6.trans hX)) HSZ).mono ?_; rintro e wa ⟨rfl, hEa⟩))
        all_goals
          go_wp2_with fail
          go_meet
          exact ⟨rfl, And.left (by assumption)⟩
    case rest =>
      obtain ⟨rfl, hXr⟩ := hcut
      have HQ7 := Lib.hid (HQ6.out.ext hXr)
      have hT := hS.trans hXr
      clear hXr k1 k2 k3 k4 hS HQ6 HK hX6
      have hS := hT; clear hT
      obtain ⟨k1, k2, k3, k4⟩ := hS.open1
      have hg46 : w4.heap.size < wc.heap.size := k4
      go_wp2_with fail
      go_loopw [60] (fun j wr => ∃ (i : Nat) (q : List (List Int)), i ≤ p.length ∧ j = .int .i64 i ∧ q.length = p.length ∧ (∀ a, rl q a = rl p a) ∧ Hid (PRows wr wk.heap.size q AR4 gr4 vs4) ∧ Lp wk wr [(w4.heap.size, #[.bool code, .int .i64 at_, .slice AR4 p.length cR4], 44)]) (fun j _ => p.length - (intOf j).toNat)
      case atStart => exact ⟨0, p, Nat.zero_le _, rfl, rfl, fun _ => rfl, HQ7.out, hS⟩
      case round =>
        clear hS k1 k2 k3 k4 HQ7
        obtain ⟨i, q, hi, rfl, hql, hqr, HQ, hS⟩ := hrel
        obtain ⟨k1, k2, k3, k4⟩ := hS.open1
        by_cases hlt : i < p.length
        · obtain ⟨rfl, cs, hbc, hcs⟩ := HQ.out.base (by omega)
          obtain ⟨_, Ai, ci, hv, _⟩ := rd_of_ownsP (HQ.out.own i (by omega))
          have hv : vs4 i = .slice Ai (rl q i) ci := hv
          rw [hqr i] at hv
          have h0 : wr.cell? ⟨gr4, i, none⟩ = some (.slice Ai (rl p i) ci) := by rw [box_cell hbc, hcs i (by omega), hv]
          have hgr := box_lt hbc
          have c32 := k3 2
          have h10 := HRL.out i
          clear hbc hcs hv k3
          go_wp2_with fail
          clear h0 hgr c32 k1 k2 k4
          go_loopw [70] (fun j wr => ∃ (m : Nat) (q : List (List Int)), m ≤ rl p i ∧ j = .int .i64 m ∧ q.length = p.length ∧ (∀ a, rl q a = rl p a) ∧ Hid (PRows wr wk.heap.size q (some ⟨gr4, 0, none⟩) gr4 vs4) ∧ Lp wk wr [(w4.heap.size, #[.bool code, .int .i64 at_, .slice (some ⟨gr4, 0, none⟩) p.length cR4], 44)]) (fun j _ => rl p i - (intOf j).toNat)
          case atStart => exact ⟨0, q, Nat.zero_le _, rfl, hql, hqr, HQ.out, hS⟩
          case round =>
            clear hS HQ hql hqr
            obtain ⟨m, q, hm, rfl, hql, hqr, HQ, hS⟩ := hrel
            obtain ⟨k1, k2, k3, k4⟩ := hS.open1
            by_cases hlm : m < rl p i
            · obtain ⟨g, cap, hv, hlo, hgl, hfr, ⟨yy, hyy⟩, hP'⟩ := HQ.out.poke (i := i) (j := m) (by omega) (by rw [hqr]; exact hlm) (-7)
              obtain ⟨_, cs, hbc, hcs⟩ := HQ.out.base (by omega)
              rw [hqr i] at hv
              have h0 : wr.cell? ⟨gr4, i, none⟩ = some (.slice (some ⟨g, 0, none⟩) (rl p i) cap) := by rw [box_cell hbc, hcs i (by omega), hv]
              have hgr := box_lt hbc
              have hne : w4.heap.size ≠ g := by have := HG.out i g hlt (by rw [hv]; rfl); omega
              have c32 := k3 2
              have HP' := Lib.hid hP'
              have hS' := hS.far (g := g) hlo (fun x hx => by simp only [List.mem_cons, List.not_mem_nil, or_false] at hx; subst hx; exact hne) m (.int .i64 (-7))
              have hpi : i < p.length := hlt
              clear hbc hcs hv k3 hP' hS hne
              have hrl' : ∀ a, rl (q.set i ((q.getD i []).set m (-7))) a = rl p a := fun a => by
                rw [← hqr a]
                unfold rl
                simp only [List.getD_eq_getElem?_getD, List.getElem?_set]
                split
                · rename_i e; subst e; simp [hql, hlt]
                · rfl
              go_wp2_with fail
              exact ⟨⟨m + 1, _, by omega, by go_num, by simp [hql], hrl', HP'.out, hS'⟩, (by simp [intOf]; omega)⟩
            · go_wp2_with fail
              exact ⟨⟨i + 1, q, by omega, by go_num, hql, hqr, HQ.out, hS⟩, (by simp [intOf]; omega)⟩
        · have HK2 : Hid (∀ W, Ext wk W → Ext wk W ∧ (∀ j, W.cell? ⟨w1.heap.size, j, none⟩ = (#[.slice A0 l.tracks.length c0, .int .i64 l.gap, .slice A2 l.trains.length c2] : Array Value)[j]?) ∧ w1.heap.size < W.heap.size ∧ (∀ j, W.cell? ⟨w3.heap.size, j, none⟩ = (#[.bool code, .int .i64 at_, .slice AR p.length cR] : Array Value)[j]?) ∧ w3.heap.size < W.heap.size) := fun W e =>
            ⟨e, fun j => (e.cells.1 _ _ m3).trans (b3 j), e.up _ m3, fun j => (e.cells.1 _ _ m5).trans (b5 j), e.up _ m5⟩
          have hXk := hS.ext
          clear k1 k2 k3 k4 hS b3 b4 b5 m3 m4 m5 HQ
          go_upto_region 20 with fail
          go_region_held3 (fun W => Ext wk W ∧ (∀ j, W.cell? ⟨w1.heap.size, j, none⟩ = (#[.slice A0 l.tracks.length c0, .int .i64 l.gap, .slice A2 l.trains.length c2] : Array Value)[j]?) ∧ w1.heap.size < W.heap.size ∧ (∀ j, W.cell? ⟨w3.heap.size, j, none⟩ = (#[.bool code, .int .i64 at_, .slice AR p.length cR] : Array Value)[j]?) ∧ w3.heap.size < W.heap.size) (first | assumption | exact HK2.out _ (Ext.drew hXk) | exact HK2.out _ (Ext.trans (And.left (by assumption)) (by assumption))) (first  | (go_at_call 30; have hX := And.left (by assumption : Ext wk _ ∧ _); refine (wBest_same (a := code) (b := at_) (c := cR9) (c' := cR) (HP9.out.ext (by repeat (first | (with_reducible assumption) | (with_reducible exact Ext.refl _) | apply Ext.alloc | apply Ext.drewN | apply Ext.drew))) (HPc.out _ hX) (by omega) (fun i t ht => by have := HLEN.out i t ht; omega)).mono ?_; rintro e wb ⟨rfl, hEb⟩)  | (go_at_call 29; have hX := And.left (by assumption : Ext wk _ ∧ _); with_reducible refine (impl_Solve_any (HLc.out _ hX) HSZ).mono ?_; rintro e wa ⟨hBI, hEa⟩; unfold BestIs at hBI; obtain ⟨AR9, cR9, gr9, vs9, rfl, hP9⟩ := hBI; rw [hr.out] at hP9 ⊢; simp only [] at hP9; simp only [bestV]; have HP9 := Lib.hid hP9.rd; clear hP9))
          all_goals
            go_wp2_with fail
            go_ret
            exact ⟨rfl, hXw.trans (And.left (by assumption))⟩
  · have hd0 : decide ((1048576 : Int) < (xs.length : Int)) = true := by simp; omega
    go_enter Try.func5, Try.ntmps5
    go_wp2_with fail
    go_ret
    exact ⟨rfl, (by repeat (first | (with_reducible assumption) | (with_reducible exact Ext.refl _) | apply Ext.alloc | apply Ext.drewN | apply Ext.drew))⟩
end Go.Proofs.Ythhkbfjolmgloaa
