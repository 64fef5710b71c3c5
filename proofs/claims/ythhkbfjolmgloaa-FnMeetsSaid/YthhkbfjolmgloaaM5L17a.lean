/- spec.l5Cur.plan and spec.APlan draw some plan, in memory of its own. Condition: the line is right, few choices read before.
   spec.APlan draws some plan, in memory of its own. Condition: the line is right. -/
import Derived.Test.YthhkbfjolmgloaaM2L17a
import Derived.Test.YthhkbfjolmgloaaML15a
import Derived.Deep.RegionHeld3
import Derived.Deep.DeepCutAuto
namespace Go.Proofs.Ythhkbfjolmgloaa
open Go.RowKit Go.Deep
set_option linter.unusedVariables false
set_option linter.unusedSimpArgs false
/-- When a train that is alone begins its legs. -/
def rowA : Int → List Leg → List Int
  | _, [] => []
  | a, x :: xs => (a + x.stay) :: rowA (a + x.stay + x.run) xs
theorem rowA_length : ∀ (ls : List Leg) (a : Int), (rowA a ls).length = ls.length
  | [], _ => rfl
  | x :: xs, a => by simp [rowA, rowA_length xs]
def aloneRows (l : Line) : List (List Int) := (List.range l.trains.length).map fun i => rowA (l.tr i).ready (l.tr i).legs
theorem aloneRows_length (l : Line) : (aloneRows l).length = l.trains.length := by simp [aloneRows]
theorem aloneRows_at {l : Line} {i : Nat} (hi : i < l.trains.length) : (aloneRows l).getD i [] = rowA (l.tr i).ready (l.tr i).legs := by simp [aloneRows, List.getD_eq_getElem?_getD, hi]
theorem aloneRows_rl (l : Line) (i : Nat) : rl (aloneRows l) i = if i < l.trains.length then (l.tr i).legs.length else 0 := by
  unfold rl
  by_cases hi : i < l.trains.length
  · rw [if_pos hi, aloneRows_at hi, rowA_length]
  · rw [if_neg hi, List.getD_eq_getElem?_getD, List.getElem?_eq_none (by rw [aloneRows_length]; omega)]; rfl
/-- A plan that was drawn: few rows of few numbers, in memory of its own. -/
def PlanD (w : World) (lo : Nat) (p : List (List Int)) (v : Value) : Prop := ∃ AP cP gr vs, v = .agg #[.slice AP p.length cP] ∧ PRows w lo p AP gr vs ∧ p.length ≤ 5 ∧ ∀ i, rl p i ≤ 10
def LineAt (g : Nat) (a b c : Value) (W : World) : Prop := W.cell? ⟨g, 0, none⟩ = some a ∧ W.cell? ⟨g, 1, none⟩ = some b ∧ W.cell? ⟨g, 2, none⟩ = some c ∧ g < W.heap.size
theorem line4 {w wr : World} {gc g h : Nat} {code : List Int} {A : Option Addr} {cA : Nat} {cu : Cu} {a b c : Value} {cs : Array Value} {t t' : TypeId} (D : Dw w gc code A cA wr cu [(h, cs, t'), (g, #[a, b, c], t)]) : LineAt g a b c wr := by
  obtain ⟨h1, h2, _⟩ := D.at_ (g := g) (cs := #[a, b, c]) (t := t) (by simp)
  exact ⟨h1 0, h1 1, h1 2, h2⟩
/-- A row more, made in new memory. -/
theorem CpI.row {w0 w wd : World} {o' : Obj} {B B2 g' cap' jj : Nat} {p : List (List Int)} {v u : Value} {vs : Nat → Value} (C : CpI w0 B p jj v vs) (hX : Ext w0 w) (hB2 : w0.heap.size ≤ B2) (hB : B ≤ B2)
    (h2 : w.ownsRow B2 3 1 u (rl p jj) (nums (p.getD jj [])))
    (hd : (w.alloc o').grownBy wd v.ownBlock) (hown : wd.ownsRow B 23 1 (.slice (some ⟨g', 0, none⟩) (jj + 1) cap') (jj + 1) ((List.range jj).map vs ++ [u]))
    (hg0 : v.ownBlock = some g' ∨ g' = (w.alloc o').heap.size) :
    CpI wd B p (jj + 1) (.slice (some ⟨g', 0, none⟩) (jj + 1) cap') (upd vs jj u) := by
  have hsz := alloc_size w o'
  have hsX := hX.size
  have hvl : ∀ k, v.ownBlock = some k → k < w0.heap.size := fun k h => (C.own.lt k h).2
  have hrl : ∀ i k, i < jj → (vs i).ownBlock = some k → k < w0.heap.size := fun i k hi h => ((C.rows i hi).lt k h).2
  have hul : ∀ k, u.ownBlock = some k → B2 ≤ k ∧ k < w.heap.size := fun k h => h2.lt k h
  refine ⟨?_, fun i hi => ?_, fun i k hi h => ?_, fun i j k hi hj hne h1 h3 => ?_⟩
  · have e : (List.range (jj + 1)).map (upd vs jj u) = (List.range jj).map vs ++ [u] := by
      rw [List.range_succ, List.map_append]
      congr 1
      · refine List.map_congr_left fun i hi => ?_
        have := List.mem_range.1 hi
        unfold upd
        rw [if_neg (by omega)]
      · simp [upd]
    rw [e]; exact hown
  · unfold upd
    by_cases e : i = jj
    · subst e
      rw [if_pos rfl]
      refine ownsRow_mono (World.ownsRow.kept (h2.alloc o') hd ?_) hB
      cases hk : u.ownBlock with
      | none => exact Or.inl rfl
      | some k => exact Or.inr (fun h => by have := hvl k h.symm; have := hul k hk; omega)
    · rw [if_neg e]
      exact World.ownsRow.kept ((ownsRow_ext (C.rows i (by omega)) hX).alloc o') hd (by
        cases hk : (vs i).ownBlock with
        | none => exact Or.inl rfl
        | some k => exact Or.inr (fun e2 => C.far i k (by omega) hk e2.symm))
  · rw [ownBlock_slice]
    simp only [ne_eq, Option.some.injEq]
    intro e
    subst e
    unfold upd at h
    by_cases e : i = jj
    · rw [if_pos e] at h
      have := hul _ h
      rcases hg0 with h4 | h4
      · have := hvl _ h4; omega
      · omega
    · rw [if_neg e] at h
      rcases hg0 with h4 | h4
      · exact C.far i _ (by omega) h h4
      · have := hrl i _ (by omega) h; omega
  · unfold upd at h1 h3
    by_cases ei : i = jj
    · rw [if_pos ei] at h1
      rw [if_neg (by omega)] at h3
      have := hul k h1
      have := hrl j k (by omega) h3
      omega
    · rw [if_neg ei] at h1
      by_cases ej : j = jj
      · rw [if_pos ej] at h3
        have := hul k h3
        have := hrl i k (by omega) h1
        omega
      · rw [if_neg ej] at h3
        exact C.apart i j k (by omega) (by omega) hne h1 h3
theorem far4d {b1 b2 b3 b4 k : Nat} {c1 c2 c3 c4 : Array Value} {t1 t2 t3 t4 : TypeId} (h1 : b1 ≠ k) (h2 : b2 ≠ k) (h3 : b3 ≠ k) (h4 : b4 ≠ k) : ∀ x, x ∈ [(b1, c1, t1), (b2, c2, t2), (b3, c3, t3), (b4, c4, t4)] → x.1 ≠ k := by
  intro x hx
  simp only [List.mem_cons, List.not_mem_nil, or_false] at hx
  rcases hx with rfl | rfl | rfl | rfl
  · exact h1
  · exact h2
  · exact h3
  · exact h4
set_option maxRecDepth 100000 in
set_option maxHeartbeats 8000000 in
theorem plan_any {w : World} {gc : Nat} {code : List Int} {A : Option Addr} {cA : Nat} {c : Cu} {l : Line} {A0 : Option Addr} {c0 : Nat} {A2 : Option Addr} {c2 : Nat} (D : CurIs w gc code A cA c) (hB : RdByte w A code) (hgc : ∀ b o, A = some ⟨b, o, none⟩ → b ≠ gc) (By : Bytes code) (hn : code.length ≤ 1048576) (O : Ok l) (hs : l.size ≤ 1048576)
    (hl : ∀ W, Chg (fun g => g = gc) w W → IsLine W l (.agg #[.slice A0 l.tracks.length c0, .int .i64 l.gap, .slice A2 l.trains.length c2])) (hp : c.pos ≤ 1000) :
    Calls Try.prog 122 #[.pointer (some ⟨gc, 0, none⟩), .agg #[.slice A0 l.tracks.length c0, .int .i64 l.gap, .slice A2 l.trains.length c2]] w fun e w' => ∃ (p : List (List Int)) (v : Value) (c' : Cu), e = .returned v ∧ PlanD w' w.heap.size p v ∧ CurIs w' gc code A cA c' ∧ c'.pos ≤ c.pos + 100 ∧ Chg (fun g => g = gc) w w' := by
  have HL := Lib.hid hl
  have HO := Lib.hid O
  have HS0 := Lib.hid hs
  have HBy := Lib.hid By
  have HB := Lib.hid hB
  have HGC := Lib.hid hgc
  have HBd := Lib.hid O.bd
  have n5 := O.bd.n5
  have D0 := ((Dw.start D).newAt (g := w.heap.size) #[.slice A0 l.tracks.length c0, .int .i64 l.gap, .slice A2 l.trains.length c2] 33 rfl).newAt (g := w.heap.size + 1) #[.slice none 0 0] 42 (by rw [alloc_size])
  clear hl O hs By hB hgc D
  go_enter Try.func122, Try.ntmps122
  go_wp2_with fail
  go_loopw [5] (fun j wr => ∃ (k : Nat) (cc : Cu), j = .int .i64 k ∧ k ≤ 5 ∧ cc.pos ≤ c.pos + 20 * k ∧ Dw w gc code A cA wr cc [(w.heap.size + 1, #[.slice none 0 0], 42), (w.heap.size, #[.slice A0 l.tracks.length c0, .int .i64 l.gap, .slice A2 l.trains.length c2], 33)]) (fun j _ => 5 - (intOf j).toNat)
  case atStart => exact ⟨0, c, rfl, by omega, by omega, D0⟩
  case round =>
    clear D0
    obtain ⟨k, cc, rfl, hk5, hcc, DD⟩ := hrel
    obtain ⟨z1, z2, z3⟩ := DD.at_ (g := w.heap.size) (cs := #[.slice A0 l.tracks.length c0, .int .i64 l.gap, .slice A2 l.trains.length c2]) (t := 33) (by simp)
    obtain ⟨y1, y2, y3⟩ := DD.at_ (g := w.heap.size + 1) (cs := #[.slice none 0 0]) (t := 42) (by simp)
    by_cases hlt : k < 5
    · have hd : decide ((k : Int) < 5) = true := decide_eq_true (by omega)
      go_upto_region 4 with fail
      have Dd := DD.ext (Ext.refl wr).drew
      clear z1 y1
      go_cut [6] (fun s wx => ∃ (g6 : Nat) (pr : PlR) (AR : Option Addr) (cR gr : Nat) (vs : Nat → Value) (cc' : Cu), s = .pointer (some ⟨g6, 0, none⟩) ∧ wx.heap[g6]? = some (.cells #[.int .i64 pr.1.1, .int .i64 pr.1.2, .slice AR pr.2.length cR] 73 (0, 0)) ∧ PRows wx (w.heap.size + 2) pr.2 AR gr vs ∧ w.heap.size + 1 < g6 ∧ (pr.2.length ≤ 5 ∧ ∀ i, rl pr.2 i ≤ 10) ∧ cc'.pos ≤ c.pos + 20 * (k + 1) ∧ Dw w gc code A cA wx cc' [(w.heap.size + 1, #[.slice none 0 0], 42), (w.heap.size, #[.slice A0 l.tracks.length c0, .int .i64 l.gap, .slice A2 l.trains.length c2], 33)])
      case first =>
        refine wp_region_held_drew (S := LineAt w.heap.size (.slice A0 l.tracks.length c0) (.int .i64 l.gap) (.slice A2 l.trains.length c2)) (by kernel_rfl) (line4 Dd) (fun _ => ?_)
        refine wpAnyH_take (i := 0) (oi := _) (v := ?_) rfl (by kernel_rfl) (by kernel_rfl) (by kernel_rfl) (fun _ _ _ h => h) (Or.inl ⟨by rfl, ?_⟩) (by assumption) ?_
        rotate_left 1
        · intro w hSw
          obtain ⟨hs1, hs2, hs3, hs4⟩ := hSw
          go_simp
          try with_reducible rfl
        try simp only [Act.put, List.setIfInBounds_toArray, List.set_cons_zero, List.set_cons_succ]
        refine wpAnyH_take (i := 1) (oi := _) (v := ?_) rfl (by kernel_rfl) (by kernel_rfl) (by kernel_rfl) (fun _ _ _ h => h) (Or.inl ⟨by rfl, ?_⟩) (by assumption) ?_
        rotate_left 1
        · intro w hSw
          obtain ⟨hs1, hs2, hs3, hs4⟩ := hSw
          go_simp
          try with_reducible rfl
        try simp only [Act.put, List.setIfInBounds_toArray, List.set_cons_zero, List.set_cons_succ]
        refine wpAnyH_take (i := 2) (oi := _) (v := ?_) rfl (by kernel_rfl) (by kernel_rfl) (by kernel_rfl) (fun _ _ _ h => h) (Or.inl ⟨by rfl, ?_⟩) (by assumption) ?_
        rotate_left 1
        · intro w hSw
          obtain ⟨hs1, hs2, hs3, hs4⟩ := hSw
          go_simp
          try with_reducible rfl
        try simp only [Act.put, List.setIfInBounds_toArray, List.set_cons_zero, List.set_cons_succ]
        refine wpAnyH_ready (rs := [3, 5]) (by kernel_rfl) (by simp) ?_
        refine AllReadyH.cons rfl (fun K hK => ?_) ?_
        · go_simp
          go_at_call 119
          refine (order_any Dd.cur (pick_dw (HB.out.chg Dd.chg HGC.out) HBy.out HGC.out hn) HBy.out HO.out (fun W hC => HL.out W (Dd.chg.trans hC)) (by omega)).mono ?_
          rintro e w3 ⟨o, Ao, co, c3, rfl, ho10, hRo, hcu3, hpo3, hC3⟩
          have D3 := Dd.pick hcu3 hC3
          go_wp2_with fail
          refine hK.out _ _ (line4 D3) (fun _ => ?_)
          clear hK K
          refine wpAnyH_ready (rs := [4, 5]) (by kernel_rfl) (by simp) ?_
          refine AllReadyH.cons rfl (fun K hK => ?_) ?_
          · go_simp
            go_at_call 60
            refine (spec_Place_any co (HL.out _ D3.chg) HS0.out hRo (by omega)).mono ?_
            rintro e w4 ⟨⟨AR, cR, gr, vs, rfl, hPR⟩, hE4⟩
            have D4 := D3.ext hE4
            have hsm := placeA_small l o
            obtain ⟨pr, hpr⟩ : ∃ pr, pr = placeA l o := ⟨_, rfl⟩
            rw [← hpr] at hPR hsm ⊢
            simp only [placedV]
            clear hpr
            go_wp2_with fail
            refine hK.out _ _ (line4 D4) (fun _ => ?_)
            clear hK K
            refine wpAnyH_ready (rs := [5]) (by kernel_rfl) (by simp) ?_
            refine AllReadyH.cons rfl (fun K hK => ?_) AllReadyH.nil
            go_simp
            have hb6 : (w4.alloc (.cells #[.int .i64 0, .int .i64 0, .slice none 0 0] 73)).heap[w4.heap.size]? = some (.cells #[.int .i64 0, .int .i64 0, .slice none 0 0] 73) := box_new w4 (.cells #[.int .i64 0, .int .i64 0, .slice none 0 0] 73)
            obtain ⟨g6, hg6e⟩ : ∃ g6, w4.heap.size = g6 := ⟨_, rfl⟩
            have hl6 : g6 < (w4.alloc (.cells #[.int .i64 0, .int .i64 0, .slice none 0 0] 73)).heap.size := by rw [alloc_size]; show g6 < w4.heap.size + 1; omega
            have hg6 : w.heap.size + 1 < g6 := by have := (D4.at_ (g := w.heap.size + 1) (cs := #[.slice none 0 0]) (t := 42) (by simp)).2.1; have h : w.heap.size + 1 < w4.heap.size := this; omega
            have hf6 : (0 < pr.2.length → gr ≠ g6) ∧ ∀ i q, i < pr.2.length → (vs i).ownBlock = some q → q ≠ g6 := ⟨fun h => by obtain ⟨_, cs, hcs, _⟩ := hPR.base h; have := box_lt hcs; omega, fun i q hi hq => by have := ((hPR.own i hi).lt q hq).2; omega⟩
            have hPR0 := hPR
            have hPR := hPR.ext ((Ext.refl w4).alloc (.cells #[.int .i64 0, .int .i64 0, .slice none 0 0] 73))
            have DA := D4.ext ((Ext.refl w4).alloc (.cells #[.int .i64 0, .int .i64 0, .slice none 0 0] 73))
            rw [hg6e] at hb6 ⊢
            refine hK.out _ _ (line4 DA) (fun _ => ?_)
            clear hK K
            refine wpAnyH_ready (rs := [6]) (by kernel_rfl) (by simp) ?_
            refine AllReadyH.cons rfl (fun K hK => ?_) AllReadyH.nil
            have DZ := D4.ext ((Ext.refl w4).alloc (.cells #[.int .i64 pr.1.1, .int .i64 pr.1.2, .slice AR pr.2.length cR] 73))
            have hbZ : (w4.alloc (.cells #[.int .i64 pr.1.1, .int .i64 pr.1.2, .slice AR pr.2.length cR] 73)).heap[w4.heap.size]? = some (.cells #[.int .i64 pr.1.1, .int .i64 pr.1.2, .slice AR pr.2.length cR] 73) := box_new _ _
            rw [hg6e] at hbZ
            have hPZ := hPR0.ext ((Ext.refl w4).alloc (.cells #[.int .i64 pr.1.1, .int .i64 pr.1.2, .slice AR pr.2.length cR] 73))
            go_simp
            refine hK.out _ _ (line4 DZ) (fun _ => ?_)
            clear hK K
            refine wpAnyH_done (by kernel_rfl) ?_ _
            go_wp2_with fail
            go_meet
            exact ⟨g6, pr, AR, cR, gr, vs, _, rfl, hbZ, hPZ.mono (by have := (D3.at_ (g := w.heap.size + 1) (cs := #[.slice none 0 0]) (t := 42) (by simp)).2.1; omega), hg6, hsm, by omega, DZ⟩
          refine AllReadyH.cons rfl (fun K hK => ?_) AllReadyH.nil
          go_simp
          have hb6 : (w3.alloc (.cells #[.int .i64 0, .int .i64 0, .slice none 0 0] 73)).heap[w3.heap.size]? = some (.cells #[.int .i64 0, .int .i64 0, .slice none 0 0] 73) := box_new w3 (.cells #[.int .i64 0, .int .i64 0, .slice none 0 0] 73)
          obtain ⟨g6, hg6e⟩ : ∃ g6, w3.heap.size = g6 := ⟨_, rfl⟩
          have hl6 : g6 < (w3.alloc (.cells #[.int .i64 0, .int .i64 0, .slice none 0 0] 73)).heap.size := by rw [alloc_size]; show g6 < w3.heap.size + 1; omega
          have hg6 : w.heap.size + 1 < g6 := by have := (D3.at_ (g := w.heap.size + 1) (cs := #[.slice none 0 0]) (t := 42) (by simp)).2.1; have h : w.heap.size + 1 < w3.heap.size := this; omega
          have hRo := RdInt.ext hRo ((Ext.refl w3).alloc (.cells #[.int .i64 0, .int .i64 0, .slice none 0 0] 73))
          have DA := D3.ext ((Ext.refl w3).alloc (.cells #[.int .i64 0, .int .i64 0, .slice none 0 0] 73))
          rw [hg6e] at hb6 ⊢
          refine hK.out _ _ (line4 DA) (fun _ => ?_)
          clear hK K
          refine wpAnyH_ready (rs := [4]) (by kernel_rfl) (by simp) ?_
          refine AllReadyH.cons rfl (fun K hK => ?_) AllReadyH.nil
          go_simp
          go_at_call 60
          refine (spec_Place_any co (HL.out _ DA.chg) HS0.out hRo (by omega)).mono ?_
          rintro e w4 ⟨⟨AR, cR, gr, vs, rfl, hPR⟩, hE4⟩
          have D4 := DA.ext hE4
          have hsm := placeA_small l o
          obtain ⟨pr, hpr⟩ : ∃ pr, pr = placeA l o := ⟨_, rfl⟩
          rw [← hpr] at hPR hsm ⊢
          simp only [placedV]
          clear hpr
          have hf6 : (0 < pr.2.length → gr ≠ g6) ∧ ∀ i q, i < pr.2.length → (vs i).ownBlock = some q → q ≠ g6 := ⟨fun h => by have := hPR.lor; omega, fun i q hi hq => by have := ((hPR.own i hi).lt q hq).1; omega⟩
          have hb6 := hE4.box hb6
          have hl6 := Nat.lt_of_lt_of_le hl6 hE4.size
          go_wp2_with fail
          refine hK.out _ _ (line4 D4) (fun _ => ?_)
          clear hK K
          refine wpAnyH_ready (rs := [6]) (by kernel_rfl) (by simp) ?_
          refine AllReadyH.cons rfl (fun K hK => ?_) AllReadyH.nil
          have e60 := box_cell hb6 0
          have e61 := box_cell hb6 1
          have e62 := box_cell hb6 2
          have e6f := box_frozen hb6
          have DZ := ((D4.wrote ((Chg.of_ext (S := fun k => k = g6) (Ext.refl _)).setCell (g := g6) (Or.inl rfl) 0 (.int .i64 pr.1.1)) (by omega) (far2 (by omega) (by omega))).wrote ((Chg.of_ext (S := fun k => k = g6) (Ext.refl _)).setCell (g := g6) (Or.inl rfl) 1 (.int .i64 pr.1.2)) (by omega) (far2 (by omega) (by omega))).wrote ((Chg.of_ext (S := fun k => k = g6) (Ext.refl _)).setCell (g := g6) (Or.inl rfl) 2 (.slice AR pr.2.length cR)) (by omega) (far2 (by omega) (by omega))
          go_simp
          refine hK.out _ _ (line4 DZ) (fun _ => ?_)
          clear hK K
          refine wpAnyH_done (by kernel_rfl) ?_ _
          go_wp2_with fail
          go_meet
          exact ⟨g6, pr, AR, cR, gr, vs, _, rfl, by rw [box_set (box_set (box_set hb6 _ _) _ _) _ _]; rfl, ((hPR.keep ((((Chg.of_ext (S := fun k => k = g6) (Ext.refl _)).setCell (g := g6) (Or.inl rfl) 0 (.int .i64 pr.1.1)).setCell (g := g6) (Or.inl rfl) 1 (.int .i64 pr.1.2)).setCell (g := g6) (Or.inl rfl) 2 (.slice AR pr.2.length cR)) hf6.1 (fun i q hi hq => hf6.2 i q hi hq)).mono (by have := (D3.at_ (g := w.heap.size + 1) (cs := #[.slice none 0 0]) (t := 42) (by simp)).2.1; omega)), hg6, hsm, by omega, DZ⟩
        refine AllReadyH.cons rfl (fun K hK => ?_) AllReadyH.nil
        go_simp
        have hb6 : (wr.drew.alloc (.cells #[.int .i64 0, .int .i64 0, .slice none 0 0] 73)).heap[wr.heap.size]? = some (.cells #[.int .i64 0, .int .i64 0, .slice none 0 0] 73) := box_new wr.drew (.cells #[.int .i64 0, .int .i64 0, .slice none 0 0] 73)
        obtain ⟨g6, hg6e⟩ : ∃ g6, wr.heap.size = g6 := ⟨_, rfl⟩
        have hl6 : g6 < (wr.drew.alloc (.cells #[.int .i64 0, .int .i64 0, .slice none 0 0] 73)).heap.size := by rw [alloc_size]; show g6 < wr.heap.size + 1; omega
        have hg6 : w.heap.size + 1 < g6 := by have := (Dd.at_ (g := w.heap.size + 1) (cs := #[.slice none 0 0]) (t := 42) (by simp)).2.1; have h : w.heap.size + 1 < wr.heap.size := this; omega
        have DA := Dd.ext ((Ext.refl wr.drew).alloc (.cells #[.int .i64 0, .int .i64 0, .slice none 0 0] 73))
        rw [hg6e] at hb6 ⊢
        refine hK.out _ _ (line4 DA) (fun _ => ?_)
        clear hK K
        refine wpAnyH_ready (rs := [3]) (by kernel_rfl) (by simp) ?_
        refine AllReadyH.cons rfl (fun K hK => ?_) AllReadyH.nil
        go_simp
        go_at_call 119
        refine (order_any DA.cur (pick_dw (HB.out.chg DA.chg HGC.out) HBy.out HGC.out hn) HBy.out HO.out (fun W hC => HL.out W (DA.chg.trans hC)) (by omega)).mono ?_
        rintro e w3 ⟨o, Ao, co, c3, rfl, ho10, hRo, hcu3, hpo3, hC3⟩
        have D3 := DA.pick hcu3 hC3
        have hb6 := hC3.box hb6 (by have := DD.old; have := hg6; show ¬ _ = gc; omega)
        have hl6 := Nat.lt_of_lt_of_le hl6 hC3.size
        go_wp2_with fail
        refine hK.out _ _ (line4 D3) (fun _ => ?_)
        clear hK K
        refine wpAnyH_ready (rs := [4]) (by kernel_rfl) (by simp) ?_
        refine AllReadyH.cons rfl (fun K hK => ?_) AllReadyH.nil
        go_simp
        go_at_call 60
        refine (spec_Place_any co (HL.out _ D3.chg) HS0.out hRo (by omega)).mono ?_
        rintro e w4 ⟨⟨AR, cR, gr, vs, rfl, hPR⟩, hE4⟩
        have D4 := D3.ext hE4
        have hsm := placeA_small l o
        obtain ⟨pr, hpr⟩ : ∃ pr, pr = placeA l o := ⟨_, rfl⟩
        rw [← hpr] at hPR hsm ⊢
        simp only [placedV]
        clear hpr
        have hf6 : (0 < pr.2.length → gr ≠ g6) ∧ ∀ i q, i < pr.2.length → (vs i).ownBlock = some q → q ≠ g6 := ⟨fun h => by have := hPR.lor; omega, fun i q hi hq => by have := ((hPR.own i hi).lt q hq).1; omega⟩
        have hb6 := hE4.box hb6
        have hl6 := Nat.lt_of_lt_of_le hl6 hE4.size
        go_wp2_with fail
        refine hK.out _ _ (line4 D4) (fun _ => ?_)
        clear hK K
        refine wpAnyH_ready (rs := [6]) (by kernel_rfl) (by simp) ?_
        refine AllReadyH.cons rfl (fun K hK => ?_) AllReadyH.nil
        have e60 := box_cell hb6 0
        have e61 := box_cell hb6 1
        have e62 := box_cell hb6 2
        have e6f := box_frozen hb6
        have DZ := ((D4.wrote ((Chg.of_ext (S := fun k => k = g6) (Ext.refl _)).setCell (g := g6) (Or.inl rfl) 0 (.int .i64 pr.1.1)) (by omega) (far2 (by omega) (by omega))).wrote ((Chg.of_ext (S := fun k => k = g6) (Ext.refl _)).setCell (g := g6) (Or.inl rfl) 1 (.int .i64 pr.1.2)) (by omega) (far2 (by omega) (by omega))).wrote ((Chg.of_ext (S := fun k => k = g6) (Ext.refl _)).setCell (g := g6) (Or.inl rfl) 2 (.slice AR pr.2.length cR)) (by omega) (far2 (by omega) (by omega))
        go_simp
        refine hK.out _ _ (line4 DZ) (fun _ => ?_)
        clear hK K
        refine wpAnyH_done (by kernel_rfl) ?_ _
        go_wp2_with fail
        go_meet
        exact ⟨g6, pr, AR, cR, gr, vs, _, rfl, by rw [box_set (box_set (box_set hb6 _ _) _ _) _ _]; rfl, ((hPR.keep ((((Chg.of_ext (S := fun k => k = g6) (Ext.refl _)).setCell (g := g6) (Or.inl rfl) 0 (.int .i64 pr.1.1)).setCell (g := g6) (Or.inl rfl) 1 (.int .i64 pr.1.2)).setCell (g := g6) (Or.inl rfl) 2 (.slice AR pr.2.length cR)) hf6.1 (fun i q hi hq => hf6.2 i q hi hq)).mono (by have := (D3.at_ (g := w.heap.size + 1) (cs := #[.slice none 0 0]) (t := 42) (by simp)).2.1; omega)), hg6, hsm, by omega, DZ⟩
      case rest =>
        obtain ⟨g6, pr, AR, cR, gr, vs, c6, rfl, hb6, hPR, hg6, hsm, hp6, D6⟩ := hcut
        have e60 := box_cell hb6 0
        have e62 := box_cell hb6 2
        have hl6 := box_lt hb6
        obtain ⟨y1, y2, y3⟩ := D6.at_ (g := w.heap.size + 1) (cs := #[.slice none 0 0]) (t := 42) (by simp)
        have y10 := y1 0
        have HPR := Lib.hid hPR
        clear hb6 hPR y1 DD Dd
        by_cases hz : pr.1.1 = 0
        · have hb : (pr.1.1 == 0) = true := by simp [hz]
          clear hz
          go_wp2_with fail
          refine bodyPost_ret (v := .agg #[.slice AR pr.2.length cR]) (by simp [results, Try.results122, go_sem, y10, y2, y3]) rfl ⟨pr.2, _, c6, rfl, ⟨AR, cR, gr, vs, rfl, ((HPR.out.set_far (by omega) _ _).mono (by omega)), hsm.1, hsm.2⟩, (D6.set (one1 (by omega)) 0 (.slice AR pr.2.length cR)).cur, by omega, (D6.set (one1 (by omega)) 0 (.slice AR pr.2.length cR)).chg⟩
        · have hb : (pr.1.1 == 0) = false := by simp [hz]
          clear hz
          go_wp2_with fail
          exact ⟨⟨k + 1, c6, by go_num, by omega, hp6, D6⟩, (by simp [intOf]; omega)⟩
    · have HK5 : Hid (k = 5) := by unfold Hid; omega
      have hd : decide ((k : Int) < 5) = false := decide_eq_false (by omega)
      obtain ⟨wo, rfl⟩ : ∃ wo, wo = wr := ⟨_, rfl⟩
      have D7 := DD.newAt (g := wo.heap.size) #[.slice none 0 0] 42 rfl
      have hg7 : w.heap.size + 1 < wo.heap.size := y2
      clear y1 y2 y3
      go_wp2_with fail
      go_loopw [31] (fun j wr => ∃ (jj : Nat) (v : Value) (vs : Nat → Value), jj ≤ l.trains.length ∧ j = .int .i64 jj ∧ Hid (CpI wr (wo.heap.size + 1) (aloneRows l) jj v vs) ∧ Dw w gc code A cA wr cc [(wo.heap.size, #[v], 42), (w.heap.size + 1, #[.slice none 0 0], 42), (w.heap.size, #[.slice A0 l.tracks.length c0, .int .i64 l.gap, .slice A2 l.trains.length c2], 33)]) (fun j _ => l.trains.length - (intOf j).toNat)
      case atStart => exact ⟨0, .slice none 0 0, fun _ => .slice none 0 0, Nat.zero_le _, rfl, CpI.start _ _ _ _, D7⟩
      case round =>
        clear D7 DD z1 z2 z3
        obtain ⟨jj, v, vs, hjj, rfl, HCP, DD⟩ := hrel
        by_cases hlt : jj < l.trains.length
        · obtain ⟨B0', B0c, B2', B2c, hv, h0, h2⟩ := HL.out _ DD.chg
          simp only [Value.agg.injEq, Array.mk.injEq, List.cons.injEq, Value.slice.injEq, and_true, true_and] at hv
          obtain ⟨⟨rfl, rfl⟩, rfl, rfl⟩ := hv
          obtain ⟨b0, o0, b2, o2, bl, ol, cl, SL⟩ := seeL HO.out h0 h2
          obtain ⟨rfl, hb2⟩ := SL.base2 (by omega)
          obtain ⟨e0, e1, e2, e3, e4, hbl⟩ := SL.train jj hlt
          obtain ⟨m10, m11⟩ := HBd.out.nl1 jj hlt
          obtain ⟨t0, t1⟩ := HBd.out.tr jj hlt
          have HSL := Lib.hid SL
          have hg7w := (DD.at_ (g := wo.heap.size) (cs := #[v]) (t := 42) (by simp)).2.1
          clear SL h0 h2
          obtain ⟨wq, rfl⟩ : ∃ wq, wq = wr := ⟨_, rfl⟩
          have D9 := DD.newAt (g := wq.heap.size) #[.int .i64 (l.tr jj).frm, .int .i64 (l.tr jj).ready, .int .i64 (l.tr jj).due, .int .i64 (l.tr jj).weight, .slice (some ⟨bl jj, ol jj, none⟩) (l.tr jj).legs.length (cl jj)] 80 rfl
          have E9 : Ext wq (wq.alloc (.cells #[.int .i64 (l.tr jj).frm, .int .i64 (l.tr jj).ready, .int .i64 (l.tr jj).due, .int .i64 (l.tr jj).weight, .slice (some ⟨bl jj, ol jj, none⟩) (l.tr jj).legs.length (cl jj)] 80)) := (Ext.refl wq).alloc _
          clear DD
          go_wp2_with fail
          go_loopw [10, 11, 40] (fun a u j wr => ∃ (m : Nat) (x : Int) (Dr : List Int), m ≤ (l.tr jj).legs.length ∧ j = .int .i64 m ∧ a = .int .i64 x ∧ 0 ≤ x ∧ x ≤ 100000 + 20000 * m ∧ Dr.length = m ∧ Hid (Dr ++ rowA x ((l.tr jj).legs.drop m) = rowA (l.tr jj).ready (l.tr jj).legs) ∧ Hid (wr.ownsRow (wq.heap.size + 1) 3 1 u m (nums Dr)) ∧ Hid (Ext wq wr) ∧ Dw w gc code A cA wr cc [(wq.heap.size, #[.int .i64 (l.tr jj).frm, .int .i64 (l.tr jj).ready, .int .i64 (l.tr jj).due, .int .i64 (l.tr jj).weight, .slice (some ⟨bl jj, ol jj, none⟩) (l.tr jj).legs.length (cl jj)], 80), (wo.heap.size, #[v], 42), (w.heap.size + 1, #[.slice none 0 0], 42), (w.heap.size, #[.slice A0 l.tracks.length c0, .int .i64 l.gap, .slice (some ⟨b2, o2, none⟩) l.trains.length c2], 33)]) (fun _ _ j _ => (l.tr jj).legs.length - (intOf j).toNat)
          case atStart => exact ⟨0, (l.tr jj).ready, [], Nat.zero_le _, rfl, rfl, by omega, by omega, rfl, rfl, World.ownsRow_nil _ _ _ _, E9, D9⟩
          case round =>
            clear D9 E9
            obtain ⟨m, x, Dr, hm, rfl, rfl, hx0, hx1, hDr, HRW, HOW, HEX, DD⟩ := hrel
            obtain ⟨z1, z2, z3⟩ := DD.at_ (g := wq.heap.size) (cs := #[.int .i64 (l.tr jj).frm, .int .i64 (l.tr jj).ready, .int .i64 (l.tr jj).due, .int .i64 (l.tr jj).weight, .slice (some ⟨bl jj, ol jj, none⟩) (l.tr jj).legs.length (cl jj)]) (t := 80) (by simp)
            by_cases hlm : m < (l.tr jj).legs.length
            · have hext : Ext wq wr := HEX.out
              obtain ⟨f0, f1, f2⟩ := HSL.out.leg jj m hlt hlm
              obtain ⟨_, _, _, _, _, hbl2⟩ := HSL.out.train jj hlt
              obtain ⟨_, _, q1, q2, q3, q4⟩ := HBd.out.leg jj m hlt hlm
              have g0 := (hext.cells.1 _ _ hbl2).trans f0
              have g1 := (hext.cells.1 _ _ hbl2).trans f1
              have g2 := (hext.cells.1 _ _ hbl2).trans f2
              have hblw := hext.up _ hbl2
              have hHX : rowA x ((l.tr jj).legs.drop m) = (x + (l.leg jj m).stay) :: rowA (x + (l.leg jj m).stay + (l.leg jj m).run) ((l.tr jj).legs.drop (m + 1)) := by rw [drop_some (Line.leg_at hlm)]; rfl
              have HX := HRW.out
              rw [hHX] at HX
              have HX2 : Hid ((Dr ++ [x + (l.leg jj m).stay]) ++ rowA (x + (l.leg jj m).stay + (l.leg jj m).run) ((l.tr jj).legs.drop (m + 1)) = rowA (l.tr jj).ready (l.tr jj).legs) := by unfold Hid; rw [List.append_assoc]; exact HX
              obtain ⟨rn, hrn⟩ : ∃ z, Hid ((l.leg jj m).run = z) := ⟨_, rfl⟩
              obtain ⟨sy, hsy⟩ : ∃ z, Hid ((l.leg jj m).stay = z) := ⟨_, rfl⟩
              obtain ⟨tt, htt⟩ : ∃ z, Hid ((l.leg jj m).to = z) := ⟨_, rfl⟩
              rw [hrn.out] at g1 q1 q2 HX2
              rw [hsy.out] at g2 q3 q4 HX2
              rw [htt.out] at g0
              have hm10 : m ≤ 10 := by omega
              have hw1 : IntKind.i64.wrap (x + sy) = x + sy := IntWalk.i64_in _ (by omega)
              have hw2 : IntKind.i64.wrap (x + sy + rn) = x + sy + rn := IntWalk.i64_in _ (by omega)
              have hN : m ≤ 1000000 := by omega
              have hDr' := Lib.hid hDr
              have hoo := DD.old
              have hwg : w.heap.size + 1 < wo.heap.size := hg7
              clear f0 f1 f2 hHX HX HRW hDr z1
              go_wp2_with (at_builtin; refine app_any rfl _ _ 23 rfl (wq.heap.size + 1) 3 1 8 _ Try.underlying23 info3 rfl (by decide) _ _ _ rfl ((HOW.out.alloc _).alloc _) (by rw [alloc_size, alloc_size]; omega) _ _ #[.int .i64 (x + sy)] _ rfl (heap_alloc2_new _ _ _) rfl (one_int _) hN (by decide) _ rfl ?_)
              intro g cap w6 hown hgrow hg hlt6
              have hlo : ∀ q, u11.ownBlock = some q → wq.heap.size + 1 ≤ q ∧ q < wr.heap.size := fun q hq => World.ownsRow.lt HOW.out q hq
              have D6 := (DD.ext (((Ext.refl wr).alloc (.cells #[.int .i64 tt, .int .i64 rn, .int .i64 sy] 84)).alloc (.cells #[.int .i64 (x + sy)] 3))).grown hgrow (fun q hq => ⟨by have := hlo q hq; omega, by have := hlo q hq; exact far4d (by omega) (by omega) (by omega) (by omega)⟩)
              have HE6 := Lib.hid (((hext.alloc (.cells #[.int .i64 tt, .int .i64 rn, .int .i64 sy] 84)).alloc (.cells #[.int .i64 (x + sy)] 3)).grown hgrow (by rw [alloc_size, alloc_size]; omega) (fun q hq => by have := hlo q hq; omega))
              have hBL := (hgrow.block wr.heap.size (by rw [alloc_size, alloc_size]; omega) (fun e => by have := hlo _ e.symm; omega)).trans (box_old (box_new wr (.cells #[.int .i64 tt, .int .i64 rn, .int .i64 sy] 84)) _)
              have b1 := box_cell hBL 1
              have b2' := box_lt hBL
              have HO6 : Hid (w6.ownsRow (wq.heap.size + 1) 3 1 (.slice (some ⟨g, 0, none⟩) (m + 1) cap) (m + 1) (nums (Dr ++ [x + sy]))) := by
                have e : nums (Dr ++ [x + sy]) = nums Dr ++ (#[Value.int .i64 (x + sy)] : Array Value).toList := by simp [nums]
                unfold Hid; rw [e]; exact hown
              have HD6 : Hid ((Dr ++ [x + sy]).length = m + 1) := by unfold Hid; rw [List.length_append, List.length_singleton, hDr'.out]
              clear hown hgrow hg hBL g0 g1 g2 hblw HOW HEX hext DD z2 z3
              go_wp2_with fail
              exact ⟨⟨m + 1, x + sy + rn, Dr ++ [x + sy], by omega, by go_num, rfl, by omega, by omega, HD6.out, HX2.out, HO6.out, HE6.out, D6⟩, (by simp [intOf]; omega)⟩
            · obtain ⟨n, hn1⟩ : ∃ n, Hid ((l.tr jj).legs.length = n) := ⟨_, rfl⟩
              have hmn : m = (l.tr jj).legs.length := by omega
              have HL := HRW.out
              rw [hmn, drop_end (Nat.le_refl _), rowA, List.append_nil] at HL
              have hrow : (aloneRows l).getD jj [] = Dr := by rw [aloneRows_at hlt]; exact HL.symm
              have hrl : rl (aloneRows l) jj = m := by unfold rl; rw [hrow]; exact hDr
              obtain ⟨gu, cu, hu, hgu1, hgu2⟩ := World.ownsRow.form HOW.out (by omega)
              subst hu
              obtain ⟨y1, y2, y3⟩ := DD.at_ (g := wo.heap.size) (cs := #[v]) (t := 42) (by simp)
              have y10 := y1 0
              have hN : jj ≤ 1000000 := by omega
              have hd9 : decide ((m : Int) < ((l.tr jj).legs.length : Int)) = false := decide_eq_false (by omega)
              have hwqr := HEX.out.size
              have HCO := Lib.hid (ownsRow_ext HCP.out.own HEX.out)
              have hmn' := Lib.hid hmn
              have hrow' := Lib.hid hrow
              have hrl' := Lib.hid hrl
              have hwoq : wo.heap.size < wq.heap.size := hg7w
              have hwg : w.heap.size + 1 < wo.heap.size := hg7
              clear HL hmn hrow hrl hDr z1 z2 z3 y1
              go_wp2_with (at_builtin; refine app_any rfl _ _ 40 rfl (wo.heap.size + 1) 23 1 24 _ Try.underlying40 info23 rfl (by decide) v jj ((List.range jj).map vs) rfl (HCO.out.alloc _) (by rw [alloc_size]; omega) _ _ #[.slice (some ⟨gu, 0, none⟩) m cu] _ rfl (box_new _ _) rfl (one_sl _ _ _) hN (by decide) _ rfl ?_)
              intro g' cap' w6 hown hgrow hg hlt6
              have hlo : ∀ q, v.ownBlock = some q → wo.heap.size + 1 ≤ q ∧ q < wq.heap.size := fun q hq => World.ownsRow.lt HCP.out.own q hq
              have D6 := ((DD.ext ((Ext.refl wr).alloc (.cells #[.slice (some ⟨gu, 0, none⟩) m cu] 23))).grown hgrow (fun q hq => ⟨by have := hlo q hq; omega, by have := hlo q hq; exact far4d (by omega) (by omega) (by omega) (by omega)⟩)).tail
              have hC6 : CpI w6 (wo.heap.size + 1) (aloneRows l) (jj + 1) (.slice (some ⟨g', 0, none⟩) (jj + 1) cap') (upd vs jj (.slice (some ⟨gu, 0, none⟩) m cu)) := HCP.out.row HEX.out (B2 := wq.heap.size + 1) (by omega) (by omega) (by rw [hrl'.out, hrow'.out]; exact HOW.out) hgrow hown (hg.imp id (fun h => by rw [alloc_size]; exact h))
              have D7 := D6.set (far2 (by omega) (by omega)) 0 (.slice (some ⟨g', 0, none⟩) (jj + 1) cap')
              have HC7 := Lib.hid (hC6.set_far (g := wo.heap.size) (by omega) 0 (.slice (some ⟨g', 0, none⟩) (jj + 1) cap'))
              obtain ⟨t1, t2, t3⟩ := D6.at_ (g := wo.heap.size) (cs := #[v]) (t := 42) (by simp)
              have t10 := t1 0
              have t30 := t3 0
              clear hown hgrow hg HCO HOW HRW HEX HCP DD D6 hC6 y2 y3 y10 t1 t3
              go_wp2_with fail
              exact ⟨⟨jj + 1, _, _, by omega, by go_num, HC7.out, D7⟩, (by simp [intOf]; omega)⟩
        · have hjj' : jj = l.trains.length := by omega
          obtain ⟨AP, cP, grb, hv, hPR, hgb1, hgb2⟩ := CpI.prows (p := aloneRows l) (v := v) (vs := vs) (w := wr) (B := wo.heap.size + 1) (by rw [aloneRows_length, ← hjj']; exact HCP.out)
          have hwg : w.heap.size + 1 < wo.heap.size := hg7
          obtain ⟨pl, hpl⟩ : ∃ pl, Hid ((aloneRows l).length = pl) := ⟨_, rfl⟩
          have hpl5 : pl ≤ 5 := by rw [← hpl.out, aloneRows_length]; exact n5
          rw [hpl.out] at hv
          subst hv
          have HPR := Lib.hid hPR
          obtain ⟨y1, y2, y3⟩ := DD.at_ (g := wo.heap.size) (cs := #[.slice AP pl cP]) (t := 42) (by simp)
          obtain ⟨x1, x2, x3⟩ := DD.at_ (g := w.heap.size + 1) (cs := #[.slice none 0 0]) (t := 42) (by simp)
          have y10 := y1 0
          have x10 := x1 0
          have x30 := x3 0
          have D8 := DD.tail.set (one1 (by omega)) 0 (.slice AP pl cP)
          have hne : w.heap.size + 1 ≠ wo.heap.size := by omega
          have hrl10 : Hid (∀ i, rl (aloneRows l) i ≤ 10) := fun i => by
            rw [aloneRows_rl]
            by_cases hi : i < l.trains.length
            · rw [if_pos hi]; exact (HBd.out.nl1 i hi).2
            · rw [if_neg hi]; omega
          clear y1 x1 x3 hPR hgb1 hgb2 DD HCP
          go_wp2_with fail
          refine bodyPost_ret (v := .agg #[.slice AP pl cP]) (by simp [results, Try.results122, go_sem, x10, x2, x30]) rfl ⟨aloneRows l, _, cc, rfl, ⟨AP, cP, grb, vs, by rw [hpl.out], (HPR.out.set_far (by omega) _ _).mono (by omega), by rw [hpl.out]; exact hpl5, hrl10.out⟩, D8.cur, by omega, D8.chg⟩
end Go.Proofs.Ythhkbfjolmgloaa
namespace Go.Proofs.Ythhkbfjolmgloaa
open Go.RowKit Go.Deep
set_option linter.unusedVariables false
set_option linter.unusedSimpArgs false
/-- A number of a plan of one's own is overwritten. -/
theorem PRows.stamp {w : World} {lo : Nat} {p : List (List Int)} {AR : Option Addr} {gr : Nat} {vs : Nat → Value} (h : PRows w lo p AR gr vs) {i j : Nat} (hi : i < p.length) (hj : j < rl p i) :
    ∃ g cap y, vs i = .slice (some ⟨g, 0, none⟩) (rl p i) cap ∧ lo ≤ g ∧ g < w.heap.size ∧ (∀ j, w.frozen? ⟨g, j, none⟩ = false) ∧ w.cell? ⟨g, j, none⟩ = some (.int .i64 y) ∧ ∀ x : Int, PRows (w.setCell ⟨g, j, none⟩ (.int .i64 x)) lo (p.set i ((p.getD i []).set j x)) AR gr vs := by
  obtain ⟨hlen, h0 | ⟨g, cap, cur, hv, hlo, hbx, hc, hm, hsz, htk⟩⟩ := h.own i hi
  · omega
  · have hob : (vs i).ownBlock = some g := by rw [hv]; rfl
    obtain ⟨y, hy⟩ := some_of_lt (l := p.getD i []) (i := j) hj
    have hcell : w.cell? ⟨g, j, none⟩ = some (.int .i64 y) := by
      have e1 : (nums (p.getD i []))[j]? = some (.int .i64 y) := by rw [nums, List.getElem?_map, hy]; rfl
      rw [← htk, List.getElem?_take_of_lt (by omega)] at e1
      rw [box_cell hbx, ← e1]
      simp
    refine ⟨g, cap, y, hv, hlo, box_lt hbx, box_frozen hbx, hcell, fun x => ?_⟩
    have hrl : ∀ k, rl (p.set i ((p.getD i []).set j x)) k = rl p k := fun k => by
      unfold rl
      simp only [List.getD_eq_getElem?_getD, List.getElem?_set]
      split
      · rename_i e; subst e; simp [hi]
      · rfl
    refine ⟨fun hn => ?_, fun k hk => ?_, fun a b c ha hb => h.apart a b c (by simpa using ha) (by simpa using hb), fun a b ha => h.far a b (by simpa using ha), h.lor⟩
    · obtain ⟨h1, cs, h2, h3⟩ := h.base (by omega)
      exact ⟨h1, cs, box_set_far h2 j _ (fun e => h.far i g hi hob e.symm), fun k hk => h3 k (by simpa using hk)⟩
    · rw [hrl]
      by_cases e : k = i
      · subst e
        refine ⟨by simp [nums, rl, hi], Or.inr ⟨g, cap, cur.setIfInBounds j (.int .i64 x), hv, hlo, box_set hbx j _, hc, hm, by simp [hsz], ?_⟩⟩
        have : (p.set k ((p.getD k []).set j x)).getD k [] = (p.getD k []).set j x := by simp [List.getD_eq_getElem?_getD, hi]
        rw [this]
        have e2 : nums ((p.getD k []).set j x) = (nums (p.getD k [])).set j (.int .i64 x) := by simp [nums, List.map_set]
        rw [e2, ← htk]
        simp [List.take_set]
      · have : (p.set i ((p.getD i []).set j x)).getD k [] = p.getD k [] := by simp [List.getD_eq_getElem?_getD, List.getElem?_set, Ne.symm e]
        rw [this]
        exact ownsRow_keep (S := fun a => a = g) (h.own k (by simpa using hk)) ((Chg.of_ext (S := fun a => a = g) (Ext.refl w)).setCell (Or.inl rfl) j _) (fun a ha e' => h.apart k i a (by simpa using hk) hi e ha (by rw [hob, e']))
theorem rl_set {p : List (List Int)} {i j : Nat} {x : Int} (hi : i < p.length) (k : Nat) : rl (p.set i ((p.getD i []).set j x)) k = rl p k := by
  unfold rl
  simp only [List.getD_eq_getElem?_getD, List.getElem?_set]
  split
  · rename_i e; subst e; simp [hi]
  · rfl
set_option maxRecDepth 100000 in
set_option maxHeartbeats 8000000 in
theorem aPlan_any {w : World} {l : Line} {u : Value} (hl : IsLine w l u) (O : Ok l) {code : List Int} {A : Option Addr} {cA : Nat} (hB : RdByte w A code) (hA : ∀ b o, A = some ⟨b, o, none⟩ → b < w.heap.size) (By : Bytes code) (hn : code.length ≤ 1048576) (hs : l.size ≤ 1048576) :
    Calls Try.prog 68 #[u, .slice A code.length cA] w fun e w' => ∃ (p : List (List Int)) (AP : Option Addr) (cP gr : Nat) (vs : Nat → Value), e = .returned (.agg #[.slice AP p.length cP]) ∧ PRows w' w.heap.size p AP gr vs ∧ p.length ≤ 5 ∧ (∀ i, rl p i ≤ 10) ∧ Ext w w' := by
  have HL := Lib.hid (fun (W : World) (e : Ext w W) => hl.ext e)
  obtain ⟨A0, c0, A2, c2, rfl, h0, h2⟩ := hl
  have HB := Lib.hid (fun (W : World) (e : Ext w W) => hB.ext e)
  have HA := Lib.hid hA
  have HBy := Lib.hid By
  have HO := Lib.hid O
  clear hB hA By h0 h2 O
  go_enter Try.func68, Try.ntmps68
  go_upto_region 2 with fail
  have hS := (((Lp.nil w).newAt (g := w.heap.size) #[.slice A0 l.tracks.length c0, .int .i64 l.gap, .slice A2 l.trains.length c2] 33 rfl).newAt (g := w.heap.size + 1) #[.slice none 0 0] 42 (by rw [alloc_size])).newAt (g := w.heap.size + 2) #[.slice A code.length cA, .int .i64 0, .int .u64 0] 101 (by rw [alloc_size, alloc_size])
  have hsz : (((w.alloc (.cells #[.slice A0 l.tracks.length c0, .int .i64 l.gap, .slice A2 l.trains.length c2] 33)).alloc (.cells #[.slice none 0 0] 42)).alloc (.cells #[.slice A code.length cA, .int .i64 0, .int .u64 0] 101)).heap.size = w.heap.size + 3 := by rw [alloc_size, alloc_size, alloc_size]
  generalize ((w.alloc (.cells #[.slice A0 l.tracks.length c0, .int .i64 l.gap, .slice A2 l.trains.length c2] 33)).alloc (.cells #[.slice none 0 0] 42)).alloc (.cells #[.slice A code.length cA, .int .i64 0, .int .u64 0] 101) = w2 at hS hsz ⊢
  have hcur : CurIs w2 (w.heap.size + 2) code A cA ⟨0, 0⟩ := hS.box (w.heap.size + 2, #[.slice A code.length cA, .int .i64 0, .int .u64 0], 101) (by simp)
  have hpk := pick_dw (w := w2) (gc := w.heap.size + 2) (cA := cA) (HB.out w2 hS.ext) HBy.out (fun b o e => by have := HA.out b o e; omega) hn
  have HPK := Lib.hid hpk
  have hX := hS.ext
  have HBR := Lib.hid (hS.box (w.heap.size + 1, #[.slice none 0 0], 42) (by simp))
  obtain ⟨k1, k2⟩ := hS.at_ (g := w.heap.size) (cs := #[.slice A0 l.tracks.length c0, .int .i64 l.gap, .slice A2 l.trains.length c2]) (t := 33) (by simp)
  have k10 := k1 0
  have k11 := k1 1
  have k12 := k1 2
  clear k1 hpk
  have hge : w.heap.size + 2 < w2.heap.size := by omega
  clear hsz
  go_wp2_with fail
  refine (plan_any (w := w2) (gc := w.heap.size + 2) hcur (HB.out w2 hX) (fun b o e => by have := HA.out b o e; omega) HBy.out hn HO.out hs (fun W hC => HL.out W (Below.trans hX (hC.below (fun g e => by omega) hX.size))) (by simp)).mono ?_
  rintro e w3 ⟨p, v, cc, rfl, ⟨AP, cP, gr, vs, rfl, hP, hp5, hrl⟩, hcu, hpos, hC⟩
  have D3 := ((Dw.start hcur).pick hcu hC).newAt (g := w3.heap.size) #[.slice AP p.length cP] 42 rfl
  have HP3 := Lib.hid (hP.ext ((Ext.refl w3).alloc (.cells #[.slice AP p.length cP] 42)))
  have HG : Hid (∀ i g, i < p.length → (vs i).ownBlock = some g → g < w3.heap.size) := fun i g hi hg => ((hP.own i hi).lt g hg).2
  have HRL := Lib.hid hrl
  have hw3 : w2.heap.size ≤ w3.heap.size := hC.size
  have hcp : cc.pos ≤ 200 := by simp only [] at hpos; omega
  clear hP hrl hcu hC hcur hS k10 k11 k12 k2 hpos
  go_wp2_with fail
  go_loopw [19] (fun j wr => ∃ (i : Nat) (q : List (List Int)) (c : Cu), i ≤ p.length ∧ j = .int .i64 i ∧ Hid (q.length = p.length) ∧ Hid (∀ a, rl q a = rl p a) ∧ c.pos ≤ 200 + 4 * i ∧ Hid (PRows wr w2.heap.size q AP gr vs) ∧ Dw w2 (w.heap.size + 2) code A cA wr c [(w3.heap.size, #[.slice AP p.length cP], 42)]) (fun j _ => p.length - (intOf j).toNat)
  case atStart => exact ⟨0, p, cc, Nat.zero_le _, rfl, rfl, fun _ => rfl, by omega, HP3.out, D3⟩
  case round =>
    clear D3 HP3
    obtain ⟨i, q, c, hi, rfl, HQL, HQR, hcp2, HQ, DD⟩ := hrel
    by_cases hlt : i < p.length
    · go_wp2_with fail
      refine (HPK.out _ _ _ 6 DD (by omega) (by omega)).mono ?_
      rintro e w4 ⟨rfl, D4, C4⟩
      obtain ⟨c4, hc4⟩ : ∃ x, Hid ((pickC code 6 c).2 = x) := ⟨_, rfl⟩
      obtain ⟨d1, hd1⟩ : ∃ x, Hid ((pickC code 6 c).1 = x) := ⟨_, rfl⟩
      have b4 := pickC_bd HBy.out 6 c
      rw [hc4.out] at D4
      rw [hd1.out]
      rw [hc4.out, hd1.out] at b4
      go_wp2_with fail
      refine (HPK.out _ _ _ 2 D4 (by omega) (by omega)).mono ?_
      rintro e w5 ⟨rfl, D5, C5⟩
      obtain ⟨c5, hc5⟩ : ∃ x, Hid ((pickC code 2 c4).2 = x) := ⟨_, rfl⟩
      obtain ⟨d2, hd2⟩ : ∃ x, Hid ((pickC code 2 c4).1 = x) := ⟨_, rfl⟩
      have b5 := pickC_bd HBy.out 2 c4
      rw [hc5.out] at D5
      rw [hd2.out]
      rw [hc5.out, hd2.out] at b5
      have HQ5 := Lib.hid (HQ.out.chg (C4.trans C5) (fun g e => by omega))
      obtain ⟨dd, hdd⟩ : ∃ x, Hid (IntKind.i64.wrap (d1 * d2) = x) := ⟨_, rfl⟩
      have hmul : IntKind.i64.wrap (d1 * d2) = dd := hdd.out
      obtain ⟨rfl, cs, hbc, hcs⟩ := HQ5.out.base (by rw [HQL.out]; omega)
      obtain ⟨_, Ai, ci, hv, _⟩ := rd_of_ownsP (HQ5.out.own i (by rw [HQL.out]; exact hlt))
      have hv : vs i = .slice Ai (rl q i) ci := hv
      rw [HQR.out i] at hv
      have h0 : w5.cell? ⟨gr, i, none⟩ = some (.slice Ai (rl p i) ci) := by rw [box_cell hbc, hcs i (by rw [HQL.out]; exact hlt), hv]
      have hgr := box_lt hbc
      obtain ⟨z1, z2, z3⟩ := D5.at_ (g := w3.heap.size) (cs := #[.slice (some ⟨gr, 0, none⟩) p.length cP]) (t := 42) (by simp)
      have z10 := z1 0
      have h10 := HRL.out i
      have hcc5 : c5.pos ≤ 200 + 4 * (i + 1) := by omega
      obtain ⟨n, hnn⟩ : ∃ n, Hid (rl p i = n) := ⟨_, rfl⟩
      rw [hnn.out] at h0 h10
      have HV : Hid (∀ g, (vs i).ownBlock = some g → g < w3.heap.size) := fun g hg => HG.out i g hlt hg
      clear DD D4 C4 C5 HQ hbc hcs hv z1 b4 b5
      go_wp2_with fail
      clear hmul
      go_loopw [33] (fun j wr => ∃ (m : Nat) (q : List (List Int)), m ≤ n ∧ j = .int .i64 m ∧ Hid (q.length = p.length) ∧ Hid (∀ a, rl q a = rl p a) ∧ Hid (PRows wr w2.heap.size q (some ⟨gr, 0, none⟩) gr vs) ∧ Dw w2 (w.heap.size + 2) code A cA wr c5 [(w3.heap.size, #[.slice (some ⟨gr, 0, none⟩) p.length cP], 42)]) (fun j _ => n - (intOf j).toNat)
      case atStart => exact ⟨0, q, Nat.zero_le _, rfl, HQL.out, HQR.out, HQ5.out, D5⟩
      case round =>
        clear D5 HQ5 HQL HQR h0 hgr z10 z2 z3
        obtain ⟨m, q, hm, rfl, HQL, HQR, HQ, DD⟩ := hrel
        obtain ⟨z1, z2, z3⟩ := DD.at_ (g := w3.heap.size) (cs := #[.slice (some ⟨gr, 0, none⟩) p.length cP]) (t := 42) (by simp)
        have z10 := z1 0
        by_cases hlm : m < n
        · obtain ⟨g, cap, y, hv, hlo, hgl, hfr, hy, hP'⟩ := HQ.out.stamp (i := i) (j := m) (by rw [HQL.out]; exact hlt) (by rw [HQR.out, hnn.out]; exact hlm)
          obtain ⟨_, cs, hbc, hcs⟩ := HQ.out.base (by rw [HQL.out]; omega)
          rw [HQR.out i, hnn.out] at hv
          have h0 : wr.cell? ⟨gr, i, none⟩ = some (.slice (some ⟨g, 0, none⟩) n cap) := by rw [box_cell hbc, hcs i (by rw [HQL.out]; exact hlt), hv]
          have hgr := box_lt hbc
          have hfrm := hfr m
          have hg3 : g < w3.heap.size := HV.out g (by rw [hv]; rfl)
          obtain ⟨yy, hyy⟩ : ∃ x, Hid (IntKind.i64.wrap (y + dd) = x) := ⟨_, rfl⟩
          have hadd : IntKind.i64.wrap (y + dd) = yy := hyy.out
          have HP' := Lib.hid (hP' yy)
          have DW := DD.wrote (g := g) ((Chg.of_ext (S := fun k => k = g) (Ext.refl wr)).setCell (g := g) (Or.inl rfl) m (.int .i64 yy)) hlo (one1 (by omega))
          have HQL2 : Hid ((q.set i ((q.getD i []).set m yy)).length = p.length) := by unfold Hid; rw [List.length_set]; exact HQL.out
          have HQR2 : Hid (∀ a, rl (q.set i ((q.getD i []).set m yy)) a = rl p a) := fun a => by rw [rl_set (by rw [HQL.out]; exact hlt)]; exact HQR.out a
          clear hbc hcs hv hP' hfr z1 HQ DD
          go_wp2_with fail
          exact ⟨⟨m + 1, _, by omega, by go_num, HQL2.out, HQR2.out, HP'.out, DW⟩, (by simp [intOf]; omega)⟩
        · clear z1
          go_wp2_with fail
          exact ⟨⟨i + 1, q, c5, by omega, by go_num, HQL.out, HQR.out, hcc5, HQ.out, DD⟩, (by simp [intOf]; omega)⟩
    · obtain ⟨z1, z2, z3⟩ := DD.at_ (g := w3.heap.size) (cs := #[.slice AP p.length cP]) (t := 42) (by simp)
      have z10 := z1 0
      have hBR := DD.chg.box HBR.out (by show ¬ w.heap.size + 1 = w.heap.size + 2; omega)
      have x10 := box_cell hBR 0
      have x2 := box_lt hBR
      have x30 := box_frozen hBR 0
      have hne : w.heap.size + 1 ≠ w3.heap.size := by omega
      have hX3 : Ext w wr := Below.trans hX (DD.chg.below (fun g e => by omega) hX.size)
      have hql := HQL.out
      obtain ⟨pl, hpl⟩ : ∃ x, Hid (p.length = x) := ⟨_, rfl⟩
      rw [hpl.out] at hql z10 hp5
      clear z1 z3 hBR
      go_wp2_with fail
      refine bodyPost_ret (v := .agg #[.slice AP pl cP]) (by simp [results, Try.results68, go_sem, x10, x2, x30]) rfl ⟨q, AP, cP, gr, vs, by rw [hql], (HQ.out.set_far (by omega) _ _).mono (by omega), by omega, fun a => by rw [HQR.out a]; exact HRL.out a, hX3.setCell (by simp only []; omega) _⟩
end Go.Proofs.Ythhkbfjolmgloaa
