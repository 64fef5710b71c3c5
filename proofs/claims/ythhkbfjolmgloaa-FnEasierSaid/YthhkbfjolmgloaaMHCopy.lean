/- spec.l2P.copy makes a placer of its own that has placed the same. Condition: it has the line's trains, ten legs at most each. -/
import Derived.Test.YthhkbfjolmgloaaML13a
import Derived.Test.YthhkbfjolmgloaaMHPlaceX
import Derived.BigQuiet
import Derived.Deep.QuietTactic
import Derived.StillTailTactics
import Derived.Deep.DeepCutAuto
import Derived.Deep.RegionHeld3
namespace Go.Proofs.Ythhkbfjolmgloaa
open Go.RowKit Go.Deep
set_option linter.unusedVariables false
set_option linter.unusedSimpArgs false
def StepC (g1 : Nat) (v : Value) (W : World) : Prop := W.cell? ⟨g1, 3, none⟩ = some v ∧ g1 < W.heap.size ∧ W.frozen? ⟨g1, 3, none⟩ = false
theorem stepC_kept {g1 : Nat} {v : Value} {W W' : World} {row : Option Nat} (h : StepC g1 v W) (k : W.grownBy W' row) (hne : ¬ row = some g1) : StepC g1 v W' :=
  ⟨(World.cell?_of_block (a := ⟨g1, 3, none⟩) (k.block g1 h.2.1 (fun e => hne e.symm))).trans h.1, Nat.lt_of_lt_of_le h.2.1 k.size, (World.frozen?_of_block (a := ⟨g1, 3, none⟩) (k.block g1 h.2.1 (fun e => hne e.symm))).trans h.2.2⟩
theorem stepC_alloc {g1 : Nat} {v : Value} {W : World} (h : StepC g1 v W) (o : Obj) : StepC g1 v (W.alloc o) := by
  have e := (Ext.refl W).alloc o
  have hb := e.block g1 h.2.1
  exact ⟨(World.cell?_of_block (a := ⟨g1, 3, none⟩) hb).trans h.1, Nat.lt_of_lt_of_le h.2.1 e.size, (World.frozen?_of_block (a := ⟨g1, 3, none⟩) hb).trans h.2.2⟩
theorem stepC_set {g1 : Nat} {v : Value} {W : World} {a b c d : Value} {T : TypeId} (h : W.heap[g1]? = some (.cells #[a, b, c, v, d] T (0, 0))) : StepC g1 v W := ⟨box_cell h 3, box_lt h, box_frozen h 3⟩
def StepD (g1 : Nat) (W : World) : Prop := g1 < W.heap.size ∧ W.frozen? ⟨g1, 3, none⟩ = false
theorem stepD_set {g1 : Nat} {W : World} {u : Value} (h : StepD g1 W) : StepD g1 (W.setCell ⟨g1, 3, none⟩ u) := ⟨by simpa [World.setCell] using h.1, by simpa using h.2⟩
theorem one_sl (g n c : Nat) : ∀ u ∈ (#[Value.slice (some ⟨g, 0, none⟩) n c] : Array Value).toList, u.oneCell' = true := by
  intro u hu
  simp at hu
  subst hu; rfl
set_option maxRecDepth 100000 in
set_option maxHeartbeats 8000000 in
theorem copy_any {w : World} {B : Nat} {l : Line} {p : List (List Int)} {last : Int} {gp : Nat} {A0 : Option Addr} {c0 : Nat} {A2 : Option Addr} {c2 : Nat} {AR : Option Addr} {cR gr : Nat} {vs : Nat → Value} (P : Plc w B 138 l p last gp A0 c0 A2 c2 AR cR gr vs) (n5 : l.trains.length ≤ 5) (h10 : ∀ i, i < l.trains.length → rl p i ≤ 10) :
    Calls Try.prog 129 #[.pointer (some ⟨gp, 0, none⟩)] w fun e w' => ∃ gp' AR' cR' gr' vs', e = .returned (.pointer (some ⟨gp', 0, none⟩)) ∧ Plc w' w.heap.size 138 l p last gp' A0 c0 A2 c2 AR' cR' gr' vs' ∧ Ext w w' := by
  have HP := Lib.hid P
  have hgp := P.rd.lt
  have p0 := P.rd.b0
  have p1 := P.rd.b1
  have p2 := P.rd.b2
  have p3 := P.rd.b3
  have p4 := P.rd.b4
  have H10 := Lib.hid h10
  clear P h10
  go_enter Try.func129, Try.ntmps129
  go_upto_region 1 with fail
  go_cut [3] (fun s wx => s = .pointer (some ⟨w.heap.size, 0, none⟩) ∧ wx.heap[w.heap.size]? = some (.cells #[.slice A0 l.tracks.length c0, .int .i64 l.gap, .slice A2 l.trains.length c2, .slice none 0 0, .int .i64 last] 138 (0, 0)) ∧ Ext w wx)
  case first =>
    go_region
    all_goals (
      go_wp2_with fail
      go_meet
      exact ⟨rfl, box_new w _, (by repeat (first | (with_reducible assumption) | (with_reducible exact Ext.refl _) | apply Ext.alloc | apply Ext.drewN | apply Ext.drew))⟩)
  case rest =>
    obtain ⟨rfl, hbx, hE⟩ := hcut
    obtain ⟨k1, k2⟩ := (Lp.of_ext hE).open0
    go_wp2_with fail
    clear k1 k2
    go_loopw [22] (fun j wr => ∃ (jj : Nat) (v : Value) (vs2 : Nat → Value), jj ≤ l.trains.length ∧ j = .int .i64 jj ∧ wr.heap[w.heap.size]? = some (.cells #[.slice A0 l.tracks.length c0, .int .i64 l.gap, .slice A2 l.trains.length c2, v, .int .i64 last] 138 (0, 0)) ∧ Hid (CpI wr (w.heap.size + 1) p jj v vs2) ∧ Ext w wr) (fun j _ => l.trains.length - (intOf j).toNat)
    case atStart => exact ⟨0, .slice none 0 0, fun _ => .slice none 0 0, Nat.zero_le _, rfl, hbx, CpI.start _ _ _ _, hE⟩
    case round =>
      clear hbx hE
      obtain ⟨jj, v, vs2, hjj, rfl, hbx, HC, hE⟩ := hrel
      obtain ⟨k1, k2⟩ := (Lp.of_ext hE).open0
      by_cases hlt : jj < l.trains.length
      · obtain ⟨hAR, csr, hcs, hcv⟩ := HP.out.base (by omega)
        subst hAR
        obtain ⟨_, Ai, ci, hvi, hRA⟩ := rd_of_ownsP (HP.out.own jj hlt)
        obtain ⟨row, hrow⟩ : ∃ row, Hid (p.getD jj [] = row) := ⟨_, rfl⟩
        obtain ⟨n, hnn⟩ : ∃ n, Hid (rl p jj = n) := ⟨_, rfl⟩
        have hrn : Hid (row.length = n) := by unfold Hid; rw [← hrow.out, ← hnn.out]; rfl
        have hvi' : vs jj = .slice Ai (rl p jj) ci := hvi
        rw [hnn.out] at hvi'
        rw [hrow.out] at hRA
        have r0 : w.cell? ⟨gr, jj, none⟩ = some (.slice Ai n ci) := by rw [box_cell hcs, hcv jj hlt, hvi']
        have hgrl := box_lt hcs
        have hrl := H10.out jj hlt
        rw [hnn.out] at hrl
        have hw0 := hE.size
        have hbl := box_lt hbx
        have HRA := Lib.hid (RdInt.ext (RdInt.ext hRA hE) (((Ext.refl wr).drew).alloc (.cells #[] 3)))
        have HC2 := Lib.hid (HC.out.ext (Ext.refl wr).drew)
        have hBs : w.heap.size + 1 ≤ wr.drew.heap.size := hbl
        have hEs : w.heap.size ≤ (wr.drew.alloc (.cells #[] 3)).heap.size := by rw [alloc_size]; omega
        have hvne : ∀ k, k = wr.drew.heap.size → v.ownBlock = none ∨ v.ownBlock ≠ some k := fun k hk => by
          cases hv : v.ownBlock with
          | none => exact Or.inl rfl
          | some q => exact Or.inr (fun e => by simp only [Option.some.injEq] at e; have := (HC2.out.own.lt q hv).2; omega)
        have hbxd : wr.drew.heap[w.heap.size]? = some (.cells #[.slice A0 l.tracks.length c0, .int .i64 l.gap, .slice A2 l.trains.length c2, v, .int .i64 last] 138 (0, 0)) := hbx
        have hb0 : StepC w.heap.size v wr.drew := ⟨box_cell hbxd 3, box_lt hbxd, box_frozen hbxd 3⟩
        have hb1 := stepC_alloc hb0 (.cells #[] 3)
        clear hvi hvi' hRA hcs hcv
        go_upto_region 5 with fail
        clear k1 k2 r0
        have cb0 : wr.cell? ⟨w.heap.size, 3, none⟩ = some v := hb0.1
        have cb1 : (wr.alloc (.cells #[] 3)).cell? ⟨w.heap.size, 3, none⟩ = some v := hb1.1
        have hfz : wr.frozen? ⟨w.heap.size, 3, none⟩ = false := hb0.2.2
        refine wp_region_held_drew (S := StepD w.heap.size) (by kernel_rfl) hb0.2 (fun _ => ?_)
        refine wpAnyH_take (i := 0) (oi := _) (v := ?_) rfl (by kernel_rfl) (by kernel_rfl) (by kernel_rfl) (fun _ _ _ h => h) (Or.inl ⟨by rfl, ?_⟩) (by assumption) ?_
        rotate_left 1
        · intro w hSw
          obtain ⟨hs1, hs2⟩ := hSw
          go_simp
          try with_reducible rfl
        try simp only [Act.put, List.setIfInBounds_toArray, List.set_cons_zero, List.set_cons_succ]
        refine wpAnyH_take (i := 1) (oi := _) (v := ?_) rfl (by kernel_rfl) (by kernel_rfl) (by kernel_rfl) (fun _ _ _ h => h) (Or.inl ⟨by rfl, ?_⟩) (by assumption) ?_
        rotate_left 1
        · intro w hSw
          obtain ⟨hs1, hs2⟩ := hSw
          go_simp
          try with_reducible rfl
        try simp only [Act.put, List.setIfInBounds_toArray, List.set_cons_zero, List.set_cons_succ]
        refine wpAnyH_take (i := 2) (oi := _) (v := ?_) rfl (by kernel_rfl) (by kernel_rfl) (by kernel_rfl) (fun _ _ _ h => h) (Or.inl ⟨by rfl, ?_⟩) (by assumption) ?_
        rotate_left 1
        · intro w hSw
          obtain ⟨hs1, hs2⟩ := hSw
          go_simp
          try with_reducible rfl
        try simp only [Act.put, List.setIfInBounds_toArray, List.set_cons_zero, List.set_cons_succ]
        refine wpAnyH_take (i := 3) (oi := _) (v := ?_) rfl (by kernel_rfl) (by kernel_rfl) (by kernel_rfl) (fun _ _ _ h => h) (Or.inl ⟨by rfl, ?_⟩) (by assumption) ?_
        rotate_left 1
        · intro w hSw
          obtain ⟨hs1, hs2⟩ := hSw
          go_simp
          try with_reducible rfl
        try simp only [Act.put, List.setIfInBounds_toArray, List.set_cons_zero, List.set_cons_succ]
        refine wpAnyH_take (i := 4) (oi := _) (v := ?_) rfl (by kernel_rfl) (by kernel_rfl) (by kernel_rfl) (fun _ _ _ h => h) (Or.inl ⟨by rfl, ?_⟩) (by assumption) ?_
        rotate_left 1
        · intro w hSw
          obtain ⟨hs1, hs2⟩ := hSw
          go_simp
          try with_reducible rfl
        try simp only [Act.put, List.setIfInBounds_toArray, List.set_cons_zero, List.set_cons_succ]
        refine wpAnyH_take (i := 7) (oi := _) (v := ?_) rfl (by kernel_rfl) (by kernel_rfl) (by kernel_rfl) (fun _ _ _ h => h) (Or.inl ⟨by rfl, ?_⟩) (by assumption) ?_
        rotate_left 1
        · intro w hSw
          obtain ⟨hs1, hs2⟩ := hSw
          go_simp
          try with_reducible rfl
        try simp only [Act.put, List.setIfInBounds_toArray, List.set_cons_zero, List.set_cons_succ]
        refine wpAnyH_ready (rs := [5, 6]) (by kernel_rfl) (by simp) ?_
        refine AllReadyH.cons rfl (fun K hK => ?_) ?_
        · go_simp
          refine hK.out _ _ hb0.2 (fun _ => ?_)
          clear hK K
          refine wpAnyH_ready (rs := [6]) (by kernel_rfl) (by simp) ?_
          refine AllReadyH.cons rfl (fun K hK => ?_) AllReadyH.nil
          go_simp
          refine hK.out _ _ hb1.2 (fun _ => ?_)
          clear hK K
          refine wpAnyH_ready (rs := [8]) (by kernel_rfl) (by simp) ?_
          refine AllReadyH.cons rfl (fun K hK => ?_) AllReadyH.nil
          refine copy_stepN rfl (.tmp 32) (.tmp 33) rfl wr.heap.size rfl (box_new _ _) Ai ci n row hrn.out rfl HRA.out (by omega) ?_
          intro g cap wb h2 hgb hgle hglt
          have hgb1 : (wr.drew.alloc (.cells #[] 3)).grownBy wb (some wr.drew.heap.size) := hgb
          have hb2 := stepC_kept hb1 hgb1 (fun e => by simp only [Option.some.injEq] at e; have : wr.drew.heap.size = wr.heap.size := rfl; omega)
          have cb2 := hb2.1
          refine hK.out _ _ hb2.2 (fun _ => ?_)
          clear hK K
          refine wpAnyH_ready (rs := [9]) (by kernel_rfl) (by simp) ?_
          refine AllReadyH.cons rfl (fun K hK => ?_) AllReadyH.nil
          go_simp
          have hb3 := stepC_alloc hb2 (.cells #[.slice (some ⟨g, 0, none⟩) n cap] 23)
          have cb3 := hb3.1
          have hO3 := Lib.hid ((World.ownsRow.kept (HC2.out.own.alloc (.cells #[] 3)) hgb1 (hvne _ rfl)).alloc (.cells #[.slice (some ⟨g, 0, none⟩) n cap] 23))
          refine hK.out _ _ hb3.2 (fun _ => ?_)
          clear hK K
          refine wpAnyH_ready (rs := [10]) (by kernel_rfl) (by simp) ?_
          refine AllReadyH.cons rfl (fun K hK => ?_) AllReadyH.nil
          refine app_step rfl (.tmp 31) (.tmp 35) 40 rfl (w.heap.size + 1) 23 1 24 _ Try.underlying40 info23 rfl (by decide) v jj ((List.range jj).map vs2) rfl hO3.out (by rw [alloc_size]; have := hgb1.size; rw [alloc_size] at this; have : wr.drew.heap.size = wr.heap.size := rfl; omega) _ _ #[.slice (some ⟨g, 0, none⟩) n cap] _ rfl (box_new _ _) rfl (one_sl _ _ _) (by omega) (by decide) _ rfl ?_
          intro g2 cap2 wd hown hgd hg2 hlt2
          have HST := Lib.hid (cp_stepN hnn.out hrow.out HC2.out hBs h2 hgb1 hgle hgd hown hg2)
          have hX : Hid (Ext w wb) := (((hE.drew.alloc (.cells #[] 3)).grown hgb1 hEs (fun k hk => by simp only [Option.some.injEq] at hk; subst hk; exact hE.size)))
          have hX2 : Hid (Ext w wd) := ((hX.out.alloc (.cells #[.slice (some ⟨g, 0, none⟩) n cap] 23)).grown hgd (by rw [alloc_size]; have := hX.out.size; omega) (fun k hk => by have := (HC2.out.own.lt k hk).1; omega))
          have hbx2 := Lib.hid ((hgd.block w.heap.size (by rw [alloc_size]; have := hX.out.size; have := hgb1.size; rw [alloc_size] at this; have : wr.drew.heap.size = wr.heap.size := rfl; omega) (fun e => by have := (HC2.out.own.lt _ e.symm).1; omega)).trans (box_old ((hgb1.block w.heap.size (by rw [alloc_size]; have : wr.drew.heap.size = wr.heap.size := rfl; omega) (fun e => by simp only [Option.some.injEq] at e; have : wr.drew.heap.size = wr.heap.size := rfl; omega)).trans (box_old hbxd _)) _))
          have hb4 := stepC_set hbx2.out
          have cd1 := hb4.1
          have cd2 := hb4.2.1
          have cd3 := hb4.2.2
          have hb5 := stepD_set (u := .slice (some ⟨g2, 0, none⟩) (jj + 1) cap2) hb4.2
          clear h2 hgb hgb1 hown hgd hg2
          refine hK.out _ _ hb4.2 (fun _ => ?_)
          clear hK K
          refine wpAnyH_take (i := 11) (oi := _) (v := ?_) rfl (by kernel_rfl) (by kernel_rfl) (by kernel_rfl) (fun _ _ _ h => h) (Or.inl ⟨by rfl, ?_⟩) (by assumption) ?_
          rotate_left 1
          · intro w hSw
            obtain ⟨hs1, hs2⟩ := hSw
            go_simp
            try with_reducible rfl
          try simp only [Act.put, List.setIfInBounds_toArray, List.set_cons_zero, List.set_cons_succ]
          refine wpAnyH_take (i := 12) (oi := _) (v := ?_) rfl (by kernel_rfl) (by kernel_rfl) (by kernel_rfl) (fun _ _ _ h => h) (Or.inl ⟨by rfl, ?_⟩) (by assumption) ?_
          rotate_left 1
          · intro w hSw
            obtain ⟨hs1, hs2⟩ := hSw
            go_simp
            try with_reducible rfl
          try simp only [Act.put, List.setIfInBounds_toArray, List.set_cons_zero, List.set_cons_succ]
          refine wpAnyH_take (i := 13) (oi := _) (v := ?_) rfl (by kernel_rfl) (by kernel_rfl) (by kernel_rfl) (fun _ _ _ h => h) (Or.inl ⟨by rfl, ?_⟩) (by assumption) ?_
          rotate_left 1
          · intro w hSw
            obtain ⟨hs1, hs2⟩ := hSw
            go_simp
            try with_reducible rfl
          try simp only [Act.put, List.setIfInBounds_toArray, List.set_cons_zero, List.set_cons_succ]
          refine wpAnyH_ready (rs := [14]) (by kernel_rfl) (by simp) ?_
          refine AllReadyH.cons rfl (fun K hK => ?_) AllReadyH.nil
          go_simp
          refine hK.out _ _ hb5 (fun _ => ?_)
          clear hK K
          refine wpAnyH_done (by kernel_rfl) ?_ _
          go_wp2_with fail
          exact ⟨⟨jj + 1, _, _, by omega, by go_num, by rw [box_set hbx2.out]; rfl, HST.out.set_far (by omega) _ _, hX2.out.setCell (by simp only []; omega) _⟩, (by simp [intOf]; omega)⟩
        refine AllReadyH.cons rfl (fun K hK => ?_) AllReadyH.nil
        go_simp
        refine hK.out _ _ hb1.2 (fun _ => ?_)
        clear hK K
        refine wpAnyH_ready (rs := [5, 8]) (by kernel_rfl) (by simp) ?_
        refine AllReadyH.cons rfl (fun K hK => ?_) ?_
        · go_simp
          refine hK.out _ _ hb1.2 (fun _ => ?_)
          clear hK K
          refine wpAnyH_ready (rs := [8]) (by kernel_rfl) (by simp) ?_
          refine AllReadyH.cons rfl (fun K hK => ?_) AllReadyH.nil
          refine copy_stepN rfl (.tmp 32) (.tmp 33) rfl wr.heap.size rfl (box_new _ _) Ai ci n row hrn.out rfl HRA.out (by omega) ?_
          intro g cap wb h2 hgb hgle hglt
          have hgb1 : (wr.drew.alloc (.cells #[] 3)).grownBy wb (some wr.drew.heap.size) := hgb
          have hb2 := stepC_kept hb1 hgb1 (fun e => by simp only [Option.some.injEq] at e; have : wr.drew.heap.size = wr.heap.size := rfl; omega)
          have cb2 := hb2.1
          refine hK.out _ _ hb2.2 (fun _ => ?_)
          clear hK K
          refine wpAnyH_ready (rs := [9]) (by kernel_rfl) (by simp) ?_
          refine AllReadyH.cons rfl (fun K hK => ?_) AllReadyH.nil
          go_simp
          have hb3 := stepC_alloc hb2 (.cells #[.slice (some ⟨g, 0, none⟩) n cap] 23)
          have cb3 := hb3.1
          have hO3 := Lib.hid ((World.ownsRow.kept (HC2.out.own.alloc (.cells #[] 3)) hgb1 (hvne _ rfl)).alloc (.cells #[.slice (some ⟨g, 0, none⟩) n cap] 23))
          refine hK.out _ _ hb3.2 (fun _ => ?_)
          clear hK K
          refine wpAnyH_ready (rs := [10]) (by kernel_rfl) (by simp) ?_
          refine AllReadyH.cons rfl (fun K hK => ?_) AllReadyH.nil
          refine app_step rfl (.tmp 31) (.tmp 35) 40 rfl (w.heap.size + 1) 23 1 24 _ Try.underlying40 info23 rfl (by decide) v jj ((List.range jj).map vs2) rfl hO3.out (by rw [alloc_size]; have := hgb1.size; rw [alloc_size] at this; have : wr.drew.heap.size = wr.heap.size := rfl; omega) _ _ #[.slice (some ⟨g, 0, none⟩) n cap] _ rfl (box_new _ _) rfl (one_sl _ _ _) (by omega) (by decide) _ rfl ?_
          intro g2 cap2 wd hown hgd hg2 hlt2
          have HST := Lib.hid (cp_stepN hnn.out hrow.out HC2.out hBs h2 hgb1 hgle hgd hown hg2)
          have hX : Hid (Ext w wb) := (((hE.drew.alloc (.cells #[] 3)).grown hgb1 hEs (fun k hk => by simp only [Option.some.injEq] at hk; subst hk; exact hE.size)))
          have hX2 : Hid (Ext w wd) := ((hX.out.alloc (.cells #[.slice (some ⟨g, 0, none⟩) n cap] 23)).grown hgd (by rw [alloc_size]; have := hX.out.size; omega) (fun k hk => by have := (HC2.out.own.lt k hk).1; omega))
          have hbx2 := Lib.hid ((hgd.block w.heap.size (by rw [alloc_size]; have := hX.out.size; have := hgb1.size; rw [alloc_size] at this; have : wr.drew.heap.size = wr.heap.size := rfl; omega) (fun e => by have := (HC2.out.own.lt _ e.symm).1; omega)).trans (box_old ((hgb1.block w.heap.size (by rw [alloc_size]; have : wr.drew.heap.size = wr.heap.size := rfl; omega) (fun e => by simp only [Option.some.injEq] at e; have : wr.drew.heap.size = wr.heap.size := rfl; omega)).trans (box_old hbxd _)) _))
          have hb4 := stepC_set hbx2.out
          have cd1 := hb4.1
          have cd2 := hb4.2.1
          have cd3 := hb4.2.2
          have hb5 := stepD_set (u := .slice (some ⟨g2, 0, none⟩) (jj + 1) cap2) hb4.2
          clear h2 hgb hgb1 hown hgd hg2
          refine hK.out _ _ hb4.2 (fun _ => ?_)
          clear hK K
          refine wpAnyH_take (i := 11) (oi := _) (v := ?_) rfl (by kernel_rfl) (by kernel_rfl) (by kernel_rfl) (fun _ _ _ h => h) (Or.inl ⟨by rfl, ?_⟩) (by assumption) ?_
          rotate_left 1
          · intro w hSw
            obtain ⟨hs1, hs2⟩ := hSw
            go_simp
            try with_reducible rfl
          try simp only [Act.put, List.setIfInBounds_toArray, List.set_cons_zero, List.set_cons_succ]
          refine wpAnyH_take (i := 12) (oi := _) (v := ?_) rfl (by kernel_rfl) (by kernel_rfl) (by kernel_rfl) (fun _ _ _ h => h) (Or.inl ⟨by rfl, ?_⟩) (by assumption) ?_
          rotate_left 1
          · intro w hSw
            obtain ⟨hs1, hs2⟩ := hSw
            go_simp
            try with_reducible rfl
          try simp only [Act.put, List.setIfInBounds_toArray, List.set_cons_zero, List.set_cons_succ]
          refine wpAnyH_take (i := 13) (oi := _) (v := ?_) rfl (by kernel_rfl) (by kernel_rfl) (by kernel_rfl) (fun _ _ _ h => h) (Or.inl ⟨by rfl, ?_⟩) (by assumption) ?_
          rotate_left 1
          · intro w hSw
            obtain ⟨hs1, hs2⟩ := hSw
            go_simp
            try with_reducible rfl
          try simp only [Act.put, List.setIfInBounds_toArray, List.set_cons_zero, List.set_cons_succ]
          refine wpAnyH_ready (rs := [14]) (by kernel_rfl) (by simp) ?_
          refine AllReadyH.cons rfl (fun K hK => ?_) AllReadyH.nil
          go_simp
          refine hK.out _ _ hb5 (fun _ => ?_)
          clear hK K
          refine wpAnyH_done (by kernel_rfl) ?_ _
          go_wp2_with fail
          exact ⟨⟨jj + 1, _, _, by omega, by go_num, by rw [box_set hbx2.out]; rfl, HST.out.set_far (by omega) _ _, hX2.out.setCell (by simp only []; omega) _⟩, (by simp [intOf]; omega)⟩
        refine AllReadyH.cons rfl (fun K hK => ?_) AllReadyH.nil
        refine copy_stepN rfl (.tmp 32) (.tmp 33) rfl wr.heap.size rfl (box_new _ _) Ai ci n row hrn.out rfl HRA.out (by omega) ?_
        intro g cap wb h2 hgb hgle hglt
        have hgb1 : (wr.drew.alloc (.cells #[] 3)).grownBy wb (some wr.drew.heap.size) := hgb
        have hb2 := stepC_kept hb1 hgb1 (fun e => by simp only [Option.some.injEq] at e; have : wr.drew.heap.size = wr.heap.size := rfl; omega)
        have cb2 := hb2.1
        refine hK.out _ _ hb2.2 (fun _ => ?_)
        clear hK K
        refine wpAnyH_ready (rs := [5, 9]) (by kernel_rfl) (by simp) ?_
        refine AllReadyH.cons rfl (fun K hK => ?_) ?_
        · go_simp
          refine hK.out _ _ hb2.2 (fun _ => ?_)
          clear hK K
          refine wpAnyH_ready (rs := [9]) (by kernel_rfl) (by simp) ?_
          refine AllReadyH.cons rfl (fun K hK => ?_) AllReadyH.nil
          go_simp
          have hb3 := stepC_alloc hb2 (.cells #[.slice (some ⟨g, 0, none⟩) n cap] 23)
          have cb3 := hb3.1
          have hO3 := Lib.hid ((World.ownsRow.kept (HC2.out.own.alloc (.cells #[] 3)) hgb1 (hvne _ rfl)).alloc (.cells #[.slice (some ⟨g, 0, none⟩) n cap] 23))
          refine hK.out _ _ hb3.2 (fun _ => ?_)
          clear hK K
          refine wpAnyH_ready (rs := [10]) (by kernel_rfl) (by simp) ?_
          refine AllReadyH.cons rfl (fun K hK => ?_) AllReadyH.nil
          refine app_step rfl (.tmp 31) (.tmp 35) 40 rfl (w.heap.size + 1) 23 1 24 _ Try.underlying40 info23 rfl (by decide) v jj ((List.range jj).map vs2) rfl hO3.out (by rw [alloc_size]; have := hgb1.size; rw [alloc_size] at this; have : wr.drew.heap.size = wr.heap.size := rfl; omega) _ _ #[.slice (some ⟨g, 0, none⟩) n cap] _ rfl (box_new _ _) rfl (one_sl _ _ _) (by omega) (by decide) _ rfl ?_
          intro g2 cap2 wd hown hgd hg2 hlt2
          have HST := Lib.hid (cp_stepN hnn.out hrow.out HC2.out hBs h2 hgb1 hgle hgd hown hg2)
          have hX : Hid (Ext w wb) := (((hE.drew.alloc (.cells #[] 3)).grown hgb1 hEs (fun k hk => by simp only [Option.some.injEq] at hk; subst hk; exact hE.size)))
          have hX2 : Hid (Ext w wd) := ((hX.out.alloc (.cells #[.slice (some ⟨g, 0, none⟩) n cap] 23)).grown hgd (by rw [alloc_size]; have := hX.out.size; omega) (fun k hk => by have := (HC2.out.own.lt k hk).1; omega))
          have hbx2 := Lib.hid ((hgd.block w.heap.size (by rw [alloc_size]; have := hX.out.size; have := hgb1.size; rw [alloc_size] at this; have : wr.drew.heap.size = wr.heap.size := rfl; omega) (fun e => by have := (HC2.out.own.lt _ e.symm).1; omega)).trans (box_old ((hgb1.block w.heap.size (by rw [alloc_size]; have : wr.drew.heap.size = wr.heap.size := rfl; omega) (fun e => by simp only [Option.some.injEq] at e; have : wr.drew.heap.size = wr.heap.size := rfl; omega)).trans (box_old hbxd _)) _))
          have hb4 := stepC_set hbx2.out
          have cd1 := hb4.1
          have cd2 := hb4.2.1
          have cd3 := hb4.2.2
          have hb5 := stepD_set (u := .slice (some ⟨g2, 0, none⟩) (jj + 1) cap2) hb4.2
          clear h2 hgb hgb1 hown hgd hg2
          refine hK.out _ _ hb4.2 (fun _ => ?_)
          clear hK K
          refine wpAnyH_take (i := 11) (oi := _) (v := ?_) rfl (by kernel_rfl) (by kernel_rfl) (by kernel_rfl) (fun _ _ _ h => h) (Or.inl ⟨by rfl, ?_⟩) (by assumption) ?_
          rotate_left 1
          · intro w hSw
            obtain ⟨hs1, hs2⟩ := hSw
            go_simp
            try with_reducible rfl
          try simp only [Act.put, List.setIfInBounds_toArray, List.set_cons_zero, List.set_cons_succ]
          refine wpAnyH_take (i := 12) (oi := _) (v := ?_) rfl (by kernel_rfl) (by kernel_rfl) (by kernel_rfl) (fun _ _ _ h => h) (Or.inl ⟨by rfl, ?_⟩) (by assumption) ?_
          rotate_left 1
          · intro w hSw
            obtain ⟨hs1, hs2⟩ := hSw
            go_simp
            try with_reducible rfl
          try simp only [Act.put, List.setIfInBounds_toArray, List.set_cons_zero, List.set_cons_succ]
          refine wpAnyH_take (i := 13) (oi := _) (v := ?_) rfl (by kernel_rfl) (by kernel_rfl) (by kernel_rfl) (fun _ _ _ h => h) (Or.inl ⟨by rfl, ?_⟩) (by assumption) ?_
          rotate_left 1
          · intro w hSw
            obtain ⟨hs1, hs2⟩ := hSw
            go_simp
            try with_reducible rfl
          try simp only [Act.put, List.setIfInBounds_toArray, List.set_cons_zero, List.set_cons_succ]
          refine wpAnyH_ready (rs := [14]) (by kernel_rfl) (by simp) ?_
          refine AllReadyH.cons rfl (fun K hK => ?_) AllReadyH.nil
          go_simp
          refine hK.out _ _ hb5 (fun _ => ?_)
          clear hK K
          refine wpAnyH_done (by kernel_rfl) ?_ _
          go_wp2_with fail
          exact ⟨⟨jj + 1, _, _, by omega, by go_num, by rw [box_set hbx2.out]; rfl, HST.out.set_far (by omega) _ _, hX2.out.setCell (by simp only []; omega) _⟩, (by simp [intOf]; omega)⟩
        refine AllReadyH.cons rfl (fun K hK => ?_) AllReadyH.nil
        go_simp
        have hb3 := stepC_alloc hb2 (.cells #[.slice (some ⟨g, 0, none⟩) n cap] 23)
        have cb3 := hb3.1
        have hO3 := Lib.hid ((World.ownsRow.kept (HC2.out.own.alloc (.cells #[] 3)) hgb1 (hvne _ rfl)).alloc (.cells #[.slice (some ⟨g, 0, none⟩) n cap] 23))
        refine hK.out _ _ hb3.2 (fun _ => ?_)
        clear hK K
        refine wpAnyH_ready (rs := [5]) (by kernel_rfl) (by simp) ?_
        refine AllReadyH.cons rfl (fun K hK => ?_) AllReadyH.nil
        go_simp
        refine hK.out _ _ hb3.2 (fun _ => ?_)
        clear hK K
        refine wpAnyH_ready (rs := [10]) (by kernel_rfl) (by simp) ?_
        refine AllReadyH.cons rfl (fun K hK => ?_) AllReadyH.nil
        refine app_step rfl (.tmp 31) (.tmp 35) 40 rfl (w.heap.size + 1) 23 1 24 _ Try.underlying40 info23 rfl (by decide) v jj ((List.range jj).map vs2) rfl hO3.out (by rw [alloc_size]; have := hgb1.size; rw [alloc_size] at this; have : wr.drew.heap.size = wr.heap.size := rfl; omega) _ _ #[.slice (some ⟨g, 0, none⟩) n cap] _ rfl (box_new _ _) rfl (one_sl _ _ _) (by omega) (by decide) _ rfl ?_
        intro g2 cap2 wd hown hgd hg2 hlt2
        have HST := Lib.hid (cp_stepN hnn.out hrow.out HC2.out hBs h2 hgb1 hgle hgd hown hg2)
        have hX : Hid (Ext w wb) := (((hE.drew.alloc (.cells #[] 3)).grown hgb1 hEs (fun k hk => by simp only [Option.some.injEq] at hk; subst hk; exact hE.size)))
        have hX2 : Hid (Ext w wd) := ((hX.out.alloc (.cells #[.slice (some ⟨g, 0, none⟩) n cap] 23)).grown hgd (by rw [alloc_size]; have := hX.out.size; omega) (fun k hk => by have := (HC2.out.own.lt k hk).1; omega))
        have hbx2 := Lib.hid ((hgd.block w.heap.size (by rw [alloc_size]; have := hX.out.size; have := hgb1.size; rw [alloc_size] at this; have : wr.drew.heap.size = wr.heap.size := rfl; omega) (fun e => by have := (HC2.out.own.lt _ e.symm).1; omega)).trans (box_old ((hgb1.block w.heap.size (by rw [alloc_size]; have : wr.drew.heap.size = wr.heap.size := rfl; omega) (fun e => by simp only [Option.some.injEq] at e; have : wr.drew.heap.size = wr.heap.size := rfl; omega)).trans (box_old hbxd _)) _))
        have hb4 := stepC_set hbx2.out
        have cd1 := hb4.1
        have cd2 := hb4.2.1
        have cd3 := hb4.2.2
        have hb5 := stepD_set (u := .slice (some ⟨g2, 0, none⟩) (jj + 1) cap2) hb4.2
        clear h2 hgb hgb1 hown hgd hg2
        refine hK.out _ _ hb4.2 (fun _ => ?_)
        clear hK K
        refine wpAnyH_take (i := 11) (oi := _) (v := ?_) rfl (by kernel_rfl) (by kernel_rfl) (by kernel_rfl) (fun _ _ _ h => h) (Or.inl ⟨by rfl, ?_⟩) (by assumption) ?_
        rotate_left 1
        · intro w hSw
          obtain ⟨hs1, hs2⟩ := hSw
          go_simp
          try with_reducible rfl
        try simp only [Act.put, List.setIfInBounds_toArray, List.set_cons_zero, List.set_cons_succ]
        refine wpAnyH_take (i := 12) (oi := _) (v := ?_) rfl (by kernel_rfl) (by kernel_rfl) (by kernel_rfl) (fun _ _ _ h => h) (Or.inl ⟨by rfl, ?_⟩) (by assumption) ?_
        rotate_left 1
        · intro w hSw
          obtain ⟨hs1, hs2⟩ := hSw
          go_simp
          try with_reducible rfl
        try simp only [Act.put, List.setIfInBounds_toArray, List.set_cons_zero, List.set_cons_succ]
        refine wpAnyH_take (i := 13) (oi := _) (v := ?_) rfl (by kernel_rfl) (by kernel_rfl) (by kernel_rfl) (fun _ _ _ h => h) (Or.inl ⟨by rfl, ?_⟩) (by assumption) ?_
        rotate_left 1
        · intro w hSw
          obtain ⟨hs1, hs2⟩ := hSw
          go_simp
          try with_reducible rfl
        try simp only [Act.put, List.setIfInBounds_toArray, List.set_cons_zero, List.set_cons_succ]
        refine wpAnyH_ready (rs := [14]) (by kernel_rfl) (by simp) ?_
        refine AllReadyH.cons rfl (fun K hK => ?_) AllReadyH.nil
        go_simp
        refine hK.out _ _ hb5 (fun _ => ?_)
        clear hK K
        refine wpAnyH_done (by kernel_rfl) ?_ _
        go_wp2_with fail
        exact ⟨⟨jj + 1, _, _, by omega, by go_num, by rw [box_set hbx2.out]; rfl, HST.out.set_far (by omega) _ _, hX2.out.setCell (by simp only []; omega) _⟩, (by simp [intOf]; omega)⟩
      · obtain rfl : jj = l.trains.length := by omega
        obtain ⟨AR', cR', gr', rfl, hP⟩ := plc_copy HP.out hE hbx HC.out
        go_wp2_with fail
        go_ret
        exact ⟨_, AR', cR', gr', vs2, rfl, hP, hE⟩
end Go.Proofs.Ythhkbfjolmgloaa
