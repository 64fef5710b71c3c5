/- spec.l5Cur.line draws the plain line of a code, in memory of its own. Condition: three to ten legs at most, few choices read before. -/
import Derived.Test.YthhkbfjolmgloaaM2L16a
import Derived.Test.YthhkbfjolmgloaaML0a
import Derived.Test.YthhkbfjolmgloaaMHCopy
import Derived.BigQuiet
import Derived.Deep.QuietTactic
import Derived.StillTailTactics
import Derived.Deep.DeepCutAuto
import Derived.Deep.RegionHeld3
namespace Go.Proofs.Ythhkbfjolmgloaa
open Go.RowKit Go.Deep
set_option linter.unusedVariables false
set_option linter.unusedSimpArgs false
/-- A line in memory of one's own. -/
def OwnL (B : Nat) (w : World) (v : Value) (l : Line) : Prop := ∃ v0 v2 vl, v = .agg #[v0, .int .i64 l.gap, v2] ∧ w.ownsRow B 3 1 v0 l.tracks.length (nums l.tracks) ∧ TrI w B l.trains v2 vl
theorem OwnL.rd {B : Nat} {w : World} {v : Value} {l : Line} (h : OwnL B w v l) : IsLine w l v := by
  obtain ⟨v0, v2, vl, rfl, h1, h2⟩ := h
  obtain ⟨_, A0, c0, rfl, r0⟩ := rd_of_ownsP h1
  obtain ⟨A2, c2, rfl, r2⟩ := h2.rd
  exact ⟨A0, c0, A2, c2, rfl, r0, r2⟩
def StepE (g5 : Nat) (W : World) : Prop := g5 < W.heap.size ∧ W.frozen? ⟨g5, 0, none⟩ = false
theorem stepE_dw {w wr : World} {gc g5 : Nat} {code : List Int} {A : Option Addr} {cA : Nat} {c : Cu} {cs : Array Value} {t : TypeId} {bs : List (Nat × Array Value × TypeId)} (D : Dw w gc code A cA wr c ((g5, cs, t) :: bs)) : StepE g5 wr := by
  have h := D.at_ (g := g5) (cs := cs) (t := t) (by simp)
  exact ⟨h.2.1, h.2.2 0⟩
theorem far2 {b1 b2 k : Nat} {c1 c2 : Array Value} {t1 t2 : TypeId} (h1 : b1 ≠ k) (h2 : b2 ≠ k) : ∀ x, x ∈ [(b1, c1, t1), (b2, c2, t2)] → x.1 ≠ k := by
  intro x hx
  simp only [List.mem_cons, List.not_mem_nil, or_false] at hx
  rcases hx with rfl | rfl
  · exact h1
  · exact h2
theorem one1 {b1 k : Nat} {c1 : Array Value} {t1 : TypeId} (h1 : b1 ≠ k) : ∀ x, x ∈ [(b1, c1, t1)] → x.1 ≠ k := by
  intro x hx
  simp only [List.mem_cons, List.not_mem_nil, or_false] at hx
  subst hx
  exact h1
theorem three_int (x y z : Int) : ∀ u ∈ (#[Value.int .i64 x, .int .i64 y, .int .i64 z] : Array Value).toList, u.oneCell' = true := by
  intro u hu
  simp at hu
  rcases hu with rfl | rfl | rfl <;> rfl
theorem far3' {b1 b2 b3 k : Nat} {c1 c2 c3 : Array Value} {t1 t2 t3 : TypeId} (h1 : b1 ≠ k) (h2 : b2 ≠ k) (h3 : b3 ≠ k) : ∀ x, x ∈ [(b1, c1, t1), (b2, c2, t2), (b3, c3, t3)] → x.1 ≠ k := by
  intro x hx
  simp only [List.mem_cons, List.not_mem_nil, or_false] at hx
  rcases hx with rfl | rfl | rfl
  · exact h1
  · exact h2
  · exact h3
theorem legs_snoc {w : World} {B : Nat} {v : Value} {xs : List Leg} {a b c : Int} (h : w.ownsRow B 84 3 v (xs.length + 1) (legCells xs ++ (#[Value.int .i64 a, .int .i64 b, .int .i64 c] : Array Value).toList)) : w.ownsRow B 84 3 v (xs ++ [(⟨a, b, c⟩ : Leg)]).length (legCells (xs ++ [(⟨a, b, c⟩ : Leg)])) := by
  rw [legCells_append, List.length_append]
  exact h
theorem tr_one (x y z u : Int) (A : Option Addr) (n c : Nat) : ∀ v ∈ (#[Value.int .i64 x, .int .i64 y, .int .i64 z, .int .i64 u, .slice A n c] : Array Value).toList, v.oneCell' = true := by
  intro v hv
  simp at hv
  rcases hv with rfl | rfl | rfl | rfl | rfl <;> rfl
theorem trainsC_go {code : List Int} {n : Int} {f left : Nat} {ts : List Train} {c : Cu} (h : ¬ left = 0) : trainsC code n (f + 1) ts left c = trainsC code n f (ts ++ [(trainC code n left c).1]) (trainC code n left c).2.1 (trainC code n left c).2.2 := by
  simp only [trainsC]
  rw [if_neg h]
theorem row_snoc {w : World} {B : Nat} {v : Value} {acc : List Int} {t : Int} (h : w.ownsRow B 3 1 v (acc.length + 1) (nums acc ++ (#[Value.int .i64 t] : Array Value).toList)) : w.ownsRow B 3 1 v (acc ++ [t]).length (nums (acc ++ [t])) := by
  have e : nums (acc ++ [t]) = nums acc ++ (#[Value.int .i64 t] : Array Value).toList := by simp [nums]
  rw [e, List.length_append]
  exact h
set_option maxRecDepth 100000 in
set_option maxHeartbeats 8000000 in
theorem line_any {w : World} {gc : Nat} {code : List Int} {A : Option Addr} {cA : Nat} {c : Cu} (D : CurIs w gc code A cA c) (PK : PickC w gc code A cA) (By : Bytes code) {most : Int} (hm0 : 3 ≤ most) (hm1 : most ≤ 10) (hp : c.pos ≤ 1000) :
    Calls Try.prog 82 #[.pointer (some ⟨gc, 0, none⟩), .int .i64 most] w fun e w' => ∃ v, e = .returned v ∧ OwnL w.heap.size w' v (lineC code most c) ∧ Chg (fun g => g = gc) w w' := by
  have HPK := Lib.hid PK
  have HBy := Lib.hid By
  have D0 := (Dw.start D).newAt (g := w.heap.size) #[.slice none 0 0, .int .i64 0, .slice none 0 0] 33 rfl
  clear PK By D
  go_enter Try.func82, Try.ntmps82
  go_wp2_with fail
  refine (HPK.out _ _ _ 5 D0 (by omega) (by omega)).mono ?_
  rintro e w1 ⟨rfl, D1, C1⟩
  obtain ⟨c1, hc1⟩ : ∃ c1, Hid ((pickC code 5 c).2 = c1) := ⟨_, rfl⟩
  obtain ⟨gap, hgap⟩ : ∃ gap, Hid ((pickC code 5 c).1 = gap) := ⟨_, rfl⟩
  rw [hc1.out] at D1
  rw [hgap.out]
  have hb1 := pickC_bd HBy.out 5 c
  rw [hc1.out, hgap.out] at hb1
  have D1 := D1.newAt (g := w1.heap.size) #[.slice none 0 0, .int .i64 gap, .slice none 0 0] 33 rfl
  have hsz1 := C1.size
  rw [alloc_size] at hsz1
  clear D0 C1
  go_wp2_with fail
  refine (HPK.out _ _ _ 4 D1 (by omega) (by omega)).mono ?_
  rintro e w2 ⟨rfl, D2, C2⟩
  obtain ⟨c2, hc2⟩ : ∃ c2, Hid ((pickC code 4 c1).2 = c2) := ⟨_, rfl⟩
  have hb2 := pickC_bd HBy.out 4 c1
  obtain ⟨k0, hk0⟩ : ∃ k0 : Nat, Hid ((pickC code 4 c1).1 = k0) := ⟨(pickC code 4 c1).1.toNat, by unfold Hid; omega⟩
  rw [hc2.out] at D2
  rw [hk0.out]
  rw [hc2.out, hk0.out] at hb2
  clear D1 C2
  go_wp2_with fail
  have hfr1 : Hid (tracksC code (2 + k0) [] c2 = tracksC code (2 + k0) [] c2) := rfl
  go_loopw [6] (fun j wr => ∃ (k : Nat) (acc : List Int) (v0 : Value) (cc : Cu), j = .int .i64 k ∧ k + acc.length ≤ 5 ∧ cc.pos + 2 * k ≤ 1020 ∧ Hid (tracksC code k acc cc = tracksC code (2 + k0) [] c2) ∧ Hid (wr.ownsRow (w1.heap.size + 1) 3 1 v0 acc.length (nums acc)) ∧ Dw w gc code A cA wr cc [(w1.heap.size, #[v0, .int .i64 gap, .slice none 0 0], 33), (w.heap.size, #[.slice none 0 0, .int .i64 0, .slice none 0 0], 33)]) (fun j _ => (intOf j).toNat)
  case atStart => exact ⟨2 + k0, [], .slice none 0 0, c2, by go_num, by simp; omega, by omega, rfl, World.ownsRow_nil _ _ _ _, D2⟩
  case round =>
    clear D2 hfr1
    obtain ⟨k, acc, v0, cc, rfl, hka, hcp, HT, HO, DD⟩ := hrel
    by_cases hlt : 0 < k
    · obtain ⟨k', hk'⟩ : ∃ k', k = k' + 1 := ⟨k - 1, by omega⟩
      have hd : decide ((0 : Int) < (k : Int)) = true := decide_eq_true (by omega)
      have hwk : IntKind.i64.wrap ((k : Int) - 1) = (k' : Int) := by rw [IntWalk.i64_in _ (by omega)]; omega
      have HT2 : Hid (tracksC code k' (acc ++ [1 + (pickC code 3 cc).1 * (pickC code 2 (pickC code 3 cc).2).1]) (pickC code 2 (pickC code 3 cc).2).2 = tracksC code (2 + k0) [] c2) := by have h := HT.out; rw [hk'] at h; exact h
      have hp3 := pickC_bd HBy.out 3 cc
      have hp2 := pickC_bd HBy.out 2 (pickC code 3 cc).2
      have hab : 0 ≤ (pickC code 3 cc).1 * (pickC code 2 (pickC code 3 cc).2).1 ∧ (pickC code 3 cc).1 * (pickC code 2 (pickC code 3 cc).2).1 ≤ 2 := by
        have e : (pickC code 2 (pickC code 3 cc).2).1 = 0 ∨ (pickC code 2 (pickC code 3 cc).2).1 = 1 := by omega
        rcases e with e | e <;> rw [e] <;> omega
      have hmul : IntKind.i64.wrap ((pickC code 3 cc).1 * (pickC code 2 (pickC code 3 cc).2).1) = (pickC code 3 cc).1 * (pickC code 2 (pickC code 3 cc).2).1 := IntWalk.i64_in _ (by omega)
      have hadd : IntKind.i64.wrap (1 + (pickC code 3 cc).1 * (pickC code 2 (pickC code 3 cc).2).1) = 1 + (pickC code 3 cc).1 * (pickC code 2 (pickC code 3 cc).2).1 := IntWalk.i64_in _ (by omega)
      have Dd := DD.ext (Ext.refl wr).drew
      have HOd := Lib.hid (ownsRow_ext HO.out (Ext.refl wr).drew)
      have hold := DD.old
      obtain ⟨z1, z2, z3⟩ := DD.at_ (g := w1.heap.size) (cs := #[v0, .int .i64 gap, .slice none 0 0]) (t := 33) (by simp)
      have cb0 := z1 0
      go_upto_region 5 with fail
      clear z1
      refine wp_region_held_drew (S := StepE w1.heap.size) (by kernel_rfl) (stepE_dw Dd) (fun _ => ?_)
      refine wpAnyH_take (i := 0) (oi := _) (v := ?_) rfl (by kernel_rfl) (by kernel_rfl) (by kernel_rfl) (fun _ _ _ h => h) (Or.inl ⟨by rfl, ?_⟩) (by assumption) ?_
      rotate_left 1
      · intro w hSw
        obtain ⟨hs1, hs2⟩ := hSw
        go_simp
        try with_reducible rfl
      try simp only [Act.put, List.setIfInBounds_toArray, List.set_cons_zero, List.set_cons_succ]
      refine wpAnyH_take (i := 2) (oi := _) (v := ?_) rfl (by kernel_rfl) (by kernel_rfl) (by kernel_rfl) (fun _ _ _ h => h) (Or.inl ⟨by rfl, ?_⟩) (by assumption) ?_
      rotate_left 1
      · intro w hSw
        obtain ⟨hs1, hs2⟩ := hSw
        go_simp
        try with_reducible rfl
      try simp only [Act.put, List.setIfInBounds_toArray, List.set_cons_zero, List.set_cons_succ]
      refine wpAnyH_take (i := 4) (oi := _) (v := ?_) rfl (by kernel_rfl) (by kernel_rfl) (by kernel_rfl) (fun _ _ _ h => h) (Or.inl ⟨by rfl, ?_⟩) (by assumption) ?_
      rotate_left 1
      · intro w hSw
        obtain ⟨hs1, hs2⟩ := hSw
        go_simp
        try with_reducible rfl
      try simp only [Act.put, List.setIfInBounds_toArray, List.set_cons_zero, List.set_cons_succ]
      refine wpAnyH_ready (rs := [1, 3]) (by kernel_rfl) (by simp) ?_
      refine AllReadyH.cons rfl (fun K hK => ?_) ?_
      · go_simp
        refine hK.out _ _ (stepE_dw Dd) (fun _ => ?_)
        clear hK K
        refine wpAnyH_ready (rs := [3]) (by kernel_rfl) (by simp) ?_
        refine AllReadyH.cons rfl (fun K hK => ?_) AllReadyH.nil
        go_simp
        go_at_call 123
        refine (HPK.out _ cc _ 3 Dd (by omega) (by omega)).mono ?_
        rintro e wa ⟨rfl, Dwa, Cwa⟩
        go_wp2_with fail
        have cbwa := (Dwa.at_ (g := w1.heap.size) (cs := #[v0, .int .i64 gap, .slice none 0 0]) (t := 33) (by simp)).1 0
        have HOwa := Lib.hid (ownsRow_keep HOd.out Cwa (fun g hg e => by have := (World.ownsRow.lt HOd.out g hg).1; omega))
        refine hK.out _ _ (stepE_dw Dwa) (fun _ => ?_)
        clear hK K
        refine wpAnyH_ready (rs := [5]) (by kernel_rfl) (by simp) ?_
        refine AllReadyH.cons rfl (fun K hK => ?_) AllReadyH.nil
        go_simp
        go_at_call 123
        refine (HPK.out _ (pickC code 3 cc).2 _ 2 Dwa (by omega) (by omega)).mono ?_
        rintro e wb ⟨rfl, Dwb, Cwb⟩
        go_wp2_with fail
        have cbwb := (Dwb.at_ (g := w1.heap.size) (cs := #[v0, .int .i64 gap, .slice none 0 0]) (t := 33) (by simp)).1 0
        have HOwb := Lib.hid (ownsRow_keep HOwa.out Cwb (fun g hg e => by have := (World.ownsRow.lt HOwa.out g hg).1; omega))
        refine hK.out _ _ (stepE_dw Dwb) (fun _ => ?_)
        clear hK K
        refine wpAnyH_take (i := 6) (oi := _) (v := ?_) rfl (by kernel_rfl) (by kernel_rfl) (by kernel_rfl) (fun _ _ _ h => h) (Or.inl ⟨by rfl, ?_⟩) (by assumption) ?_
        rotate_left 1
        · intro w hSw
          obtain ⟨hs1, hs2⟩ := hSw
          go_simp
          try with_reducible rfl
        try simp only [Act.put, List.setIfInBounds_toArray, List.set_cons_zero, List.set_cons_succ]
        refine wpAnyH_take (i := 7) (oi := _) (v := ?_) rfl (by kernel_rfl) (by kernel_rfl) (by kernel_rfl) (fun _ _ _ h => h) (Or.inl ⟨by rfl, ?_⟩) (by assumption) ?_
        rotate_left 1
        · intro w hSw
          obtain ⟨hs1, hs2⟩ := hSw
          go_simp
          try with_reducible rfl
        try simp only [Act.put, List.setIfInBounds_toArray, List.set_cons_zero, List.set_cons_succ]
        refine wpAnyH_ready (rs := [8]) (by kernel_rfl) (by simp) ?_
        refine AllReadyH.cons rfl (fun K hK => ?_) AllReadyH.nil
        go_simp
        have DX := Dwb.ext ((Ext.refl _).alloc (.cells #[.int .i64 (1 + (pickC code 3 cc).1 * (pickC code 2 (pickC code 3 cc).2).1)] 3))
        have HOX := Lib.hid (HOwb.out.alloc (.cells #[.int .i64 (1 + (pickC code 3 cc).1 * (pickC code 2 (pickC code 3 cc).2).1)] 3))
        have cbX := (DX.at_ (g := w1.heap.size) (cs := #[v0, .int .i64 gap, .slice none 0 0]) (t := 33) (by simp)).1 0
        refine hK.out _ _ (stepE_dw DX) (fun _ => ?_)
        clear hK K
        refine wpAnyH_ready (rs := [9]) (by kernel_rfl) (by simp) ?_
        refine AllReadyH.cons rfl (fun K hK => ?_) AllReadyH.nil
        refine app_step rfl (.tmp 26) (.tmp 33) 23 rfl (w1.heap.size + 1) 3 1 8 _ Try.underlying23 info3 rfl (by decide) _ _ _ rfl HOX.out (by have := (DX.at_ (g := w1.heap.size) (cs := #[v0, .int .i64 gap, .slice none 0 0]) (t := 33) (by simp)).2.1; omega) _ _ #[.int .i64 (1 + (pickC code 3 cc).1 * (pickC code 2 (pickC code 3 cc).2).1)] _ rfl (box_new _ _) rfl (one_int _) (by omega) (by decide) _ rfl ?_
        intro g cap w6 hown hgrow hg hlt6
        have D6 := DX.grown hgrow (fun k hk => ⟨by have := (World.ownsRow.lt HOX.out k hk).1; omega, by have := (World.ownsRow.lt HOX.out k hk).1; exact far2 (by omega) (by omega)⟩)
        have D7 := D6.set (one1 (by omega)) 0 (.slice (some ⟨g, 0, none⟩) (acc.length + 1) cap)
        have hg7 : g ≠ w1.heap.size := by have := (hown.lt g (ownBlock_slice _ _ _)).1; omega
        have HO7 := Lib.hid (ownsRow_set_far (g := w1.heap.size) hown (by rw [ownBlock_slice]; simp only [ne_eq, Option.some.injEq]; exact hg7) 0 (.slice (some ⟨g, 0, none⟩) (acc.length + 1) cap))
        clear hown hgrow hg hg7
        refine hK.out _ _ (stepE_dw D6) (fun _ => ?_)
        clear hK K
        refine wpAnyH_take (i := 10) (oi := _) (v := ?_) rfl (by kernel_rfl) (by kernel_rfl) (by kernel_rfl) (fun _ _ _ h => h) (Or.inl ⟨by rfl, ?_⟩) (by assumption) ?_
        rotate_left 1
        · intro w hSw
          obtain ⟨hs1, hs2⟩ := hSw
          go_simp
          try with_reducible rfl
        try simp only [Act.put, List.setIfInBounds_toArray, List.set_cons_zero, List.set_cons_succ]
        refine wpAnyH_ready (rs := [11]) (by kernel_rfl) (by simp) ?_
        refine AllReadyH.cons rfl (fun K hK => ?_) AllReadyH.nil
        have fr6 := (D6.at_ (g := w1.heap.size) (cs := #[v0, .int .i64 gap, .slice none 0 0]) (t := 33) (by simp))
        obtain ⟨fr6a, fr6b, fr6c⟩ := fr6
        go_simp
        refine hK.out _ _ (stepE_dw D7) (fun _ => ?_)
        clear hK K
        refine wpAnyH_done (by kernel_rfl) ?_ _
        go_wp2_with fail
        exact ⟨⟨k', _, _, _, rfl, by rw [List.length_append]; simp only [List.length_singleton]; omega, by omega, HT2.out, row_snoc HO7.out, D7⟩, by simp [intOf]; omega⟩
      refine AllReadyH.cons rfl (fun K hK => ?_) AllReadyH.nil
      go_simp
      go_at_call 123
      refine (HPK.out _ cc _ 3 Dd (by omega) (by omega)).mono ?_
      rintro e wa ⟨rfl, Dwa, Cwa⟩
      go_wp2_with fail
      have cbwa := (Dwa.at_ (g := w1.heap.size) (cs := #[v0, .int .i64 gap, .slice none 0 0]) (t := 33) (by simp)).1 0
      have HOwa := Lib.hid (ownsRow_keep HOd.out Cwa (fun g hg e => by have := (World.ownsRow.lt HOd.out g hg).1; omega))
      refine hK.out _ _ (stepE_dw Dwa) (fun _ => ?_)
      clear hK K
      refine wpAnyH_ready (rs := [1, 5]) (by kernel_rfl) (by simp) ?_
      refine AllReadyH.cons rfl (fun K hK => ?_) ?_
      · go_simp
        refine hK.out _ _ (stepE_dw Dwa) (fun _ => ?_)
        clear hK K
        refine wpAnyH_ready (rs := [5]) (by kernel_rfl) (by simp) ?_
        refine AllReadyH.cons rfl (fun K hK => ?_) AllReadyH.nil
        go_simp
        go_at_call 123
        refine (HPK.out _ (pickC code 3 cc).2 _ 2 Dwa (by omega) (by omega)).mono ?_
        rintro e wb ⟨rfl, Dwb, Cwb⟩
        go_wp2_with fail
        have cbwb := (Dwb.at_ (g := w1.heap.size) (cs := #[v0, .int .i64 gap, .slice none 0 0]) (t := 33) (by simp)).1 0
        have HOwb := Lib.hid (ownsRow_keep HOwa.out Cwb (fun g hg e => by have := (World.ownsRow.lt HOwa.out g hg).1; omega))
        refine hK.out _ _ (stepE_dw Dwb) (fun _ => ?_)
        clear hK K
        refine wpAnyH_take (i := 6) (oi := _) (v := ?_) rfl (by kernel_rfl) (by kernel_rfl) (by kernel_rfl) (fun _ _ _ h => h) (Or.inl ⟨by rfl, ?_⟩) (by assumption) ?_
        rotate_left 1
        · intro w hSw
          obtain ⟨hs1, hs2⟩ := hSw
          go_simp
          try with_reducible rfl
        try simp only [Act.put, List.setIfInBounds_toArray, List.set_cons_zero, List.set_cons_succ]
        refine wpAnyH_take (i := 7) (oi := _) (v := ?_) rfl (by kernel_rfl) (by kernel_rfl) (by kernel_rfl) (fun _ _ _ h => h) (Or.inl ⟨by rfl, ?_⟩) (by assumption) ?_
        rotate_left 1
        · intro w hSw
          obtain ⟨hs1, hs2⟩ := hSw
          go_simp
          try with_reducible rfl
        try simp only [Act.put, List.setIfInBounds_toArray, List.set_cons_zero, List.set_cons_succ]
        refine wpAnyH_ready (rs := [8]) (by kernel_rfl) (by simp) ?_
        refine AllReadyH.cons rfl (fun K hK => ?_) AllReadyH.nil
        go_simp
        have DX := Dwb.ext ((Ext.refl _).alloc (.cells #[.int .i64 (1 + (pickC code 3 cc).1 * (pickC code 2 (pickC code 3 cc).2).1)] 3))
        have HOX := Lib.hid (HOwb.out.alloc (.cells #[.int .i64 (1 + (pickC code 3 cc).1 * (pickC code 2 (pickC code 3 cc).2).1)] 3))
        have cbX := (DX.at_ (g := w1.heap.size) (cs := #[v0, .int .i64 gap, .slice none 0 0]) (t := 33) (by simp)).1 0
        refine hK.out _ _ (stepE_dw DX) (fun _ => ?_)
        clear hK K
        refine wpAnyH_ready (rs := [9]) (by kernel_rfl) (by simp) ?_
        refine AllReadyH.cons rfl (fun K hK => ?_) AllReadyH.nil
        refine app_step rfl (.tmp 26) (.tmp 33) 23 rfl (w1.heap.size + 1) 3 1 8 _ Try.underlying23 info3 rfl (by decide) _ _ _ rfl HOX.out (by have := (DX.at_ (g := w1.heap.size) (cs := #[v0, .int .i64 gap, .slice none 0 0]) (t := 33) (by simp)).2.1; omega) _ _ #[.int .i64 (1 + (pickC code 3 cc).1 * (pickC code 2 (pickC code 3 cc).2).1)] _ rfl (box_new _ _) rfl (one_int _) (by omega) (by decide) _ rfl ?_
        intro g cap w6 hown hgrow hg hlt6
        have D6 := DX.grown hgrow (fun k hk => ⟨by have := (World.ownsRow.lt HOX.out k hk).1; omega, by have := (World.ownsRow.lt HOX.out k hk).1; exact far2 (by omega) (by omega)⟩)
        have D7 := D6.set (one1 (by omega)) 0 (.slice (some ⟨g, 0, none⟩) (acc.length + 1) cap)
        have hg7 : g ≠ w1.heap.size := by have := (hown.lt g (ownBlock_slice _ _ _)).1; omega
        have HO7 := Lib.hid (ownsRow_set_far (g := w1.heap.size) hown (by rw [ownBlock_slice]; simp only [ne_eq, Option.some.injEq]; exact hg7) 0 (.slice (some ⟨g, 0, none⟩) (acc.length + 1) cap))
        clear hown hgrow hg hg7
        refine hK.out _ _ (stepE_dw D6) (fun _ => ?_)
        clear hK K
        refine wpAnyH_take (i := 10) (oi := _) (v := ?_) rfl (by kernel_rfl) (by kernel_rfl) (by kernel_rfl) (fun _ _ _ h => h) (Or.inl ⟨by rfl, ?_⟩) (by assumption) ?_
        rotate_left 1
        · intro w hSw
          obtain ⟨hs1, hs2⟩ := hSw
          go_simp
          try with_reducible rfl
        try simp only [Act.put, List.setIfInBounds_toArray, List.set_cons_zero, List.set_cons_succ]
        refine wpAnyH_ready (rs := [11]) (by kernel_rfl) (by simp) ?_
        refine AllReadyH.cons rfl (fun K hK => ?_) AllReadyH.nil
        have fr6 := (D6.at_ (g := w1.heap.size) (cs := #[v0, .int .i64 gap, .slice none 0 0]) (t := 33) (by simp))
        obtain ⟨fr6a, fr6b, fr6c⟩ := fr6
        go_simp
        refine hK.out _ _ (stepE_dw D7) (fun _ => ?_)
        clear hK K
        refine wpAnyH_done (by kernel_rfl) ?_ _
        go_wp2_with fail
        exact ⟨⟨k', _, _, _, rfl, by rw [List.length_append]; simp only [List.length_singleton]; omega, by omega, HT2.out, row_snoc HO7.out, D7⟩, by simp [intOf]; omega⟩
      refine AllReadyH.cons rfl (fun K hK => ?_) AllReadyH.nil
      go_simp
      go_at_call 123
      refine (HPK.out _ (pickC code 3 cc).2 _ 2 Dwa (by omega) (by omega)).mono ?_
      rintro e wb ⟨rfl, Dwb, Cwb⟩
      go_wp2_with fail
      have cbwb := (Dwb.at_ (g := w1.heap.size) (cs := #[v0, .int .i64 gap, .slice none 0 0]) (t := 33) (by simp)).1 0
      have HOwb := Lib.hid (ownsRow_keep HOwa.out Cwb (fun g hg e => by have := (World.ownsRow.lt HOwa.out g hg).1; omega))
      refine hK.out _ _ (stepE_dw Dwb) (fun _ => ?_)
      clear hK K
      refine wpAnyH_take (i := 6) (oi := _) (v := ?_) rfl (by kernel_rfl) (by kernel_rfl) (by kernel_rfl) (fun _ _ _ h => h) (Or.inl ⟨by rfl, ?_⟩) (by assumption) ?_
      rotate_left 1
      · intro w hSw
        obtain ⟨hs1, hs2⟩ := hSw
        go_simp
        try with_reducible rfl
      try simp only [Act.put, List.setIfInBounds_toArray, List.set_cons_zero, List.set_cons_succ]
      refine wpAnyH_take (i := 7) (oi := _) (v := ?_) rfl (by kernel_rfl) (by kernel_rfl) (by kernel_rfl) (fun _ _ _ h => h) (Or.inl ⟨by rfl, ?_⟩) (by assumption) ?_
      rotate_left 1
      · intro w hSw
        obtain ⟨hs1, hs2⟩ := hSw
        go_simp
        try with_reducible rfl
      try simp only [Act.put, List.setIfInBounds_toArray, List.set_cons_zero, List.set_cons_succ]
      refine wpAnyH_ready (rs := [1, 8]) (by kernel_rfl) (by simp) ?_
      refine AllReadyH.cons rfl (fun K hK => ?_) ?_
      · go_simp
        refine hK.out _ _ (stepE_dw Dwb) (fun _ => ?_)
        clear hK K
        refine wpAnyH_ready (rs := [8]) (by kernel_rfl) (by simp) ?_
        refine AllReadyH.cons rfl (fun K hK => ?_) AllReadyH.nil
        go_simp
        have DX := Dwb.ext ((Ext.refl _).alloc (.cells #[.int .i64 (1 + (pickC code 3 cc).1 * (pickC code 2 (pickC code 3 cc).2).1)] 3))
        have HOX := Lib.hid (HOwb.out.alloc (.cells #[.int .i64 (1 + (pickC code 3 cc).1 * (pickC code 2 (pickC code 3 cc).2).1)] 3))
        have cbX := (DX.at_ (g := w1.heap.size) (cs := #[v0, .int .i64 gap, .slice none 0 0]) (t := 33) (by simp)).1 0
        refine hK.out _ _ (stepE_dw DX) (fun _ => ?_)
        clear hK K
        refine wpAnyH_ready (rs := [9]) (by kernel_rfl) (by simp) ?_
        refine AllReadyH.cons rfl (fun K hK => ?_) AllReadyH.nil
        refine app_step rfl (.tmp 26) (.tmp 33) 23 rfl (w1.heap.size + 1) 3 1 8 _ Try.underlying23 info3 rfl (by decide) _ _ _ rfl HOX.out (by have := (DX.at_ (g := w1.heap.size) (cs := #[v0, .int .i64 gap, .slice none 0 0]) (t := 33) (by simp)).2.1; omega) _ _ #[.int .i64 (1 + (pickC code 3 cc).1 * (pickC code 2 (pickC code 3 cc).2).1)] _ rfl (box_new _ _) rfl (one_int _) (by omega) (by decide) _ rfl ?_
        intro g cap w6 hown hgrow hg hlt6
        have D6 := DX.grown hgrow (fun k hk => ⟨by have := (World.ownsRow.lt HOX.out k hk).1; omega, by have := (World.ownsRow.lt HOX.out k hk).1; exact far2 (by omega) (by omega)⟩)
        have D7 := D6.set (one1 (by omega)) 0 (.slice (some ⟨g, 0, none⟩) (acc.length + 1) cap)
        have hg7 : g ≠ w1.heap.size := by have := (hown.lt g (ownBlock_slice _ _ _)).1; omega
        have HO7 := Lib.hid (ownsRow_set_far (g := w1.heap.size) hown (by rw [ownBlock_slice]; simp only [ne_eq, Option.some.injEq]; exact hg7) 0 (.slice (some ⟨g, 0, none⟩) (acc.length + 1) cap))
        clear hown hgrow hg hg7
        refine hK.out _ _ (stepE_dw D6) (fun _ => ?_)
        clear hK K
        refine wpAnyH_take (i := 10) (oi := _) (v := ?_) rfl (by kernel_rfl) (by kernel_rfl) (by kernel_rfl) (fun _ _ _ h => h) (Or.inl ⟨by rfl, ?_⟩) (by assumption) ?_
        rotate_left 1
        · intro w hSw
          obtain ⟨hs1, hs2⟩ := hSw
          go_simp
          try with_reducible rfl
        try simp only [Act.put, List.setIfInBounds_toArray, List.set_cons_zero, List.set_cons_succ]
        refine wpAnyH_ready (rs := [11]) (by kernel_rfl) (by simp) ?_
        refine AllReadyH.cons rfl (fun K hK => ?_) AllReadyH.nil
        have fr6 := (D6.at_ (g := w1.heap.size) (cs := #[v0, .int .i64 gap, .slice none 0 0]) (t := 33) (by simp))
        obtain ⟨fr6a, fr6b, fr6c⟩ := fr6
        go_simp
        refine hK.out _ _ (stepE_dw D7) (fun _ => ?_)
        clear hK K
        refine wpAnyH_done (by kernel_rfl) ?_ _
        go_wp2_with fail
        exact ⟨⟨k', _, _, _, rfl, by rw [List.length_append]; simp only [List.length_singleton]; omega, by omega, HT2.out, row_snoc HO7.out, D7⟩, by simp [intOf]; omega⟩
      refine AllReadyH.cons rfl (fun K hK => ?_) AllReadyH.nil
      go_simp
      have DX := Dwb.ext ((Ext.refl _).alloc (.cells #[.int .i64 (1 + (pickC code 3 cc).1 * (pickC code 2 (pickC code 3 cc).2).1)] 3))
      have HOX := Lib.hid (HOwb.out.alloc (.cells #[.int .i64 (1 + (pickC code 3 cc).1 * (pickC code 2 (pickC code 3 cc).2).1)] 3))
      have cbX := (DX.at_ (g := w1.heap.size) (cs := #[v0, .int .i64 gap, .slice none 0 0]) (t := 33) (by simp)).1 0
      refine hK.out _ _ (stepE_dw DX) (fun _ => ?_)
      clear hK K
      refine wpAnyH_ready (rs := [1]) (by kernel_rfl) (by simp) ?_
      refine AllReadyH.cons rfl (fun K hK => ?_) AllReadyH.nil
      go_simp
      refine hK.out _ _ (stepE_dw DX) (fun _ => ?_)
      clear hK K
      refine wpAnyH_ready (rs := [9]) (by kernel_rfl) (by simp) ?_
      refine AllReadyH.cons rfl (fun K hK => ?_) AllReadyH.nil
      refine app_step rfl (.tmp 26) (.tmp 33) 23 rfl (w1.heap.size + 1) 3 1 8 _ Try.underlying23 info3 rfl (by decide) _ _ _ rfl HOX.out (by have := (DX.at_ (g := w1.heap.size) (cs := #[v0, .int .i64 gap, .slice none 0 0]) (t := 33) (by simp)).2.1; omega) _ _ #[.int .i64 (1 + (pickC code 3 cc).1 * (pickC code 2 (pickC code 3 cc).2).1)] _ rfl (box_new _ _) rfl (one_int _) (by omega) (by decide) _ rfl ?_
      intro g cap w6 hown hgrow hg hlt6
      have D6 := DX.grown hgrow (fun k hk => ⟨by have := (World.ownsRow.lt HOX.out k hk).1; omega, by have := (World.ownsRow.lt HOX.out k hk).1; exact far2 (by omega) (by omega)⟩)
      have D7 := D6.set (one1 (by omega)) 0 (.slice (some ⟨g, 0, none⟩) (acc.length + 1) cap)
      have hg7 : g ≠ w1.heap.size := by have := (hown.lt g (ownBlock_slice _ _ _)).1; omega
      have HO7 := Lib.hid (ownsRow_set_far (g := w1.heap.size) hown (by rw [ownBlock_slice]; simp only [ne_eq, Option.some.injEq]; exact hg7) 0 (.slice (some ⟨g, 0, none⟩) (acc.length + 1) cap))
      clear hown hgrow hg hg7
      refine hK.out _ _ (stepE_dw D6) (fun _ => ?_)
      clear hK K
      refine wpAnyH_take (i := 10) (oi := _) (v := ?_) rfl (by kernel_rfl) (by kernel_rfl) (by kernel_rfl) (fun _ _ _ h => h) (Or.inl ⟨by rfl, ?_⟩) (by assumption) ?_
      rotate_left 1
      · intro w hSw
        obtain ⟨hs1, hs2⟩ := hSw
        go_simp
        try with_reducible rfl
      try simp only [Act.put, List.setIfInBounds_toArray, List.set_cons_zero, List.set_cons_succ]
      refine wpAnyH_ready (rs := [11]) (by kernel_rfl) (by simp) ?_
      refine AllReadyH.cons rfl (fun K hK => ?_) AllReadyH.nil
      have fr6 := (D6.at_ (g := w1.heap.size) (cs := #[v0, .int .i64 gap, .slice none 0 0]) (t := 33) (by simp))
      obtain ⟨fr6a, fr6b, fr6c⟩ := fr6
      go_simp
      refine hK.out _ _ (stepE_dw D7) (fun _ => ?_)
      clear hK K
      refine wpAnyH_done (by kernel_rfl) ?_ _
      go_wp2_with fail
      exact ⟨⟨k', _, _, _, rfl, by rw [List.length_append]; simp only [List.length_singleton]; omega, by omega, HT2.out, row_snoc HO7.out, D7⟩, by simp [intOf]; omega⟩
    · have hk0' : k = 0 := by omega
      have HK0 := Lib.hid hk0'
      have hd : decide ((0 : Int) < (k : Int)) = false := decide_eq_false (by omega)
      have hTE : Hid (tracksC code (2 + k0) [] c2 = (acc, cc)) := by have h := HT.out; rw [hk0'] at h; exact h.symm
      obtain ⟨z1, z2, z3⟩ := DD.at_ (g := w1.heap.size) (cs := #[v0, .int .i64 gap, .slice none 0 0]) (t := 33) (by simp)
      have cb0 := z1 0
      have hnw : IntKind.i64.wrap (most - 1) = most - 1 := IntWalk.i64_in _ (by omega)
      obtain ⟨_, AT, cT, rfl, hRT⟩ := rd_of_ownsP HO.out
      clear hk0' z1 hRT
      go_wp2_with fail
      refine (HPK.out _ _ _ (most - 1) DD (by omega) (by omega)).mono ?_
      rintro e w3 ⟨rfl, D3, C3⟩
      obtain ⟨c3, hc3⟩ : ∃ c3, Hid ((pickC code (most - 1) cc).2 = c3) := ⟨_, rfl⟩
      have hb3 := pickC_bd HBy.out (most - 1) cc
      obtain ⟨m0, hm0'⟩ : ∃ m0 : Nat, Hid ((pickC code (most - 1) cc).1 = m0) := ⟨(pickC code (most - 1) cc).1.toNat, by unfold Hid; omega⟩
      rw [hc3.out] at D3
      rw [hm0'.out]
      rw [hc3.out, hm0'.out] at hb3
      have HO3 := Lib.hid (ownsRow_keep HO.out C3 (fun g hg e => by have := (World.ownsRow.lt HO.out g hg).1; have := DD.old; omega))
      have hacc := tracksC_ok HBy.out (2 + k0) [] c2 (fun x hx => by cases hx)
      rw [hTE.out] at hacc
      obtain ⟨hacc1, hacc2, _⟩ := hacc
      simp only [List.length_nil, Nat.zero_add] at hacc2
      have hn2 : 2 ≤ acc.length := by omega
      have hn5 : acc.length ≤ 5 := by omega
      clear DD C3 HO cb0 z2 z3 hacc1 hacc2
      have hold := D3.old
      go_wp2_with fail
      go_loopw [8] (fun j wr => ∃ (left : Nat) (ts : List Train) (v2 : Value) (vl : Nat → Value) (cc : Cu), j = .int .i64 left ∧ left ≤ 10 ∧ ts.length ≤ 5 ∧ cc.pos ≤ 1025 + 20 * ts.length ∧ Hid (trainsC code acc.length (5 - ts.length) ts left cc = trainsC code acc.length 5 [] (2 + m0) c3) ∧ Hid (TrI wr (w1.heap.size + 1) ts v2 vl) ∧ Hid (wr.ownsRow (w1.heap.size + 1) 3 1 (.slice AT acc.length cT) acc.length (nums acc)) ∧ Hid (∀ g, v2.ownBlock = some g → (Value.slice AT acc.length cT).ownBlock ≠ some g) ∧ Dw w gc code A cA wr cc [(w1.heap.size, #[.slice AT acc.length cT, .int .i64 gap, v2], 33), (w.heap.size, #[.slice none 0 0, .int .i64 0, .slice none 0 0], 33)]) (fun j _ => (intOf j).toNat)
      case atStart => exact ⟨2 + m0, [], .slice none 0 0, fun _ => .slice none 0 0, c3, by go_num, by omega, by simp, by simp; omega, rfl, TrI.nil _ _ _, HO3.out, (fun g h => by cases h), D3⟩
      case round =>
        clear D3 HO3
        obtain ⟨left, ts, v2, vl, cc, rfl, hlf, hts, hcp, HT, HTr, HO, HAp, DD⟩ := hrel
        obtain ⟨_, A2, c2', rfl, hRT⟩ : ∃ (_ : True) (A2 : Option Addr) (c2' : Nat), v2 = .slice A2 ts.length c2' ∧ RdTrain wr A2 ts := by obtain ⟨A2, c2', h1, h2⟩ := HTr.out.rd; exact ⟨trivial, A2, c2', h1, h2⟩
        clear hRT
        obtain ⟨z1, z2, z3⟩ := DD.at_ (g := w1.heap.size) (cs := #[.slice AT acc.length cT, .int .i64 gap, .slice A2 ts.length c2']) (t := 33) (by simp)
        have cb2 := z1 2
        obtain ⟨bt2, hbt2⟩ : ∃ bt2, bt2 = (decide (0 < left) && decide (ts.length < 5)) := ⟨_, rfl⟩
        go_upto_region 8 with fail
        go_cut [51] (fun sv wx => sv = .bool bt2 ∧ wx = wr)
        case first =>
          by_cases h1 : 0 < left
          · have hd1 : decide ((0 : Int) < (left : Int)) = true := decide_eq_true (by omega)
            by_cases h2 : ts.length < 5
            · have hd2 : decide ((ts.length : Int) < 5) = true := decide_eq_true (by omega)
              have hbe : Hid (bt2 = true) := by unfold Hid; rw [hbt2, decide_eq_true h1, decide_eq_true h2]; rfl
              clear hbt2
              go_wp2_with fail
              go_meet
              exact ⟨by rw [hbe.out], rfl⟩
            · have hd2 : decide ((ts.length : Int) < 5) = false := decide_eq_false (by omega)
              have hbe : Hid (bt2 = false) := by unfold Hid; rw [hbt2, decide_eq_true h1, decide_eq_false h2]; rfl
              clear hbt2
              go_wp2_with fail
              go_meet
              exact ⟨by rw [hbe.out], rfl⟩
          · have hd1 : decide ((0 : Int) < (left : Int)) = false := decide_eq_false (by omega)
            have hbe : Hid (bt2 = false) := by unfold Hid; rw [hbt2, decide_eq_false h1]; rfl
            clear hbt2
            go_wp2_with fail
            go_meet
            exact ⟨by rw [hbe.out], rfl⟩
        case rest =>
        obtain ⟨rfl, rfl⟩ := hcut
        have hbt2' : (bt2 = true ↔ 0 < left ∧ ts.length < 5) := by rw [hbt2, Bool.and_eq_true, decide_eq_true_eq, decide_eq_true_eq]
        clear hbt2
        cases bt2 with
        | true =>
          obtain ⟨hl0, ht5⟩ := hbt2'.1 rfl
          clear hbt2'
          go_wp2_with fail
          have hC0 : True := trivial
          refine (HPK.out _ _ _ (acc.length) DD (by omega) (by omega)).mono ?_
          rintro e w4 ⟨rfl, D4, C4⟩
          obtain ⟨c4, hc4⟩ : ∃ x, Hid ((pickC code (acc.length) cc).2 = x) := ⟨_, rfl⟩
          obtain ⟨f, hf⟩ : ∃ x, Hid ((pickC code (acc.length) cc).1 = x) := ⟨_, rfl⟩
          have bf := pickC_bd HBy.out (acc.length) cc
          rw [hc4.out] at D4
          rw [hf.out]
          rw [hc4.out, hf.out] at bf
          go_wp2_with fail
          refine (HPK.out _ _ _ (40) D4 (by omega) (by omega)).mono ?_
          rintro e w5 ⟨rfl, D5, C5⟩
          obtain ⟨c5, hc5⟩ : ∃ x, Hid ((pickC code (40) c4).2 = x) := ⟨_, rfl⟩
          obtain ⟨r, hr⟩ : ∃ x, Hid ((pickC code (40) c4).1 = x) := ⟨_, rfl⟩
          have br := pickC_bd HBy.out (40) c4
          rw [hc5.out] at D5
          rw [hr.out]
          rw [hc5.out, hr.out] at br
          go_wp2_with fail
          refine (HPK.out _ _ _ (4) D5 (by omega) (by omega)).mono ?_
          rintro e w6 ⟨rfl, D6, C6⟩
          obtain ⟨c6, hc6⟩ : ∃ x, Hid ((pickC code (4) c5).2 = x) := ⟨_, rfl⟩
          obtain ⟨wt, hwt⟩ : ∃ x, Hid ((pickC code (4) c5).1 = x) := ⟨_, rfl⟩
          have bwt := pickC_bd HBy.out (4) c5
          rw [hc6.out] at D6
          rw [hwt.out]
          rw [hc6.out, hwt.out] at bwt
          have hC6 := (C4.trans C5).trans C6
          have hgcB : ∀ g, g = gc → g < w1.heap.size + 1 := fun g e => by omega
          have HTr6 := Lib.hid (HTr.out.keep hC6 hgcB)
          have HO6 := Lib.hid (ownsRow_chg HO.out hC6 hgcB)
          have D6' := D6.newAt (g := w6.heap.size) #[.int .i64 f, .int .i64 r, .int .i64 0, .int .i64 (1 + wt), .slice none 0 0] 80 rfl
          have hs6 := C6.size
          have hC6a : Chg (fun g => g = gc) w6 (w6.alloc (.cells #[.int .i64 f, .int .i64 r, .int .i64 0, .int .i64 (1 + wt), .slice none 0 0] 80)) := Chg.of_ext ((Ext.refl w6).alloc _)
          have hg5 : w1.heap.size < w6.heap.size := (D6.at_ (g := w1.heap.size) (cs := #[.slice AT acc.length cT, .int .i64 gap, .slice A2 ts.length c2']) (t := 33) (by simp)).2.1
          clear D4 D5 C4 C5 C6 hC0 z1 z2 z3 cb2 D6 DD
          go_wp2_with fail
          refine (HPK.out _ _ _ (2) D6' (by omega) (by omega)).mono ?_
          rintro e w7 ⟨rfl, D7, C7⟩
          obtain ⟨c7, hc7⟩ : ∃ x, Hid ((pickC code (2) c6).2 = x) := ⟨_, rfl⟩
          obtain ⟨up, hup⟩ : ∃ x, Hid ((pickC code (2) c6).1 = x) := ⟨_, rfl⟩
          have bup := pickC_bd HBy.out (2) c6
          rw [hc7.out] at D7
          rw [hup.out]
          rw [hc7.out, hup.out] at bup
          have hC7 := hC6a.trans C7
          clear D6' C7 hC6a
          obtain ⟨z1, z2, z3⟩ := D7.at_ (g := w6.heap.size) (cs := #[.int .i64 f, .int .i64 r, .int .i64 0, .int .i64 (1 + wt), .slice none 0 0]) (t := 80) (by simp)
          go_wp2_with fail
          refine (HPK.out _ _ _ 4 D7 (by omega) (by omega)).mono ?_
          rintro e w8 ⟨rfl, D8, C8⟩
          obtain ⟨c8, hc8⟩ : ∃ x, Hid ((pickC code 4 c7).2 = x) := ⟨_, rfl⟩
          have bk := pickC_bd HBy.out 4 c7
          obtain ⟨kn, hkn⟩ : ∃ kn : Nat, Hid ((pickC code 4 c7).1 = kn) := ⟨(pickC code 4 c7).1.toNat, by unfold Hid; omega⟩
          rw [hc8.out] at D8
          rw [hkn.out]
          rw [hc8.out, hkn.out] at bk
          have hC8 := hC7.trans C8
          have hs0 : LgOk acc.length f ⟨f, up, r, [], left, c8⟩ := ⟨by simp only []; omega, by simp only []; omega, by simp only []; omega, by simp only []; omega, by simp, by intro k x hx; simp at hx, by intro k x hx; simp at hx, by simp only []; omega, by simp only [List.length_nil]; omega⟩
          have HS0 := Lib.hid hs0
          clear D7 C8 hC7 z1 z2 z3 hs0
          go_wp2_with fail
          go_loopw [8, 10, 11, 12, 13] (fun lf u a sm kk wr2 => ∃ (k2 : Nat) (s : LgS) (vL : Value), lf = .int .i64 s.left ∧ u = .int .i64 s.up ∧ a = .int .i64 s.at_ ∧ sm = .int .i64 s.sum ∧ kk = .int .i64 k2 ∧ k2 + s.legs.length ≤ 4 ∧ s.left ≤ 10 ∧ s.cur.pos + 2 * k2 ≤ 2000 ∧ Hid (LgOk acc.length f s) ∧ Hid (legsC code acc.length k2 s = legsC code acc.length (1 + kn) ⟨f, up, r, [], left, c8⟩) ∧ Hid (wr2.ownsRow (w6.heap.size + 1) 84 3 vL s.legs.length (legCells s.legs)) ∧ Hid (Chg (fun g => g = gc) w6 wr2) ∧ Dw w gc code A cA wr2 s.cur [(w6.heap.size, #[.int .i64 f, .int .i64 r, .int .i64 0, .int .i64 (1 + wt), vL], 80), (w1.heap.size, #[.slice AT acc.length cT, .int .i64 gap, .slice A2 ts.length c2'], 33), (w.heap.size, #[.slice none 0 0, .int .i64 0, .slice none 0 0], 33)]) (fun _ _ _ _ kk _ => (intOf kk).toNat)
          case atStart => exact ⟨1 + kn, ⟨f, up, r, [], left, c8⟩, .slice none 0 0, rfl, rfl, rfl, rfl, by go_num, by simp; omega, by simp only []; omega, by simp only []; omega, HS0.out, rfl, World.ownsRow_nil _ _ _ _, hC8, D8⟩
          case round =>
            clear D8 hC8 HS0
            obtain ⟨k2, s, vL, rfl, rfl, rfl, rfl, rfl, hk2, hlf2, hcp2, HSO, HLT, HVL, HC6, DD⟩ := hrel
            obtain ⟨_, AL, cL, rfl⟩ : ∃ (_ : True) (AL : Option Addr) (cL : Nat), vL = .slice AL s.legs.length cL := by obtain ⟨AL, cL, h1, _⟩ := rd_of_legs HVL.out rfl; exact ⟨trivial, AL, cL, h1⟩
            obtain ⟨sat, sup, ssum, slegs, sleft, scur⟩ := s
            simp only [] at hk2 hlf2 hcp2 DD
            obtain ⟨nl, hnl⟩ : ∃ nl, Hid (slegs.length = nl) := ⟨_, rfl⟩
            have HSO' := HSO.out
            have ha0 : 0 ≤ sat := HSO'.a0
            have ha1 : sat ≤ (acc.length : Int) - 1 := HSO'.a1
            have hu0 : 0 ≤ sup := HSO'.u0
            have hu1 : sup ≤ 1 := HSO'.u1
            have hq0 : 0 ≤ ssum := HSO'.sum0
            have hq1 : ssum ≤ 39 + 35 * slegs.length := HSO'.sum1
            clear HSO'
            obtain ⟨bt, hbt⟩ : ∃ bt, bt = (decide (0 < k2) && decide (0 < sleft)) := ⟨_, rfl⟩
            go_upto_region 14 with fail
            go_cut [75] (fun sv wx => sv = .bool bt ∧ wx = wr)
            case first =>
              by_cases h1 : 0 < k2
              · have hd1 : decide ((0 : Int) < (k2 : Int)) = true := decide_eq_true (by omega)
                have hbe : Hid (bt = decide (0 < sleft)) := by unfold Hid; rw [hbt, decide_eq_true h1]; rfl
                clear hbt
                go_wp2_with fail
                go_meet
                exact ⟨by rw [hbe.out], rfl⟩
              · have hd1 : decide ((0 : Int) < (k2 : Int)) = false := decide_eq_false (by omega)
                have hbe : Hid (bt = false) := by unfold Hid; rw [hbt, decide_eq_false h1]; rfl
                clear hbt
                go_wp2_with fail
                go_meet
                exact ⟨by rw [hbe.out], rfl⟩
            case rest =>
            obtain ⟨rfl, rfl⟩ := hcut
            have hbt' : (bt = true ↔ 0 < k2 ∧ 0 < sleft) := by rw [hbt, Bool.and_eq_true, decide_eq_true_eq, decide_eq_true_eq]
            clear hbt
            cases bt with
            | true =>
              obtain ⟨hk0, hl0'⟩ := hbt'.1 rfl
              obtain ⟨k3, hk3⟩ : ∃ k3, k2 = k3 + 1 := ⟨k2 - 1, by omega⟩
              obtain ⟨left3, hleft3⟩ : ∃ l3, sleft = l3 + 1 := ⟨sleft - 1, by omega⟩
              have hwk : IntKind.i64.wrap ((k2 : Int) - 1) = (k3 : Int) := by rw [IntWalk.i64_in _ (by omega)]; omega
              have hwl : IntKind.i64.wrap ((sleft : Int) - 1) = (left3 : Int) := by rw [IntWalk.i64_in _ (by omega)]; omega
              have hlow : left3 ≤ 10 ∧ k3 + (slegs.length + 1) ≤ 4 ∧ scur.pos + 2 + 2 * k3 ≤ 2000 ∧ k3 < k2 := by omega
              have HK3 := Lib.hid hk3
              have HL3 := Lib.hid hleft3
              clear hk3 hleft3 hbt'
              obtain ⟨u1, hu1e⟩ : ∃ u1, u1 = (if sat = 0 then (1 : Int) else sup) := ⟨_, rfl⟩
              go_upto_if 79 with fail
              go_cut [10] (fun sv wx => sv = .int .i64 u1 ∧ wx = wc)
              case first =>
                by_cases h1 : sat = 0
                · have hb : (sat == 0) = true := by simp [h1]
                  have hbe : Hid (u1 = 1) := by unfold Hid; rw [hu1e, if_pos h1]
                  clear hu1e h1
                  go_wp2_with fail
                  go_meet
                  exact ⟨by rw [hbe.out], rfl⟩
                · have hb : (sat == 0) = false := by simp [h1]
                  have hbe : Hid (u1 = sup) := by unfold Hid; rw [hu1e, if_neg h1]
                  clear hu1e h1
                  go_wp2_with fail
                  go_meet
                  exact ⟨by rw [hbe.out], rfl⟩
              case rest =>
              obtain ⟨rfl, rfl⟩ := hcut
              obtain ⟨u2, hu2e⟩ : ∃ u2, u2 = upC acc.length sat sup := ⟨_, rfl⟩
              have hu2f : u2 = if sat = (acc.length : Int) - 1 then 0 else u1 := by rw [hu2e, hu1e]; rfl
              go_upto_if 83 with fail
              go_cut [10] (fun sv wx => sv = .int .i64 u2 ∧ wx = wc)
              case first =>
                by_cases h1 : sat = (acc.length : Int) - 1
                · have hb : (sat == (acc.length : Int) - 1) = true := by simp [h1]
                  have hbe : Hid (u2 = 0) := by unfold Hid; rw [hu2f, if_pos h1]
                  clear hu2f hu2e hu1e h1
                  go_wp2_with fail
                  go_meet
                  exact ⟨by rw [hbe.out], rfl⟩
                · have hb : (sat == (acc.length : Int) - 1) = false := by simp [h1]
                  have hbe : Hid (u2 = u1) := by unfold Hid; rw [hu2f, if_neg h1]
                  clear hu2f hu2e hu1e h1
                  go_wp2_with fail
                  go_meet
                  exact ⟨by rw [hbe.out], rfl⟩
              case rest =>
              obtain ⟨rfl, rfl⟩ := hcut
              have hub : 0 ≤ u2 ∧ u2 ≤ 1 ∧ (sat = (acc.length : Int) - 1 → u2 = 0) ∧ (sat = 0 → u2 = 1) := by
                rw [hu2e]
                unfold upC
                by_cases e : sat = (acc.length : Int) - 1
                · rw [if_pos e]; omega
                · rw [if_neg e]
                  by_cases e2 : sat = 0
                  · rw [if_pos e2]; omega
                  · rw [if_neg e2]; omega
              obtain ⟨hub0, hub1, hub2, hub3⟩ := hub
              have hat : 0 ≤ sat + (2 * u2 - 1) ∧ sat + (2 * u2 - 1) ≤ 5 := by omega
              have HU2 := Lib.hid hu2e
              clear hu2e hu2f hu1e hub2 hub3
              go_wp2_with fail
              refine (HPK.out _ _ _ (30) DD (by omega) (by omega)).mono ?_
              rintro e w9 ⟨rfl, D9, C9⟩
              obtain ⟨c9, hc9⟩ : ∃ x, Hid ((pickC code (30) scur).2 = x) := ⟨_, rfl⟩
              obtain ⟨ra, hra⟩ : ∃ x, Hid ((pickC code (30) scur).1 = x) := ⟨_, rfl⟩
              have bra := pickC_bd HBy.out (30) scur
              rw [hc9.out] at D9
              rw [hra.out]
              rw [hc9.out, hra.out] at bra
              go_wp2_with fail
              refine (HPK.out _ _ _ (6) D9 (by omega) (by omega)).mono ?_
              rintro e w10 ⟨rfl, D10, C10⟩
              obtain ⟨c10, hc10⟩ : ∃ x, Hid ((pickC code (6) c9).2 = x) := ⟨_, rfl⟩
              obtain ⟨rb, hrb⟩ : ∃ x, Hid ((pickC code (6) c9).1 = x) := ⟨_, rfl⟩
              have brb := pickC_bd HBy.out (6) c9
              rw [hc10.out] at D10
              rw [hrb.out]
              rw [hc10.out, hrb.out] at brb
              have hC10 := (HC6.out.trans C9).trans C10
              have HV10 := Lib.hid (ownsRow_chg HVL.out (C9.trans C10) (fun g e => by omega))
              have hl : legC code acc.length ⟨sat, sup, ssum, slegs, sleft, scur⟩ = ⟨sat + (2 * u2 - 1), u2, ssum + ((1 + ra) + rb), slegs ++ [⟨sat + (2 * u2 - 1), 1 + ra, rb⟩], left3, c10⟩ := by
                simp only [legC, ← HU2.out, hc9.out, hra.out, hc10.out, hrb.out, HL3.out]
                simp
              have hLT2 : Hid (legsC code acc.length k3 ⟨sat + (2 * u2 - 1), u2, ssum + ((1 + ra) + rb), slegs ++ [⟨sat + (2 * u2 - 1), 1 + ra, rb⟩], left3, c10⟩ = legsC code acc.length (1 + kn) ⟨f, up, r, [], left, c8⟩) := by
                have h := HLT.out
                rw [HK3.out] at h
                simp only [legsC, HL3.out] at h
                rw [if_neg (by omega)] at h
                rw [← HL3.out, hl] at h
                exact h
              have hSO2 : Hid (LgOk acc.length f ⟨sat + (2 * u2 - 1), u2, ssum + ((1 + ra) + rb), slegs ++ [⟨sat + (2 * u2 - 1), 1 + ra, rb⟩], left3, c10⟩) := by unfold Hid; rw [← hl]; exact legC_ok HBy.out (by omega) HSO.out
              obtain ⟨z1, z2, z3⟩ := D10.at_ (g := w6.heap.size) (cs := #[.int .i64 f, .int .i64 r, .int .i64 0, .int .i64 (1 + wt), .slice AL slegs.length cL]) (t := 80) (by simp)
              have cb4 := z1 4
              have hN : slegs.length ≤ 1000000 := by omega
              clear C9 C10 D9 DD HC6 HVL HSO HLT hl z1
              go_wp2_with (at_builtin; refine app_any rfl _ _ 78 rfl (w6.heap.size + 1) 84 3 24 _ Try.underlying78 info84 rfl (by decide) _ _ _ rfl ((HV10.out.alloc _).alloc _) (by rw [alloc_size, alloc_size]; omega) _ _ #[.int .i64 (sat + (2 * u2 - 1)), .int .i64 (1 + ra), .int .i64 rb] _ rfl (heap_alloc2_new _ _ _) rfl (three_int _ _ _) hN (by decide) _ rfl ?_)
              intro g cap w11 hown hgrow hg hlt11
              have hlow6 : ∀ q, (Value.slice AL slegs.length cL).ownBlock = some q → w6.heap.size + 1 ≤ q := fun q hq => (World.ownsRow.lt HV10.out q hq).1
              have D11 := (D10.ext (((Ext.refl w10).alloc (.cells #[.int .i64 (sat + (2 * u2 - 1)), .int .i64 (1 + ra), .int .i64 rb] 84)).alloc (.cells #[.int .i64 (sat + (2 * u2 - 1)), .int .i64 (1 + ra), .int .i64 rb] 84))).grown hgrow (fun q hq => ⟨by have := hlow6 q hq; omega, by have := hlow6 q hq; exact far3' (by omega) (by omega) (by omega)⟩)
              have D12 := D11.set (far2 (by omega) (by omega)) 4 (.slice (some ⟨g, 0, none⟩) (slegs.length + 1) cap)
              have hg12 : g ≠ w6.heap.size := by have := (hown.lt g (ownBlock_slice _ _ _)).1; omega
              have HV12 := Lib.hid (ownsRow_set_far (g := w6.heap.size) hown (by rw [ownBlock_slice]; simp only [ne_eq, Option.some.injEq]; exact hg12) 4 (.slice (some ⟨g, 0, none⟩) (slegs.length + 1) cap))
              have HC12 := Lib.hid (((hC10.trans (Chg.of_ext (((Ext.refl w10).alloc (.cells #[.int .i64 (sat + (2 * u2 - 1)), .int .i64 (1 + ra), .int .i64 rb] 84)).alloc (.cells #[.int .i64 (sat + (2 * u2 - 1)), .int .i64 (1 + ra), .int .i64 rb] 84)))).grown hgrow (fun q hq => Or.inr (by have := hlow6 q hq; omega))).setCell (g := w6.heap.size) (Or.inr (Nat.le_refl _)) 4 (.slice (some ⟨g, 0, none⟩) (slegs.length + 1) cap))
              obtain ⟨y1, y2, y3⟩ := D11.at_ (g := w6.heap.size) (cs := #[.int .i64 f, .int .i64 r, .int .i64 0, .int .i64 (1 + wt), .slice AL slegs.length cL]) (t := 80) (by simp)
              have cb5 := y1 4
              clear hown hgrow hg hlt11 hlow6 D10 D11 hC10 HV10 z2 z3 cb4 y1
              go_wp2_with fail
              exact ⟨⟨k3, ⟨sat + (2 * u2 - 1), u2, ssum + ((1 + ra) + rb), slegs ++ [(⟨sat + (2 * u2 - 1), 1 + ra, rb⟩ : Leg)], left3, c10⟩, .slice (some ⟨g, 0, none⟩) (slegs.length + 1) cap, rfl, rfl, rfl, rfl, rfl, by simp only [List.length_append, List.length_singleton]; omega, by simp only []; omega, by simp only []; omega, hSO2.out, hLT2.out, legs_snoc HV12.out, HC12.out, D12⟩, by simp [intOf]; omega⟩
            | false =>
              have hfin : legsC code acc.length k2 ⟨sat, sup, ssum, slegs, sleft, scur⟩ = ⟨sat, sup, ssum, slegs, sleft, scur⟩ := by
                have hno : ¬ (0 < k2 ∧ 0 < sleft) := fun h => absurd (hbt'.2 h) (by decide)
                cases k2 with
                | zero => rfl
                | succ k2 => simp only [legsC]; rw [if_pos (by omega)]
              have HFIN := HLT.out
              rw [hfin] at HFIN
              have HFIN := Lib.hid HFIN
              clear hfin hbt' HLT
              go_wp2_with fail
              refine (HPK.out _ _ _ (20) DD (by omega) (by omega)).mono ?_
              rintro e w9 ⟨rfl, D9, C9⟩
              obtain ⟨c9, hc9⟩ : ∃ x, Hid ((pickC code (20) scur).2 = x) := ⟨_, rfl⟩
              obtain ⟨da, hda⟩ : ∃ x, Hid ((pickC code (20) scur).1 = x) := ⟨_, rfl⟩
              have bda := pickC_bd HBy.out (20) scur
              rw [hc9.out] at D9
              rw [hda.out]
              rw [hc9.out, hda.out] at bda
              go_wp2_with fail
              refine (HPK.out _ _ _ (8) D9 (by omega) (by omega)).mono ?_
              rintro e w10 ⟨rfl, D10, C10⟩
              obtain ⟨c10, hc10⟩ : ∃ x, Hid ((pickC code (8) c9).2 = x) := ⟨_, rfl⟩
              obtain ⟨db, hdb⟩ : ∃ x, Hid ((pickC code (8) c9).1 = x) := ⟨_, rfl⟩
              have bdb := pickC_bd HBy.out (8) c9
              rw [hc10.out] at D10
              rw [hdb.out]
              rw [hc10.out, hdb.out] at bdb
              have hC10 := (HC6.out.trans C9).trans C10
              have HV10 := Lib.hid (ownsRow_chg HVL.out (C9.trans C10) (fun g e => by omega))
              obtain ⟨z1, z2, z3⟩ := D10.at_ (g := w6.heap.size) (cs := #[.int .i64 f, .int .i64 r, .int .i64 0, .int .i64 (1 + wt), .slice AL slegs.length cL]) (t := 80) (by simp)
              have cb4 := z1 2
              obtain ⟨dv, hdv⟩ : ∃ dv, Hid (ssum + da - db = dv) := ⟨_, rfl⟩
              obtain ⟨due, hdue⟩ : ∃ due, Hid (due = (if dv < 0 then 0 else dv)) := ⟨_, rfl⟩
              clear C9 C10 D9 DD HC6 HVL z1
              go_upto_if 121 with fail
              have D11 := D10.set (far2 (by omega) (by omega)) 2 (.int .i64 (ssum + da - db))
              have hC11 := hC10.setCell (g := w6.heap.size) (Or.inr (Nat.le_refl _)) 2 (.int .i64 (ssum + da - db))
              have HV11 := Lib.hid (ownsRow_set_far (g := w6.heap.size) HV10.out (fun e => by have := (World.ownsRow.lt HV10.out _ e).1; omega) 2 (.int .i64 (ssum + da - db)))
              generalize w10.setCell ⟨w6.heap.size, 2, none⟩ (.int .i64 (ssum + da - db)) = w11 at D11 hC11 HV11 ⊢
              clear D10 hC10 HV10 z2 z3 cb4
              obtain ⟨z1, z2, z3⟩ := D11.at_ (g := w6.heap.size) (t := 80) (by simp; rfl)
              have cb4 := z1 2
              rw [hdv.out] at D11 cb4 ⊢
              go_cut [121] (fun sv wx => Dw w gc code A cA wx c10 [(w6.heap.size, #[.int .i64 f, .int .i64 r, .int .i64 due, .int .i64 (1 + wt), .slice AL slegs.length cL], 80), (w1.heap.size, #[.slice AT acc.length cT, .int .i64 gap, .slice A2 ts.length c2'], 33), (w.heap.size, #[.slice none 0 0, .int .i64 0, .slice none 0 0], 33)] ∧ Chg (fun g => g = gc) w6 wx ∧ wx.ownsRow (w6.heap.size + 1) 84 3 (.slice AL slegs.length cL) slegs.length (legCells slegs))
              case first =>
                have hdue := hdue.out
                by_cases hneg : dv < 0
                · have hb : decide (dv < 0) = true := by simp [hneg]
                  rw [if_pos hneg] at hdue
                  subst hdue
                  go_wp2_with fail
                  go_meet
                  exact ⟨D11.set (far2 (by omega) (by omega)) 2 (.int .i64 0), hC11.setCell (g := w6.heap.size) (Or.inr (Nat.le_refl _)) 2 (.int .i64 0), ownsRow_set_far (g := w6.heap.size) HV11.out (fun e => by have := (World.ownsRow.lt HV11.out _ e).1; omega) 2 (.int .i64 0)⟩
                · have hb : decide (dv < 0) = false := by simp [hneg]
                  rw [if_neg hneg] at hdue
                  subst hdue
                  go_wp2_with fail
                  go_meet
                  exact ⟨D11, hC11, HV11.out⟩
              case rest =>
              obtain ⟨DX, hCX, hVX⟩ := hcut
              have HVX := Lib.hid hVX
              clear D11 hC11 HV11 z1 z2 z3 cb4 hVX
              have HTX := Lib.hid (HTr6.out.keep hCX hgcB)
              have HOX := Lib.hid (ownsRow_chg HO6.out hCX hgcB)
              obtain ⟨z1, z2, z3⟩ := DX.at_ (g := w6.heap.size) (cs := #[.int .i64 f, .int .i64 r, .int .i64 due, .int .i64 (1 + wt), .slice AL slegs.length cL]) (t := 80) (by simp)
              obtain ⟨y1, y2, y3⟩ := DX.at_ (g := w1.heap.size) (cs := #[.slice AT acc.length cT, .int .i64 gap, .slice A2 ts.length c2']) (t := 33) (by simp)
              have e0 := z1 0
              have e1 := z1 1
              have e2 := z1 2
              have e3 := z1 3
              have e4 := z1 4
              have e5 := y1 2
              have hN : ts.length ≤ 1000000 := by omega
              clear z1 y1
              go_wp2_with (at_builtin; refine app_any rfl _ _ 31 rfl (w1.heap.size + 1) 80 5 56 _ Try.underlying31 info80 rfl (by decide) _ _ _ rfl (HTX.out.own.alloc _) (by rw [alloc_size]; omega) _ _ #[.int .i64 f, .int .i64 r, .int .i64 due, .int .i64 (1 + wt), .slice AL slegs.length cL] _ rfl (box_new _ _) rfl (tr_one _ _ _ _ _ _ _) hN (by decide) _ rfl ?_)
              intro g cap w12 hown hgrow hg hlt12
              have hlo2 : ∀ q, (Value.slice A2 ts.length c2').ownBlock = some q → w1.heap.size + 1 ≤ q ∧ q < w6.heap.size := HTr6.out.lt.1
              have hlo0 : ∀ q, (Value.slice AT acc.length cT).ownBlock = some q → w1.heap.size + 1 ≤ q ∧ q < w6.heap.size := fun q hq => World.ownsRow.lt HO6.out q hq
              have hloL : ∀ q, (Value.slice AL slegs.length cL).ownBlock = some q → w6.heap.size + 1 ≤ q := fun q hq => (World.ownsRow.lt HVX.out q hq).1
              have D12 := ((DX.ext ((Ext.refl wc).alloc (.cells #[.int .i64 f, .int .i64 r, .int .i64 due, .int .i64 (1 + wt), .slice AL slegs.length cL] 80))).grown hgrow (fun q hq => ⟨by have := hlo2 q hq; omega, by have := hlo2 q hq; exact far3' (by omega) (by omega) (by omega)⟩)).tail
              have D13 := D12.set (one1 (by omega)) 2 (.slice (some ⟨g, 0, none⟩) (ts.length + 1) cap)
              have hT12 : TrI w12 (w1.heap.size + 1) (ts ++ [⟨f, r, due, 1 + wt, slegs⟩]) (.slice (some ⟨g, 0, none⟩) (ts.length + 1) cap) (upd vl ts.length (.slice AL slegs.length cL)) := HTX.out.step (t := ⟨f, r, due, 1 + wt, slegs⟩) HVX.out (fun q h1 h2 => by have := hloL q h1; have := hlo2 q h2; omega) (by omega) rfl hgrow hown (hg.imp id (fun h => by rw [alloc_size]; exact h))
              have hT13 := Lib.hid (hT12.keep ((Chg.of_ext (S := fun g => g = w1.heap.size) (Ext.refl w12)).setCell (g := w1.heap.size) (Or.inl rfl) 2 (.slice (some ⟨g, 0, none⟩) (ts.length + 1) cap)) (fun g e => by omega))
              have hO13 := Lib.hid (ownsRow_set_far (g := w1.heap.size) (World.ownsRow.kept (HOX.out.alloc (.cells #[.int .i64 f, .int .i64 r, .int .i64 due, .int .i64 (1 + wt), .slice AL slegs.length cL] 80)) hgrow (by
                cases hk : (Value.slice AT acc.length cT).ownBlock with
                | none => exact Or.inl rfl
                | some q => exact Or.inr (fun e => HAp.out q e.symm hk))) (fun e => by have := hlo0 _ e; omega) 2 (.slice (some ⟨g, 0, none⟩) (ts.length + 1) cap))
              have hAp13 : Hid (∀ q, (Value.slice (some ⟨g, 0, none⟩) (ts.length + 1) cap).ownBlock = some q → (Value.slice AT acc.length cT).ownBlock ≠ some q) := fun q hq h0 => by
                rw [ownBlock_slice] at hq
                simp only [Option.some.injEq] at hq
                subst hq
                rcases hg with h | h
                · exact HAp.out _ h h0
                · have := hlo0 _ h0
                  have := y2
                  omega
              have hTC : trainC code acc.length left cc = (⟨f, r, due, 1 + wt, slegs⟩, sleft, c10) := by
                have hh : headC code acc.length left cc = (1 + wt, 1 + (kn : Int), ⟨f, up, r, [], left, c8⟩) := by
                  unfold headC
                  rw [hc4.out, hf.out, hc5.out, hr.out, hc6.out, hwt.out, hc7.out, hup.out, hc8.out, hkn.out]
                unfold trainC
                rw [hh]
                simp only []
                rw [show ((1 : Int) + (kn : Int)).toNat = 1 + kn by omega, ← HFIN.out]
                unfold tailC dueC
                simp only []
                rw [hc9.out, hda.out, hc10.out, hdb.out, hdv.out, ← hdue.out, hf.out, hc4.out, hr.out]
              have hto := trainC_ok HBy.out (n := acc.length) (by omega) hlf hl0 cc
              rw [hTC] at hto
              obtain ⟨tD, tlen, tpos⟩ := hto
              have tsome := tD.ok.some_
              simp only [] at tlen tpos tsome
              have hTT : Hid (trainsC code acc.length (5 - (ts ++ [(⟨f, r, due, 1 + wt, slegs⟩ : Train)]).length) (ts ++ [⟨f, r, due, 1 + wt, slegs⟩]) sleft c10 = trainsC code acc.length 5 [] (2 + m0) c3) := by
                have h := HT.out
                rw [show 5 - ts.length = (4 - ts.length) + 1 by omega] at h
                rw [trainsC_go (by omega), hTC] at h
                unfold Hid
                rw [← h, List.length_append, List.length_singleton, show 5 - (ts.length + 1) = 4 - ts.length by omega]
              obtain ⟨q1, q2, q3⟩ := D12.at_ (g := w1.heap.size) (cs := #[.slice AT acc.length cT, .int .i64 gap, .slice A2 ts.length c2']) (t := 33) (by simp)
              have cb6 := q1 2
              clear hown hgrow hg hlt12 hlo2 hlo0 hloL DX D12 hCX hT12 hTC tD HT HTX HOX HVX HTr6 HO6 HAp q1 z2 z3 y2 y3 e0 e1 e2 e3 e4 e5
              go_wp2_with fail
              exact ⟨⟨sleft, ts ++ [(⟨f, r, due, 1 + wt, slegs⟩ : Train)], .slice (some ⟨g, 0, none⟩) (ts.length + 1) cap, upd vl ts.length (.slice AL slegs.length cL), c10, rfl, by omega, by rw [List.length_append, List.length_singleton]; omega, by rw [List.length_append, List.length_singleton]; omega, hTT.out, hT13.out, hO13.out, hAp13.out, D13⟩, by simp [intOf]; omega⟩
        | false =>
          have hres : trainsC code acc.length (5 - ts.length) ts left cc = (ts, cc) := by
            have hno : ¬ (0 < left ∧ ts.length < 5) := fun h => absurd (hbt2'.2 h) (by decide)
            by_cases e : ts.length < 5
            · rw [show 5 - ts.length = (4 - ts.length) + 1 by omega]
              simp only [trainsC]
              rw [if_pos (by omega)]
            · rw [show 5 - ts.length = 0 by omega]
              rfl
          have hend := HT.out
          rw [hres] at hend
          have hline : lineC code most c = ⟨acc, gap, ts⟩ := by
            have hfront : frontC code most c = (gap, acc, 2 + m0, c3) := by
              unfold frontC
              rw [hc1.out, hgap.out, hc2.out, hk0.out, show ((2 : Int) + (k0 : Int)).toNat = 2 + k0 by omega, hTE.out]
              simp only []
              rw [hc3.out, hm0'.out, show ((2 : Int) + (m0 : Int)).toNat = 2 + m0 by omega]
            unfold lineC
            rw [hfront]
            simp only []
            rw [← hend]
          have HLN := Lib.hid hline
          obtain ⟨y1, y2, y3⟩ := DD.at_ (g := w.heap.size) (cs := #[.slice none 0 0, .int .i64 0, .slice none 0 0]) (t := 33) (by simp)
          have f0 := z1 0
          have f1 := z1 1
          have f2 := z1 2
          have x0 := y1 0
          have x1 := y1 1
          have x2 := y1 2
          have hne : w.heap.size ≠ w1.heap.size := by omega
          have HTrl := HTr.out.lt
          clear hres hend hline hbt2' y1 z1
          go_wp2_with fail
          refine bodyPost_ret (v := .agg #[.slice AT acc.length cT, .int .i64 gap, .slice A2 ts.length c2']) (by simp [results, Try.results82, go_sem, x0, x1, x2, y2, y3]) rfl ⟨_, rfl, ?_, ?_⟩
          · rw [HLN.out]
            refine ⟨_, _, vl, rfl, ?_, ?_⟩
            · exact ownsRow_mono (ownsRow_set_far (ownsRow_set_far (ownsRow_set_far HO.out (fun e => by have := (World.ownsRow.lt HO.out _ e).1; omega) _ _) (fun e => by have := (World.ownsRow.lt HO.out _ e).1; omega) _ _) (fun e => by have := (World.ownsRow.lt HO.out _ e).1; omega) _ _) (by omega)
            · have hC : Chg (fun g => g = w.heap.size) wc (((wc.setCell ⟨w.heap.size, 0, none⟩ (.slice AT acc.length cT)).setCell ⟨w.heap.size, 1, none⟩ (.int .i64 gap)).setCell ⟨w.heap.size, 2, none⟩ (.slice A2 ts.length c2')) := (((Chg.of_ext (S := fun g => g = w.heap.size) (Ext.refl wc)).setCell (Or.inl rfl) _ _).setCell (Or.inl rfl) _ _).setCell (Or.inl rfl) _ _
              have h := HTr.out.keep hC (fun g e => by omega)
              exact ⟨ownsRow_mono h.own (by omega), fun i hi => ownsRow_mono (h.legs i hi) (by omega), h.far⟩
          · exact ((DD.chg.setCell (Or.inr (Nat.le_refl _)) _ _).setCell (Or.inr (Nat.le_refl _)) _ _).setCell (Or.inr (Nat.le_refl _)) _ _
end Go.Proofs.Ythhkbfjolmgloaa
