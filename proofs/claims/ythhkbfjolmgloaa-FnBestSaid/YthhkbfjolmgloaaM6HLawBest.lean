/- laws.FnBest answers true, at every pair of codes. No condition. (The walk; the row stands in a text behind.) -/
import Derived.Test.YthhkbfjolmgloaaMHSolveI
import Derived.Test.YthhkbfjolmgloaaML17a
import Derived.Test.YthhkbfjolmgloaaMHSpecCheck
import Derived.Test.YthhkbfjolmgloaaMHCost
import Derived.Test.YthhkbfjolmgloaaML9a
import Derived.Test.YthhkbfjolmgloaaM4La
import Derived.Test.YthhkbfjolmgloaaM2L17a
import Derived.Test.YthhkbfjolmgloaaM5L17a
import Derived.Test.YthhkbfjolmgloaaM6L7a
import Derived.Test.YthhkbfjolmgloaaM3L17a
import Derived.Test.YthhkbfjolmgloaaM2L13a
import Derived.Deep.DeepCutAuto
import Derived.Deep.RegionHeld3
namespace Go.Proofs.Ythhkbfjolmgloaa
open Go.RowKit Go.Deep
set_option linter.unusedVariables false
set_option linter.unusedSimpArgs false
theorem best_facts {l : Line} {code : Bool} {c : Int} {b : List (List Int)} (O : Ok l) (h : bestR (solveR l) = ((code, c), b)) :
    (code = false → ∀ p, ¬ Can l p) ∧ (code = true → Can l b ∧ ∀ p, Can l p → c ≤ costF l p ∧ (c = costF l p → cmpP l p b ≠ .lt)) := by
  unfold solveR at h
  rw [if_pos (right_iff.2 O)] at h
  cases hs : solveA l id with
  | none =>
    rw [hs] at h
    cases h
    exact ⟨fun _ => solve_none O O.sum10 (fl := id) (fun x _ => Int.le_refl x) hs, fun h => (by cases h)⟩
  | some cb =>
    obtain ⟨c', b'⟩ := cb
    rw [hs] at h
    cases h
    exact ⟨fun h => (by cases h), fun _ => ⟨(solve_some O O.sum10 (fl := id) (fun x _ => Int.le_refl x) hs).1, fun p C => best_le O (fl := id) (fun x _ => Int.le_refl x) hs C⟩⟩
theorem wByte_z {w : World} {xs : List Int} {A : Option Addr} {cA : Nat} {k : Nat} {z : Int} (hz : z = (k : Int)) (hB : RdByte w A xs) (By : Bytes xs) (hn : xs.length ≤ 1048576) (hk : k ≤ 1000) :
    Calls Try.prog 63 #[.slice A xs.length cA, .int .i64 z] w fun e w' => e = .returned (.int .i64 (byteW xs k)) ∧ w' = w := by subst hz; exact wByte_q hB By hn hk
theorem rdByte_box {w : World} {g : Nat} {a b c d e f : Int} {T : TypeId} (h : w.heap[g]? = some (.cells #[.int .u8 a, .int .u8 b, .int .u8 c, .int .u8 d, .int .u8 e, .int .u8 f] T (0, 0))) : RdByte w (some ⟨g, 0, none⟩) [a, b, c, d, e, f] := fun j x hx => by
  refine ⟨g, 0, rfl, box_lt h, ?_⟩
  have hj : j < 6 := lt_of_some hx
  have h6 : j = 0 ∨ j = 1 ∨ j = 2 ∨ j = 3 ∨ j = 4 ∨ j = 5 := by omega
  rcases h6 with rfl | rfl | rfl | rfl | rfl | rfl <;> (simp at hx; subst hx; exact box_cell h _)
theorem bytes6 {a b c d e f : Int} (ha : 0 ≤ a ∧ a ≤ 255) (hb : 0 ≤ b ∧ b ≤ 255) (hc : 0 ≤ c ∧ c ≤ 255) (hd : 0 ≤ d ∧ d ≤ 255) (he : 0 ≤ e ∧ e ≤ 255) (hf : 0 ≤ f ∧ f ≤ 255) : Bytes [a, b, c, d, e, f] := fun j x hx => by
  have hj : j < 6 := lt_of_some hx
  have h6 : j = 0 ∨ j = 1 ∨ j = 2 ∨ j = 3 ∨ j = 4 ∨ j = 5 := by omega
  rcases h6 with rfl | rfl | rfl | rfl | rfl | rfl <;> (simp at hx; subst hx; assumption)
theorem held_ext {wk W W' : World} {g1 g2 : Nat} {c1 c2 : Array Value} (h : Ext wk W ∧ (∀ j, W.cell? ⟨g1, j, none⟩ = c1[j]?) ∧ g1 < W.heap.size ∧ (∀ j, W.cell? ⟨g2, j, none⟩ = c2[j]?) ∧ g2 < W.heap.size) (e : Ext W W') : Ext wk W' ∧ (∀ j, W'.cell? ⟨g1, j, none⟩ = c1[j]?) ∧ g1 < W'.heap.size ∧ (∀ j, W'.cell? ⟨g2, j, none⟩ = c2[j]?) ∧ g2 < W'.heap.size :=
  ⟨h.1.trans e, fun j => (e.cells.1 _ _ h.2.2.1).trans (h.2.1 j), e.up _ h.2.2.1, fun j => (e.cells.1 _ _ h.2.2.2.2).trans (h.2.2.2.1 j), e.up _ h.2.2.2.2⟩
theorem isPlan_mk' {w : World} {p : List (List Int)} {A : Option Addr} {c : Nat} (h : RdRows w A p) : IsPlan w p (.agg #[.slice A p.length c]) := ⟨A, c, rfl, h⟩
set_option maxRecDepth 100000 in
set_option maxHeartbeats 8000000 in
theorem lawBest_any {w : World} {xs ys : List Int} {A1 A4 : Option Addr} {c1 c4 : Nat} (hA : RdByte w A1 xs) (hA0 : ∀ b o, A1 = some ⟨b, o, none⟩ → b < w.heap.size) (hAB : Bytes xs) (hB : RdByte w A4 ys) (hB0 : ∀ b o, A4 = some ⟨b, o, none⟩ → b < w.heap.size) (hBB : Bytes ys) :
    Calls Try.prog 17 #[.slice A1 xs.length c1, .slice A4 ys.length c4] w fun e w' => e = .returned (.bool true) ∧ Ext w w' := by
  have HB := Lib.hid (fun (W : World) (e : Ext w W) => hB.ext e)
  clear hB hB0
  by_cases hn : xs.length ≤ 1048576
  · have hd0 : decide ((1048576 : Int) < (xs.length : Int)) = false := by simp; omega
    by_cases hm : ys.length ≤ 1048576
    · have hd1 : decide ((1048576 : Int) < (ys.length : Int)) = false := by simp; omega
      go_enter Try.func17, Try.ntmps17
      go_wp2_with fail
      refine (lines_any (most := 7) (hA.ext (by repeat (first | (with_reducible assumption) | (with_reducible exact Ext.refl _) | apply Ext.alloc | apply Ext.drewN | apply Ext.drew))) (fun b o e => by have := hA0 b o e; (first | exact this | (simp only [World.heap_drewN]; exact this))) hAB hn (by omega) (by omega)).mono ?_
      rintro e w1 ⟨v, rfl, hO, hE⟩
      obtain ⟨l, hl⟩ : ∃ l, Hid (drawLine xs 7 = l) := ⟨_, rfl⟩
      have O : Ok l := by rw [← hl.out]; exact (drawLine_ok hAB (by omega) (by omega)).ok
      rw [hl.out] at hO
      obtain ⟨A0, c0, A2, c2, rfl, h0, h2⟩ := hO.rd
      have HL1 : Hid (∀ W, Ext w1 W → IsLine W l (.agg #[.slice A0 l.tracks.length c0, .int .i64 l.gap, .slice A2 l.trains.length c2])) := fun W e => hO.rd.ext e
      have hX1 : Ext w w1 := Ext.trans (by repeat (first | (with_reducible assumption) | (with_reducible exact Ext.refl _) | apply Ext.alloc | apply Ext.drewN | apply Ext.drew)) hE
      clear hO h0 h2 hE
      have HO := Lib.hid O
      have HSZ := O.size_le4
      obtain ⟨r, hr⟩ : ∃ r, Hid (bestR (solveR l) = r) := ⟨_, rfl⟩
      obtain ⟨⟨code, at_⟩, p0⟩ := r
      obtain ⟨hbf, hbt⟩ := best_facts O hr.out
      have HBF := Lib.hid hbf
      have HBT := Lib.hid hbt
      have hsm := solveR_small l
      rw [hr.out] at hsm
      obtain ⟨hp5, hrl0⟩ := hsm
      simp only [] at hp5 hrl0
      have HLEN0 : Hid (∀ (i : Nat) (t : List Int), p0[i]? = some t → t.length ≤ 10) := fun i t ht => by
        have h := hrl0 i
        unfold rl at h
        rw [List.getD_eq_getElem?_getD, ht] at h
        simp only [Option.getD_some] at h
        omega
      clear hbf hbt hrl0 O
      have hS := (Lp.of_ext hX1).new #[.slice A0 l.tracks.length c0, .int .i64 l.gap, .slice A2 l.trains.length c2] 33
      obtain ⟨k1, k2, k3, k4⟩ := hS.open1
      go_wp2_with fail
      refine (impl_Solve_any (HL1.out _ (by repeat (first | (with_reducible assumption) | (with_reducible exact Ext.refl _) | apply Ext.alloc | apply Ext.drewN | apply Ext.drew))) HSZ).mono ?_
      rintro e w2 ⟨⟨AR, cR, gr, vs, rfl, hP⟩, hE⟩
      rw [hr.out] at hP ⊢
      simp only [] at hP
      simp only [bestV]
      have hX : Ext w1 w2 := Ext.trans (by repeat (first | (with_reducible assumption) | (with_reducible exact Ext.refl _) | apply Ext.alloc | apply Ext.drewN | apply Ext.drew)) hE
      have hT := (hS.trans (Ext.trans (by repeat (first | (with_reducible assumption) | (with_reducible exact Ext.refl _) | apply Ext.alloc | apply Ext.drewN | apply Ext.drew)) hE)).new #[.bool code, .int .i64 at_, .slice AR p0.length cR] 44
      have HP2 := Lib.hid (fun (W : World) (e : Ext w2 W) => hP.rd.ext e)
      have HL2 : Hid (∀ W, Ext w2 W → IsLine W l (.agg #[.slice A0 l.tracks.length c0, .int .i64 l.gap, .slice A2 l.trains.length c2])) := fun W e => HL1.out W (hX.trans e)
      clear hE hX hP k1 k2 k3 k4 hS HL1 hA hA0
      have hS := hT; clear hT
      go_upto_region 5 with fail
      have hXc : Ext w2 (w2.alloc (.cells #[.bool code, .int .i64 at_, .slice AR p0.length cR] 44)) := (by repeat (first | (with_reducible assumption) | (with_reducible exact Ext.refl _) | apply Ext.alloc | apply Ext.drewN | apply Ext.drew))
      generalize w2.alloc (.cells #[.bool code, .int .i64 at_, .slice AR p0.length cR] 44) = wk at hS hXc ⊢
      have hXw := hS.ext
      have HPk := Lib.hid (fun (W : World) (e : Ext wk W) => HP2.out W (hXc.trans e))
      have HLk : Hid (∀ W, Ext wk W → IsLine W l (.agg #[.slice A0 l.tracks.length c0, .int .i64 l.gap, .slice A2 l.trains.length c2])) := fun W e => HL2.out W (hXc.trans e)
      have HBk := Lib.hid (fun (W : World) (e : Ext wk W) => HB.out W (hXw.trans e))
      have hSk : Lp wk wk [(w2.heap.size, #[.bool code, .int .i64 at_, .slice AR p0.length cR], 44), (w1.heap.size, #[.slice A0 l.tracks.length c0, .int .i64 l.gap, .slice A2 l.trains.length c2], 33)] := ((Lp.nil wk).add (hS.box (w1.heap.size, #[.slice A0 l.tracks.length c0, .int .i64 l.gap, .slice A2 l.trains.length c2], 33) (by simp))).add (hS.box (w2.heap.size, #[.bool code, .int .i64 at_, .slice AR p0.length cR], 44) (by simp))
      clear HP2 HL2 HB hS hXc
      go_wp2_with fail
      go_loopw [7] (fun j wr => ∃ (kk : Nat), kk ≤ 6 ∧ j = .int .i64 kk ∧ Lp wk wr [(w2.heap.size, #[.bool code, .int .i64 at_, .slice AR p0.length cR], 44), (w1.heap.size, #[.slice A0 l.tracks.length c0, .int .i64 l.gap, .slice A2 l.trains.length c2], 33)]) (fun j _ => 6 - (intOf j).toNat)
      case atStart => exact ⟨0, Nat.zero_le _, rfl, hSk⟩
      case round =>
        clear hSk
        obtain ⟨kk, hkk, rfl, hS⟩ := hrel
        obtain ⟨k1, k2, k3, k4, k5, k6⟩ := hS.open2
        by_cases hlt : kk < 6
        · have hd : decide ((kk : Int) < 6) = true := decide_eq_true (by omega)
          obtain ⟨e0, he0⟩ : ∃ x, Hid (byteW ys (kk + 0) = x) := ⟨_, rfl⟩
          obtain ⟨e1, he1⟩ : ∃ x, Hid (byteW ys (kk + 1) = x) := ⟨_, rfl⟩
          obtain ⟨e2, he2⟩ : ∃ x, Hid (byteW ys (kk + 2) = x) := ⟨_, rfl⟩
          obtain ⟨e3, he3⟩ : ∃ x, Hid (byteW ys (kk + 3) = x) := ⟨_, rfl⟩
          have b0 := byteW_bd hBB (kk + 0)
          have b1 := byteW_bd hBB (kk + 1)
          have b2 := byteW_bd hBB (kk + 2)
          have b3 := byteW_bd hBB (kk + 3)
          rw [he0.out] at b0
          rw [he1.out] at b1
          rw [he2.out] at b2
          rw [he3.out] at b3
          have hBy6 : Bytes [e0, e1, 3 * (kk : Int), e2, e3, (kk : Int)] := bytes6 b0 b1 (by omega) b2 b3 (by omega)
          have v1 : IntKind.i64.wrap ((kk : Int) + 1) = (kk : Int) + 1 := IntWalk.i64_in _ (by omega)
          have v2 : IntKind.i64.wrap ((kk : Int) + 2) = (kk : Int) + 2 := IntWalk.i64_in _ (by omega)
          have v3 : IntKind.i64.wrap ((kk : Int) + 3) = (kk : Int) + 3 := IntWalk.i64_in _ (by omega)
          have v4 : IntKind.i64.wrap (3 * (kk : Int)) = 3 * (kk : Int) := IntWalk.i64_in _ (by omega)
          have u0 : IntKind.u8.wrap e0 = e0 := IntWalk.u8_in _ (by omega)
          have u1 : IntKind.u8.wrap e1 = e1 := IntWalk.u8_in _ (by omega)
          have u2 : IntKind.u8.wrap e2 = e2 := IntWalk.u8_in _ (by omega)
          have u3 : IntKind.u8.wrap e3 = e3 := IntWalk.u8_in _ (by omega)
          have u4 : IntKind.u8.wrap (3 * (kk : Int)) = 3 * (kk : Int) := IntWalk.u8_in _ (by omega)
          have u5 : IntKind.u8.wrap (kk : Int) = (kk : Int) := IntWalk.u8_in _ (by omega)
          have LP := hS.drew
          clear k1 k2 k3 k4 k5 k6
          go_upto_region 8 with fail
          go_cut [8] (fun s wx => ∃ (g8 : Nat) (p : List (List Int)) (AP : Option Addr) (cP : Nat), s = .pointer (some ⟨g8, 0, none⟩) ∧ wx.heap[g8]? = some (.cells #[.slice AP p.length cP] 42 (0, 0)) ∧ RdRows wx AP p ∧ p.length ≤ 5 ∧ (∀ i, rl p i ≤ 10) ∧ Lp wk wx [(w2.heap.size, #[.bool code, .int .i64 at_, .slice AR p0.length cR], 44), (w1.heap.size, #[.slice A0 l.tracks.length c0, .int .i64 l.gap, .slice A2 l.trains.length c2], 33)])
          case first =>
            refine wp_region_held_drew (S := Cells3 w1.heap.size (.slice A0 l.tracks.length c0) (.int .i64 l.gap) (.slice A2 l.trains.length c2)) (by kernel_rfl) (lp_c3 LP (by simp)) (fun hS0 => ?_)
            generalize wr.drew = wd at LP hS0 ⊢
            refine wpAnyH_take (i := 0) (oi := _) (v := ?_) rfl (by kernel_rfl) (by kernel_rfl) (by kernel_rfl) (fun _ _ _ h => h) (Or.inl ⟨by rfl, ?_⟩) (by assumption) ?_
            rotate_left 1
            · intro w hSw
              obtain ⟨hs1, hs2, hs3, hs4⟩ := hSw
              go_simp
              try with_reducible rfl
            try simp only [Act.put, List.setIfInBounds_toArray, List.set_cons_zero, List.set_cons_succ]
            refine wpAnyH_take (i := 1) (oi := _) (v := ?_) rfl (by kernel_rfl) (by kernel_rfl) (by kernel_rfl) (fun _ _ _ h => h) (Or.inl ⟨by rfl, ?_⟩) (by assumption) ?_
            rotate_left 1
            · intro w hSw
              obtain ⟨hs1, hs2, hs3, hs4⟩ := hSw
              go_simp
              try with_reducible rfl
            try simp only [Act.put, List.setIfInBounds_toArray, List.set_cons_zero, List.set_cons_succ]
            refine wpAnyH_take (i := 2) (oi := _) (v := ?_) rfl (by kernel_rfl) (by kernel_rfl) (by kernel_rfl) (fun _ _ _ h => h) (Or.inl ⟨by rfl, ?_⟩) (by assumption) ?_
            rotate_left 1
            · intro w hSw
              obtain ⟨hs1, hs2, hs3, hs4⟩ := hSw
              go_simp
              try with_reducible rfl
            try simp only [Act.put, List.setIfInBounds_toArray, List.set_cons_zero, List.set_cons_succ]
            refine wpAnyH_take (i := 5) (oi := _) (v := ?_) rfl (by kernel_rfl) (by kernel_rfl) (by kernel_rfl) (fun _ _ _ h => h) (Or.inl ⟨by rfl, ?_⟩) (by assumption) ?_
            rotate_left 1
            · intro w hSw
              obtain ⟨hs1, hs2, hs3, hs4⟩ := hSw
              go_simp
              try with_reducible rfl
            try simp only [Act.put, List.setIfInBounds_toArray, List.set_cons_zero, List.set_cons_succ]
            refine wpAnyH_take (i := 6) (oi := _) (v := ?_) rfl (by kernel_rfl) (by kernel_rfl) (by kernel_rfl) (fun _ _ _ h => h) (Or.inl ⟨by rfl, ?_⟩) (by assumption) ?_
            rotate_left 1
            · intro w hSw
              obtain ⟨hs1, hs2, hs3, hs4⟩ := hSw
              go_simp
              try with_reducible rfl
            try simp only [Act.put, List.setIfInBounds_toArray, List.set_cons_zero, List.set_cons_succ]
            refine wpAnyH_take (i := 7) (oi := _) (v := ?_) rfl (by kernel_rfl) (by kernel_rfl) (by kernel_rfl) (fun _ _ _ h => h) (Or.inl ⟨by rfl, ?_⟩) (by assumption) ?_
            rotate_left 1
            · intro w hSw
              obtain ⟨hs1, hs2, hs3, hs4⟩ := hSw
              go_simp
              try with_reducible rfl
            try simp only [Act.put, List.setIfInBounds_toArray, List.set_cons_zero, List.set_cons_succ]
            refine wpAnyH_take (i := 10) (oi := _) (v := ?_) rfl (by kernel_rfl) (by kernel_rfl) (by kernel_rfl) (fun _ _ _ h => h) (Or.inl ⟨by rfl, ?_⟩) (by assumption) ?_
            rotate_left 1
            · intro w hSw
              obtain ⟨hs1, hs2, hs3, hs4⟩ := hSw
              go_simp
              try with_reducible rfl
            try simp only [Act.put, List.setIfInBounds_toArray, List.set_cons_zero, List.set_cons_succ]
            refine wpAnyH_take (i := 11) (oi := _) (v := ?_) rfl (by kernel_rfl) (by kernel_rfl) (by kernel_rfl) (fun _ _ _ h => h) (Or.inl ⟨by rfl, ?_⟩) (by assumption) ?_
            rotate_left 1
            · intro w hSw
              obtain ⟨hs1, hs2, hs3, hs4⟩ := hSw
              go_simp
              try with_reducible rfl
            try simp only [Act.put, List.setIfInBounds_toArray, List.set_cons_zero, List.set_cons_succ]
            refine wpAnyH_take (i := 12) (oi := _) (v := ?_) rfl (by kernel_rfl) (by kernel_rfl) (by kernel_rfl) (fun _ _ _ h => h) (Or.inl ⟨by rfl, ?_⟩) (by assumption) ?_
            rotate_left 1
            · intro w hSw
              obtain ⟨hs1, hs2, hs3, hs4⟩ := hSw
              go_simp
              try with_reducible rfl
            try simp only [Act.put, List.setIfInBounds_toArray, List.set_cons_zero, List.set_cons_succ]
            refine wpAnyH_take (i := 13) (oi := _) (v := ?_) rfl (by kernel_rfl) (by kernel_rfl) (by kernel_rfl) (fun _ _ _ h => h) (Or.inl ⟨by rfl, ?_⟩) (by assumption) ?_
            rotate_left 1
            · intro w hSw
              obtain ⟨hs1, hs2, hs3, hs4⟩ := hSw
              go_simp
              try with_reducible rfl
            try simp only [Act.put, List.setIfInBounds_toArray, List.set_cons_zero, List.set_cons_succ]
            refine wpAnyH_take (i := 14) (oi := _) (v := ?_) rfl (by kernel_rfl) (by kernel_rfl) (by kernel_rfl) (fun _ _ _ h => h) (Or.inl ⟨by rfl, ?_⟩) (by assumption) ?_
            rotate_left 1
            · intro w hSw
              obtain ⟨hs1, hs2, hs3, hs4⟩ := hSw
              go_simp
              try with_reducible rfl
            try simp only [Act.put, List.setIfInBounds_toArray, List.set_cons_zero, List.set_cons_succ]
            refine wpAnyH_take (i := 15) (oi := _) (v := ?_) rfl (by kernel_rfl) (by kernel_rfl) (by kernel_rfl) (fun _ _ _ h => h) (Or.inl ⟨by rfl, ?_⟩) (by assumption) ?_
            rotate_left 1
            · intro w hSw
              obtain ⟨hs1, hs2, hs3, hs4⟩ := hSw
              go_simp
              try with_reducible rfl
            try simp only [Act.put, List.setIfInBounds_toArray, List.set_cons_zero, List.set_cons_succ]
            refine wpAnyH_take (i := 18) (oi := _) (v := ?_) rfl (by kernel_rfl) (by kernel_rfl) (by kernel_rfl) (fun _ _ _ h => h) (Or.inl ⟨by rfl, ?_⟩) (by assumption) ?_
            rotate_left 1
            · intro w hSw
              obtain ⟨hs1, hs2, hs3, hs4⟩ := hSw
              go_simp
              try with_reducible rfl
            try simp only [Act.put, List.setIfInBounds_toArray, List.set_cons_zero, List.set_cons_succ]
            refine wpAnyH_take (i := 19) (oi := _) (v := ?_) rfl (by kernel_rfl) (by kernel_rfl) (by kernel_rfl) (fun _ _ _ h => h) (Or.inl ⟨by rfl, ?_⟩) (by assumption) ?_
            rotate_left 1
            · intro w hSw
              obtain ⟨hs1, hs2, hs3, hs4⟩ := hSw
              go_simp
              try with_reducible rfl
            try simp only [Act.put, List.setIfInBounds_toArray, List.set_cons_zero, List.set_cons_succ]
            refine wpAnyH_take (i := 20) (oi := _) (v := ?_) rfl (by kernel_rfl) (by kernel_rfl) (by kernel_rfl) (fun _ _ _ h => h) (Or.inl ⟨by rfl, ?_⟩) (by assumption) ?_
            rotate_left 1
            · intro w hSw
              obtain ⟨hs1, hs2, hs3, hs4⟩ := hSw
              go_simp
              try with_reducible rfl
            try simp only [Act.put, List.setIfInBounds_toArray, List.set_cons_zero, List.set_cons_succ]
            refine wpAnyH_take (i := 23) (oi := _) (v := ?_) rfl (by kernel_rfl) (by kernel_rfl) (by kernel_rfl) (fun _ _ _ h => h) (Or.inl ⟨by rfl, ?_⟩) (by assumption) ?_
            rotate_left 1
            · intro w hSw
              obtain ⟨hs1, hs2, hs3, hs4⟩ := hSw
              go_simp
              try with_reducible rfl
            try simp only [Act.put, List.setIfInBounds_toArray, List.set_cons_zero, List.set_cons_succ]
            refine wpAnyH_take (i := 24) (oi := _) (v := ?_) rfl (by kernel_rfl) (by kernel_rfl) (by kernel_rfl) (fun _ _ _ h => h) (Or.inl ⟨by rfl, ?_⟩) (by assumption) ?_
            rotate_left 1
            · intro w hSw
              obtain ⟨hs1, hs2, hs3, hs4⟩ := hSw
              go_simp
              try with_reducible rfl
            try simp only [Act.put, List.setIfInBounds_toArray, List.set_cons_zero, List.set_cons_succ]
            refine wpAnyH_ready (rs := [3, 27]) (by kernel_rfl) (by simp) ?_
            refine AllReadyH.cons rfl (fun K hK => ?_) ?_
            · go_simp
              go_at_call 63
              refine (wByte_z (k := kk + 0) (by omega) (HBk.out _ LP.ext) hBB hm (by omega)).mono ?_
              rintro e w9 ⟨rfl, hw9⟩
              rw [hw9, he0.out]
              clear hw9 w9
              go_wp2_with fail
              refine hK.out _ _ (lp_c3 LP (by simp)) (fun _ => ?_)
              clear hK K
              refine wpAnyH_take (i := 4) (oi := _) (v := ?_) rfl (by kernel_rfl) (by kernel_rfl) (by kernel_rfl) (fun _ _ _ h => h) (Or.inl ⟨by rfl, ?_⟩) (by assumption) ?_
              rotate_left 1
              · intro w hSw
                obtain ⟨hs1, hs2, hs3, hs4⟩ := hSw
                go_simp
                try with_reducible rfl
              try simp only [Act.put, List.setIfInBounds_toArray, List.set_cons_zero, List.set_cons_succ]
              refine wpAnyH_ready (rs := [8, 27]) (by kernel_rfl) (by simp) ?_
              refine AllReadyH.cons rfl (fun K hK => ?_) ?_
              · go_simp
                go_at_call 63
                refine (wByte_z (k := kk + 1) (by omega) (HBk.out _ LP.ext) hBB hm (by omega)).mono ?_
                rintro e w9 ⟨rfl, hw9⟩
                rw [hw9, he1.out]
                clear hw9 w9
                go_wp2_with fail
                refine hK.out _ _ (lp_c3 LP (by simp)) (fun _ => ?_)
                clear hK K
                refine wpAnyH_take (i := 9) (oi := _) (v := ?_) rfl (by kernel_rfl) (by kernel_rfl) (by kernel_rfl) (fun _ _ _ h => h) (Or.inl ⟨by rfl, ?_⟩) (by assumption) ?_
                rotate_left 1
                · intro w hSw
                  obtain ⟨hs1, hs2, hs3, hs4⟩ := hSw
                  go_simp
                  try with_reducible rfl
                try simp only [Act.put, List.setIfInBounds_toArray, List.set_cons_zero, List.set_cons_succ]
                refine wpAnyH_ready (rs := [16, 27]) (by kernel_rfl) (by simp) ?_
                refine AllReadyH.cons rfl (fun K hK => ?_) ?_
                · go_simp
                  go_at_call 63
                  refine (wByte_z (k := kk + 2) (by omega) (HBk.out _ LP.ext) hBB hm (by omega)).mono ?_
                  rintro e w9 ⟨rfl, hw9⟩
                  rw [hw9, he2.out]
                  clear hw9 w9
                  go_wp2_with fail
                  refine hK.out _ _ (lp_c3 LP (by simp)) (fun _ => ?_)
                  clear hK K
                  refine wpAnyH_take (i := 17) (oi := _) (v := ?_) rfl (by kernel_rfl) (by kernel_rfl) (by kernel_rfl) (fun _ _ _ h => h) (Or.inl ⟨by rfl, ?_⟩) (by assumption) ?_
                  rotate_left 1
                  · intro w hSw
                    obtain ⟨hs1, hs2, hs3, hs4⟩ := hSw
                    go_simp
                    try with_reducible rfl
                  try simp only [Act.put, List.setIfInBounds_toArray, List.set_cons_zero, List.set_cons_succ]
                  refine wpAnyH_ready (rs := [21, 27]) (by kernel_rfl) (by simp) ?_
                  refine AllReadyH.cons rfl (fun K hK => ?_) ?_
                  · go_simp
                    go_at_call 63
                    refine (wByte_z (k := kk + 3) (by omega) (HBk.out _ LP.ext) hBB hm (by omega)).mono ?_
                    rintro e w9 ⟨rfl, hw9⟩
                    rw [hw9, he3.out]
                    clear hw9 w9
                    go_wp2_with fail
                    refine hK.out _ _ (lp_c3 LP (by simp)) (fun _ => ?_)
                    clear hK K
                    refine wpAnyH_take (i := 22) (oi := _) (v := ?_) rfl (by kernel_rfl) (by kernel_rfl) (by kernel_rfl) (fun _ _ _ h => h) (Or.inl ⟨by rfl, ?_⟩) (by assumption) ?_
                    rotate_left 1
                    · intro w hSw
                      obtain ⟨hs1, hs2, hs3, hs4⟩ := hSw
                      go_simp
                      try with_reducible rfl
                    try simp only [Act.put, List.setIfInBounds_toArray, List.set_cons_zero, List.set_cons_succ]
                    refine wpAnyH_ready (rs := [25, 27]) (by kernel_rfl) (by simp) ?_
                    refine AllReadyH.cons rfl (fun K hK => ?_) ?_
                    · go_simp
                      have LP := LP.alloc (.cells #[.int .u8 e0, .int .u8 e1, .int .u8 (3 * (kk : Int)), .int .u8 e2, .int .u8 e3, .int .u8 (kk : Int)] 5)
                      have bR := box_new wd (.cells #[.int .u8 e0, .int .u8 e1, .int .u8 (3 * (kk : Int)), .int .u8 e2, .int .u8 e3, .int .u8 (kk : Int)] 5)
                      obtain ⟨gR, hgR⟩ : ∃ h, h = wd.heap.size := ⟨_, rfl⟩
                      rw [← hgR] at bR ⊢
                      clear hgR
                      generalize wd.alloc (.cells #[.int .u8 e0, .int .u8 e1, .int .u8 (3 * (kk : Int)), .int .u8 e2, .int .u8 e3, .int .u8 (kk : Int)] 5) = WR at LP bR ⊢
                      refine hK.out _ _ (lp_c3 LP (by simp)) (fun _ => ?_)
                      clear hK K
                      refine wpAnyH_ready (rs := [26, 27]) (by kernel_rfl) (by simp) ?_
                      refine AllReadyH.cons rfl (fun K hK => ?_) ?_
                      · go_simp
                        go_at_call 68
                        refine (aPlan_any (code := [e0, e1, 3 * (kk : Int), e2, e3, (kk : Int)]) (cA := 6) (HLk.out _ LP.ext) HO.out (rdByte_box bR) (fun b o e => by simp only [Option.some.injEq, Addr.mk.injEq, and_true] at e; obtain ⟨rfl, rfl⟩ := e; exact box_lt bR) hBy6 (by simp) HSZ).mono ?_
                        rintro e w9 ⟨p, AP, cP, gr, vs, rfl, hP, hp5, hrl, hE⟩
                        have LP := LP.trans hE
                        go_wp2_with fail
                        refine hK.out _ _ (lp_c3 LP (by simp)) (fun _ => ?_)
                        clear hK K
                        refine wpAnyH_ready (rs := [27]) (by kernel_rfl) (by simp) ?_
                        refine AllReadyH.cons rfl (fun K hK => ?_) AllReadyH.nil
                        go_simp
                        have LP0 := LP
                        have LP := LP.alloc (.cells #[.slice none 0 0] 42)
                        have b8 := box_new w9 (.cells #[.slice none 0 0] 42)
                        have hX8 := (Ext.refl w9).alloc (.cells #[.slice none 0 0] 42)
                        obtain ⟨g8, hg8⟩ : ∃ h, h = w9.heap.size := ⟨_, rfl⟩
                        have hlo8 : wk.heap.size ≤ g8 := by have := LP0.ext.size; omega
                        have hn1 : w1.heap.size ≠ g8 := by have := box_lt (LP0.box (w1.heap.size, #[.slice A0 l.tracks.length c0, .int .i64 l.gap, .slice A2 l.trains.length c2], 33) (by simp)); simp only [] at this; omega
                        have hn2 : w2.heap.size ≠ g8 := by have := box_lt (LP0.box (w2.heap.size, #[.bool code, .int .i64 at_, .slice AR p0.length cR], 44) (by simp)); simp only [] at this; omega
                        have hg8W : w9.heap.size ≤ g8 := by omega
                        rw [← hg8] at b8 ⊢
                        clear hg8 LP0
                        generalize w9.alloc (.cells #[.slice none 0 0] 42) = W8 at LP b8 hX8 ⊢
                        refine hK.out _ _ (lp_c3 LP (by simp)) (fun _ => ?_)
                        clear hK K
                        refine wpAnyH_ready (rs := [28]) (by kernel_rfl) (by simp) ?_
                        refine AllReadyH.cons rfl (fun K hK => ?_) AllReadyH.nil
                        have e80 := box_cell b8 0
                        have e8f := box_frozen b8
                        have e8l := box_lt b8
                        have hbx := (LP.add b8).set hlo8 (far2 hn2 hn1) 0 (.slice AP p.length cP)
                        have LP := hbx.tail
                        have hb9 := hbx.box _ List.mem_cons_self
                        have hR : RdRows _ AP p := (hP.ext (hX8.setCell (p := ⟨g8, 0, none⟩) hg8W (.slice AP p.length cP))).rd
                        go_simp
                        refine hK.out _ _ (lp_c3 LP (by simp)) (fun _ => ?_)
                        clear hK K
                        refine wpAnyH_done (by kernel_rfl) ?_ _
                        go_wp2_with fail
                        go_meet
                        exact ⟨g8, p, AP, cP, rfl, hb9, hR, hp5, hrl, LP⟩
                      refine AllReadyH.cons rfl (fun K hK => ?_) AllReadyH.nil
                      go_simp
                      have LP0 := LP
                      have LP := LP.alloc (.cells #[.slice none 0 0] 42)
                      have b8 := box_new WR (.cells #[.slice none 0 0] 42)
                      have bR := box_old bR (.cells #[.slice none 0 0] 42)
                      obtain ⟨g8, hg8⟩ : ∃ h, h = WR.heap.size := ⟨_, rfl⟩
                      have hlo8 : wk.heap.size ≤ g8 := by have := LP0.ext.size; omega
                      have hn1 : w1.heap.size ≠ g8 := by have := box_lt (LP0.box (w1.heap.size, #[.slice A0 l.tracks.length c0, .int .i64 l.gap, .slice A2 l.trains.length c2], 33) (by simp)); simp only [] at this; omega
                      have hn2 : w2.heap.size ≠ g8 := by have := box_lt (LP0.box (w2.heap.size, #[.bool code, .int .i64 at_, .slice AR p0.length cR], 44) (by simp)); simp only [] at this; omega
                      have hg8W : WR.heap.size ≤ g8 := by omega
                      rw [← hg8] at b8 ⊢
                      clear hg8 LP0
                      generalize WR.alloc (.cells #[.slice none 0 0] 42) = W8 at LP b8 bR ⊢
                      refine hK.out _ _ (lp_c3 LP (by simp)) (fun _ => ?_)
                      clear hK K
                      refine wpAnyH_ready (rs := [26]) (by kernel_rfl) (by simp) ?_
                      refine AllReadyH.cons rfl (fun K hK => ?_) AllReadyH.nil
                      go_simp
                      go_at_call 68
                      refine (aPlan_any (code := [e0, e1, 3 * (kk : Int), e2, e3, (kk : Int)]) (cA := 6) (HLk.out _ LP.ext) HO.out (rdByte_box bR) (fun b o e => by simp only [Option.some.injEq, Addr.mk.injEq, and_true] at e; obtain ⟨rfl, rfl⟩ := e; exact box_lt bR) hBy6 (by simp) HSZ).mono ?_
                      rintro e w9 ⟨p, AP, cP, gr, vs, rfl, hP, hp5, hrl, hE⟩
                      have LP := LP.trans hE
                      have hl8 := box_lt b8
                      have b8 := hE.box b8
                      go_wp2_with fail
                      refine hK.out _ _ (lp_c3 LP (by simp)) (fun _ => ?_)
                      clear hK K
                      refine wpAnyH_ready (rs := [28]) (by kernel_rfl) (by simp) ?_
                      refine AllReadyH.cons rfl (fun K hK => ?_) AllReadyH.nil
                      have e80 := box_cell b8 0
                      have e8f := box_frozen b8
                      have e8l := box_lt b8
                      have hbx := (LP.add b8).set hlo8 (far2 hn2 hn1) 0 (.slice AP p.length cP)
                      have LP := hbx.tail
                      have hb9 := hbx.box _ List.mem_cons_self
                      have hR : RdRows _ AP p := (hP.set_far (g := g8) hl8 0 (.slice AP p.length cP)).rd
                      go_simp
                      refine hK.out _ _ (lp_c3 LP (by simp)) (fun _ => ?_)
                      clear hK K
                      refine wpAnyH_done (by kernel_rfl) ?_ _
                      go_wp2_with fail
                      go_meet
                      exact ⟨g8, p, AP, cP, rfl, hb9, hR, hp5, hrl, LP⟩
                    refine AllReadyH.cons rfl (fun K hK => ?_) AllReadyH.nil
                    go_simp
                    have LP0 := LP
                    have LP := LP.alloc (.cells #[.slice none 0 0] 42)
                    have b8 := box_new wd (.cells #[.slice none 0 0] 42)
                    obtain ⟨g8, hg8⟩ : ∃ h, h = wd.heap.size := ⟨_, rfl⟩
                    have hlo8 : wk.heap.size ≤ g8 := by have := LP0.ext.size; omega
                    have hn1 : w1.heap.size ≠ g8 := by have := box_lt (LP0.box (w1.heap.size, #[.slice A0 l.tracks.length c0, .int .i64 l.gap, .slice A2 l.trains.length c2], 33) (by simp)); simp only [] at this; omega
                    have hn2 : w2.heap.size ≠ g8 := by have := box_lt (LP0.box (w2.heap.size, #[.bool code, .int .i64 at_, .slice AR p0.length cR], 44) (by simp)); simp only [] at this; omega
                    have hg8W : wd.heap.size ≤ g8 := by omega
                    rw [← hg8] at b8 ⊢
                    clear hg8 LP0
                    generalize wd.alloc (.cells #[.slice none 0 0] 42) = W8 at LP b8 ⊢
                    refine hK.out _ _ (lp_c3 LP (by simp)) (fun _ => ?_)
                    clear hK K
                    refine wpAnyH_ready (rs := [25]) (by kernel_rfl) (by simp) ?_
                    refine AllReadyH.cons rfl (fun K hK => ?_) AllReadyH.nil
                    go_simp
                    have LP := LP.alloc (.cells #[.int .u8 e0, .int .u8 e1, .int .u8 (3 * (kk : Int)), .int .u8 e2, .int .u8 e3, .int .u8 (kk : Int)] 5)
                    have bR := box_new W8 (.cells #[.int .u8 e0, .int .u8 e1, .int .u8 (3 * (kk : Int)), .int .u8 e2, .int .u8 e3, .int .u8 (kk : Int)] 5)
                    have hl8 := box_lt b8
                    have b8 := box_old b8 (.cells #[.int .u8 e0, .int .u8 e1, .int .u8 (3 * (kk : Int)), .int .u8 e2, .int .u8 e3, .int .u8 (kk : Int)] 5)
                    obtain ⟨gR, hgR⟩ : ∃ h, h = W8.heap.size := ⟨_, rfl⟩
                    rw [← hgR] at bR ⊢
                    clear hgR
                    generalize W8.alloc (.cells #[.int .u8 e0, .int .u8 e1, .int .u8 (3 * (kk : Int)), .int .u8 e2, .int .u8 e3, .int .u8 (kk : Int)] 5) = WR at LP bR b8 ⊢
                    refine hK.out _ _ (lp_c3 LP (by simp)) (fun _ => ?_)
                    clear hK K
                    refine wpAnyH_ready (rs := [26]) (by kernel_rfl) (by simp) ?_
                    refine AllReadyH.cons rfl (fun K hK => ?_) AllReadyH.nil
                    go_simp
                    go_at_call 68
                    refine (aPlan_any (code := [e0, e1, 3 * (kk : Int), e2, e3, (kk : Int)]) (cA := 6) (HLk.out _ LP.ext) HO.out (rdByte_box bR) (fun b o e => by simp only [Option.some.injEq, Addr.mk.injEq, and_true] at e; obtain ⟨rfl, rfl⟩ := e; exact box_lt bR) hBy6 (by simp) HSZ).mono ?_
                    rintro e w9 ⟨p, AP, cP, gr, vs, rfl, hP, hp5, hrl, hE⟩
                    have LP := LP.trans hE
                    have hl8 := box_lt b8
                    have b8 := hE.box b8
                    go_wp2_with fail
                    refine hK.out _ _ (lp_c3 LP (by simp)) (fun _ => ?_)
                    clear hK K
                    refine wpAnyH_ready (rs := [28]) (by kernel_rfl) (by simp) ?_
                    refine AllReadyH.cons rfl (fun K hK => ?_) AllReadyH.nil
                    have e80 := box_cell b8 0
                    have e8f := box_frozen b8
                    have e8l := box_lt b8
                    have hbx := (LP.add b8).set hlo8 (far2 hn2 hn1) 0 (.slice AP p.length cP)
                    have LP := hbx.tail
                    have hb9 := hbx.box _ List.mem_cons_self
                    have hR : RdRows _ AP p := (hP.set_far (g := g8) hl8 0 (.slice AP p.length cP)).rd
                    go_simp
                    refine hK.out _ _ (lp_c3 LP (by simp)) (fun _ => ?_)
                    clear hK K
                    refine wpAnyH_done (by kernel_rfl) ?_ _
                    go_wp2_with fail
                    go_meet
                    exact ⟨g8, p, AP, cP, rfl, hb9, hR, hp5, hrl, LP⟩
                  refine AllReadyH.cons rfl (fun K hK => ?_) AllReadyH.nil
                  go_simp
                  have LP0 := LP
                  have LP := LP.alloc (.cells #[.slice none 0 0] 42)
                  have b8 := box_new wd (.cells #[.slice none 0 0] 42)
                  obtain ⟨g8, hg8⟩ : ∃ h, h = wd.heap.size := ⟨_, rfl⟩
                  have hlo8 : wk.heap.size ≤ g8 := by have := LP0.ext.size; omega
                  have hn1 : w1.heap.size ≠ g8 := by have := box_lt (LP0.box (w1.heap.size, #[.slice A0 l.tracks.length c0, .int .i64 l.gap, .slice A2 l.trains.length c2], 33) (by simp)); simp only [] at this; omega
                  have hn2 : w2.heap.size ≠ g8 := by have := box_lt (LP0.box (w2.heap.size, #[.bool code, .int .i64 at_, .slice AR p0.length cR], 44) (by simp)); simp only [] at this; omega
                  have hg8W : wd.heap.size ≤ g8 := by omega
                  rw [← hg8] at b8 ⊢
                  clear hg8 LP0
                  generalize wd.alloc (.cells #[.slice none 0 0] 42) = W8 at LP b8 ⊢
                  refine hK.out _ _ (lp_c3 LP (by simp)) (fun _ => ?_)
                  clear hK K
                  refine wpAnyH_ready (rs := [21]) (by kernel_rfl) (by simp) ?_
                  refine AllReadyH.cons rfl (fun K hK => ?_) AllReadyH.nil
                  go_simp
                  go_at_call 63
                  refine (wByte_z (k := kk + 3) (by omega) (HBk.out _ LP.ext) hBB hm (by omega)).mono ?_
                  rintro e w9 ⟨rfl, hw9⟩
                  rw [hw9, he3.out]
                  clear hw9 w9
                  go_wp2_with fail
                  refine hK.out _ _ (lp_c3 LP (by simp)) (fun _ => ?_)
                  clear hK K
                  refine wpAnyH_take (i := 22) (oi := _) (v := ?_) rfl (by kernel_rfl) (by kernel_rfl) (by kernel_rfl) (fun _ _ _ h => h) (Or.inl ⟨by rfl, ?_⟩) (by assumption) ?_
                  rotate_left 1
                  · intro w hSw
                    obtain ⟨hs1, hs2, hs3, hs4⟩ := hSw
                    go_simp
                    try with_reducible rfl
                  try simp only [Act.put, List.setIfInBounds_toArray, List.set_cons_zero, List.set_cons_succ]
                  refine wpAnyH_ready (rs := [25]) (by kernel_rfl) (by simp) ?_
                  refine AllReadyH.cons rfl (fun K hK => ?_) AllReadyH.nil
                  go_simp
                  have LP := LP.alloc (.cells #[.int .u8 e0, .int .u8 e1, .int .u8 (3 * (kk : Int)), .int .u8 e2, .int .u8 e3, .int .u8 (kk : Int)] 5)
                  have bR := box_new W8 (.cells #[.int .u8 e0, .int .u8 e1, .int .u8 (3 * (kk : Int)), .int .u8 e2, .int .u8 e3, .int .u8 (kk : Int)] 5)
                  have hl8 := box_lt b8
                  have b8 := box_old b8 (.cells #[.int .u8 e0, .int .u8 e1, .int .u8 (3 * (kk : Int)), .int .u8 e2, .int .u8 e3, .int .u8 (kk : Int)] 5)
                  obtain ⟨gR, hgR⟩ : ∃ h, h = W8.heap.size := ⟨_, rfl⟩
                  rw [← hgR] at bR ⊢
                  clear hgR
                  generalize W8.alloc (.cells #[.int .u8 e0, .int .u8 e1, .int .u8 (3 * (kk : Int)), .int .u8 e2, .int .u8 e3, .int .u8 (kk : Int)] 5) = WR at LP bR b8 ⊢
                  refine hK.out _ _ (lp_c3 LP (by simp)) (fun _ => ?_)
                  clear hK K
                  refine wpAnyH_ready (rs := [26]) (by kernel_rfl) (by simp) ?_
                  refine AllReadyH.cons rfl (fun K hK => ?_) AllReadyH.nil
                  go_simp
                  go_at_call 68
                  refine (aPlan_any (code := [e0, e1, 3 * (kk : Int), e2, e3, (kk : Int)]) (cA := 6) (HLk.out _ LP.ext) HO.out (rdByte_box bR) (fun b o e => by simp only [Option.some.injEq, Addr.mk.injEq, and_true] at e; obtain ⟨rfl, rfl⟩ := e; exact box_lt bR) hBy6 (by simp) HSZ).mono ?_
                  rintro e w9 ⟨p, AP, cP, gr, vs, rfl, hP, hp5, hrl, hE⟩
                  have LP := LP.trans hE
                  have hl8 := box_lt b8
                  have b8 := hE.box b8
                  go_wp2_with fail
                  refine hK.out _ _ (lp_c3 LP (by simp)) (fun _ => ?_)
                  clear hK K
                  refine wpAnyH_ready (rs := [28]) (by kernel_rfl) (by simp) ?_
                  refine AllReadyH.cons rfl (fun K hK => ?_) AllReadyH.nil
                  have e80 := box_cell b8 0
                  have e8f := box_frozen b8
                  have e8l := box_lt b8
                  have hbx := (LP.add b8).set hlo8 (far2 hn2 hn1) 0 (.slice AP p.length cP)
                  have LP := hbx.tail
                  have hb9 := hbx.box _ List.mem_cons_self
                  have hR : RdRows _ AP p := (hP.set_far (g := g8) hl8 0 (.slice AP p.length cP)).rd
                  go_simp
                  refine hK.out _ _ (lp_c3 LP (by simp)) (fun _ => ?_)
                  clear hK K
                  refine wpAnyH_done (by kernel_rfl) ?_ _
                  go_wp2_with fail
                  go_meet
                  exact ⟨g8, p, AP, cP, rfl, hb9, hR, hp5, hrl, LP⟩
                refine AllReadyH.cons rfl (fun K hK => ?_) AllReadyH.nil
                go_simp
                have LP0 := LP
                have LP := LP.alloc (.cells #[.slice none 0 0] 42)
                have b8 := box_new wd (.cells #[.slice none 0 0] 42)
                obtain ⟨g8, hg8⟩ : ∃ h, h = wd.heap.size := ⟨_, rfl⟩
                have hlo8 : wk.heap.size ≤ g8 := by have := LP0.ext.size; omega
                have hn1 : w1.heap.size ≠ g8 := by have := box_lt (LP0.box (w1.heap.size, #[.slice A0 l.tracks.length c0, .int .i64 l.gap, .slice A2 l.trains.length c2], 33) (by simp)); simp only [] at this; omega
                have hn2 : w2.heap.size ≠ g8 := by have := box_lt (LP0.box (w2.heap.size, #[.bool code, .int .i64 at_, .slice AR p0.length cR], 44) (by simp)); simp only [] at this; omega
                have hg8W : wd.heap.size ≤ g8 := by omega
                rw [← hg8] at b8 ⊢
                clear hg8 LP0
                generalize wd.alloc (.cells #[.slice none 0 0] 42) = W8 at LP b8 ⊢
                refine hK.out _ _ (lp_c3 LP (by simp)) (fun _ => ?_)
                clear hK K
                refine wpAnyH_ready (rs := [16]) (by kernel_rfl) (by simp) ?_
                refine AllReadyH.cons rfl (fun K hK => ?_) AllReadyH.nil
                go_simp
                go_at_call 63
                refine (wByte_z (k := kk + 2) (by omega) (HBk.out _ LP.ext) hBB hm (by omega)).mono ?_
                rintro e w9 ⟨rfl, hw9⟩
                rw [hw9, he2.out]
                clear hw9 w9
                go_wp2_with fail
                refine hK.out _ _ (lp_c3 LP (by simp)) (fun _ => ?_)
                clear hK K
                refine wpAnyH_take (i := 17) (oi := _) (v := ?_) rfl (by kernel_rfl) (by kernel_rfl) (by kernel_rfl) (fun _ _ _ h => h) (Or.inl ⟨by rfl, ?_⟩) (by assumption) ?_
                rotate_left 1
                · intro w hSw
                  obtain ⟨hs1, hs2, hs3, hs4⟩ := hSw
                  go_simp
                  try with_reducible rfl
                try simp only [Act.put, List.setIfInBounds_toArray, List.set_cons_zero, List.set_cons_succ]
                refine wpAnyH_ready (rs := [21]) (by kernel_rfl) (by simp) ?_
                refine AllReadyH.cons rfl (fun K hK => ?_) AllReadyH.nil
                go_simp
                go_at_call 63
                refine (wByte_z (k := kk + 3) (by omega) (HBk.out _ LP.ext) hBB hm (by omega)).mono ?_
                rintro e w9 ⟨rfl, hw9⟩
                rw [hw9, he3.out]
                clear hw9 w9
                go_wp2_with fail
                refine hK.out _ _ (lp_c3 LP (by simp)) (fun _ => ?_)
                clear hK K
                refine wpAnyH_take (i := 22) (oi := _) (v := ?_) rfl (by kernel_rfl) (by kernel_rfl) (by kernel_rfl) (fun _ _ _ h => h) (Or.inl ⟨by rfl, ?_⟩) (by assumption) ?_
                rotate_left 1
                · intro w hSw
                  obtain ⟨hs1, hs2, hs3, hs4⟩ := hSw
                  go_simp
                  try with_reducible rfl
                try simp only [Act.put, List.setIfInBounds_toArray, List.set_cons_zero, List.set_cons_succ]
                refine wpAnyH_ready (rs := [25]) (by kernel_rfl) (by simp) ?_
                refine AllReadyH.cons rfl (fun K hK => ?_) AllReadyH.nil
                go_simp
                have LP := LP.alloc (.cells #[.int .u8 e0, .int .u8 e1, .int .u8 (3 * (kk : Int)), .int .u8 e2, .int .u8 e3, .int .u8 (kk : Int)] 5)
                have bR := box_new W8 (.cells #[.int .u8 e0, .int .u8 e1, .int .u8 (3 * (kk : Int)), .int .u8 e2, .int .u8 e3, .int .u8 (kk : Int)] 5)
                have hl8 := box_lt b8
                have b8 := box_old b8 (.cells #[.int .u8 e0, .int .u8 e1, .int .u8 (3 * (kk : Int)), .int .u8 e2, .int .u8 e3, .int .u8 (kk : Int)] 5)
                obtain ⟨gR, hgR⟩ : ∃ h, h = W8.heap.size := ⟨_, rfl⟩
                rw [← hgR] at bR ⊢
                clear hgR
                generalize W8.alloc (.cells #[.int .u8 e0, .int .u8 e1, .int .u8 (3 * (kk : Int)), .int .u8 e2, .int .u8 e3, .int .u8 (kk : Int)] 5) = WR at LP bR b8 ⊢
                refine hK.out _ _ (lp_c3 LP (by simp)) (fun _ => ?_)
                clear hK K
                refine wpAnyH_ready (rs := [26]) (by kernel_rfl) (by simp) ?_
                refine AllReadyH.cons rfl (fun K hK => ?_) AllReadyH.nil
                go_simp
                go_at_call 68
                refine (aPlan_any (code := [e0, e1, 3 * (kk : Int), e2, e3, (kk : Int)]) (cA := 6) (HLk.out _ LP.ext) HO.out (rdByte_box bR) (fun b o e => by simp only [Option.some.injEq, Addr.mk.injEq, and_true] at e; obtain ⟨rfl, rfl⟩ := e; exact box_lt bR) hBy6 (by simp) HSZ).mono ?_
                rintro e w9 ⟨p, AP, cP, gr, vs, rfl, hP, hp5, hrl, hE⟩
                have LP := LP.trans hE
                have hl8 := box_lt b8
                have b8 := hE.box b8
                go_wp2_with fail
                refine hK.out _ _ (lp_c3 LP (by simp)) (fun _ => ?_)
                clear hK K
                refine wpAnyH_ready (rs := [28]) (by kernel_rfl) (by simp) ?_
                refine AllReadyH.cons rfl (fun K hK => ?_) AllReadyH.nil
                have e80 := box_cell b8 0
                have e8f := box_frozen b8
                have e8l := box_lt b8
                have hbx := (LP.add b8).set hlo8 (far2 hn2 hn1) 0 (.slice AP p.length cP)
                have LP := hbx.tail
                have hb9 := hbx.box _ List.mem_cons_self
                have hR : RdRows _ AP p := (hP.set_far (g := g8) hl8 0 (.slice AP p.length cP)).rd
                go_simp
                refine hK.out _ _ (lp_c3 LP (by simp)) (fun _ => ?_)
                clear hK K
                refine wpAnyH_done (by kernel_rfl) ?_ _
                go_wp2_with fail
                go_meet
                exact ⟨g8, p, AP, cP, rfl, hb9, hR, hp5, hrl, LP⟩
              refine AllReadyH.cons rfl (fun K hK => ?_) AllReadyH.nil
              go_simp
              have LP0 := LP
              have LP := LP.alloc (.cells #[.slice none 0 0] 42)
              have b8 := box_new wd (.cells #[.slice none 0 0] 42)
              obtain ⟨g8, hg8⟩ : ∃ h, h = wd.heap.size := ⟨_, rfl⟩
              have hlo8 : wk.heap.size ≤ g8 := by have := LP0.ext.size; omega
              have hn1 : w1.heap.size ≠ g8 := by have := box_lt (LP0.box (w1.heap.size, #[.slice A0 l.tracks.length c0, .int .i64 l.gap, .slice A2 l.trains.length c2], 33) (by simp)); simp only [] at this; omega
              have hn2 : w2.heap.size ≠ g8 := by have := box_lt (LP0.box (w2.heap.size, #[.bool code, .int .i64 at_, .slice AR p0.length cR], 44) (by simp)); simp only [] at this; omega
              have hg8W : wd.heap.size ≤ g8 := by omega
              rw [← hg8] at b8 ⊢
              clear hg8 LP0
              generalize wd.alloc (.cells #[.slice none 0 0] 42) = W8 at LP b8 ⊢
              refine hK.out _ _ (lp_c3 LP (by simp)) (fun _ => ?_)
              clear hK K
              refine wpAnyH_ready (rs := [8]) (by kernel_rfl) (by simp) ?_
              refine AllReadyH.cons rfl (fun K hK => ?_) AllReadyH.nil
              go_simp
              go_at_call 63
              refine (wByte_z (k := kk + 1) (by omega) (HBk.out _ LP.ext) hBB hm (by omega)).mono ?_
              rintro e w9 ⟨rfl, hw9⟩
              rw [hw9, he1.out]
              clear hw9 w9
              go_wp2_with fail
              refine hK.out _ _ (lp_c3 LP (by simp)) (fun _ => ?_)
              clear hK K
              refine wpAnyH_take (i := 9) (oi := _) (v := ?_) rfl (by kernel_rfl) (by kernel_rfl) (by kernel_rfl) (fun _ _ _ h => h) (Or.inl ⟨by rfl, ?_⟩) (by assumption) ?_
              rotate_left 1
              · intro w hSw
                obtain ⟨hs1, hs2, hs3, hs4⟩ := hSw
                go_simp
                try with_reducible rfl
              try simp only [Act.put, List.setIfInBounds_toArray, List.set_cons_zero, List.set_cons_succ]
              refine wpAnyH_ready (rs := [16]) (by kernel_rfl) (by simp) ?_
              refine AllReadyH.cons rfl (fun K hK => ?_) AllReadyH.nil
              go_simp
              go_at_call 63
              refine (wByte_z (k := kk + 2) (by omega) (HBk.out _ LP.ext) hBB hm (by omega)).mono ?_
              rintro e w9 ⟨rfl, hw9⟩
              rw [hw9, he2.out]
              clear hw9 w9
              go_wp2_with fail
              refine hK.out _ _ (lp_c3 LP (by simp)) (fun _ => ?_)
              clear hK K
              refine wpAnyH_take (i := 17) (oi := _) (v := ?_) rfl (by kernel_rfl) (by kernel_rfl) (by kernel_rfl) (fun _ _ _ h => h) (Or.inl ⟨by rfl, ?_⟩) (by assumption) ?_
              rotate_left 1
              · intro w hSw
                obtain ⟨hs1, hs2, hs3, hs4⟩ := hSw
                go_simp
                try with_reducible rfl
              try simp only [Act.put, List.setIfInBounds_toArray, List.set_cons_zero, List.set_cons_succ]
              refine wpAnyH_ready (rs := [21]) (by kernel_rfl) (by simp) ?_
              refine AllReadyH.cons rfl (fun K hK => ?_) AllReadyH.nil
              go_simp
              go_at_call 63
              refine (wByte_z (k := kk + 3) (by omega) (HBk.out _ LP.ext) hBB hm (by omega)).mono ?_
              rintro e w9 ⟨rfl, hw9⟩
              rw [hw9, he3.out]
              clear hw9 w9
              go_wp2_with fail
              refine hK.out _ _ (lp_c3 LP (by simp)) (fun _ => ?_)
              clear hK K
              refine wpAnyH_take (i := 22) (oi := _) (v := ?_) rfl (by kernel_rfl) (by kernel_rfl) (by kernel_rfl) (fun _ _ _ h => h) (Or.inl ⟨by rfl, ?_⟩) (by assumption) ?_
              rotate_left 1
              · intro w hSw
                obtain ⟨hs1, hs2, hs3, hs4⟩ := hSw
                go_simp
                try with_reducible rfl
              try simp only [Act.put, List.setIfInBounds_toArray, List.set_cons_zero, List.set_cons_succ]
              refine wpAnyH_ready (rs := [25]) (by kernel_rfl) (by simp) ?_
              refine AllReadyH.cons rfl (fun K hK => ?_) AllReadyH.nil
              go_simp
              have LP := LP.alloc (.cells #[.int .u8 e0, .int .u8 e1, .int .u8 (3 * (kk : Int)), .int .u8 e2, .int .u8 e3, .int .u8 (kk : Int)] 5)
              have bR := box_new W8 (.cells #[.int .u8 e0, .int .u8 e1, .int .u8 (3 * (kk : Int)), .int .u8 e2, .int .u8 e3, .int .u8 (kk : Int)] 5)
              have hl8 := box_lt b8
              have b8 := box_old b8 (.cells #[.int .u8 e0, .int .u8 e1, .int .u8 (3 * (kk : Int)), .int .u8 e2, .int .u8 e3, .int .u8 (kk : Int)] 5)
              obtain ⟨gR, hgR⟩ : ∃ h, h = W8.heap.size := ⟨_, rfl⟩
              rw [← hgR] at bR ⊢
              clear hgR
              generalize W8.alloc (.cells #[.int .u8 e0, .int .u8 e1, .int .u8 (3 * (kk : Int)), .int .u8 e2, .int .u8 e3, .int .u8 (kk : Int)] 5) = WR at LP bR b8 ⊢
              refine hK.out _ _ (lp_c3 LP (by simp)) (fun _ => ?_)
              clear hK K
              refine wpAnyH_ready (rs := [26]) (by kernel_rfl) (by simp) ?_
              refine AllReadyH.cons rfl (fun K hK => ?_) AllReadyH.nil
              go_simp
              go_at_call 68
              refine (aPlan_any (code := [e0, e1, 3 * (kk : Int), e2, e3, (kk : Int)]) (cA := 6) (HLk.out _ LP.ext) HO.out (rdByte_box bR) (fun b o e => by simp only [Option.some.injEq, Addr.mk.injEq, and_true] at e; obtain ⟨rfl, rfl⟩ := e; exact box_lt bR) hBy6 (by simp) HSZ).mono ?_
              rintro e w9 ⟨p, AP, cP, gr, vs, rfl, hP, hp5, hrl, hE⟩
              have LP := LP.trans hE
              have hl8 := box_lt b8
              have b8 := hE.box b8
              go_wp2_with fail
              refine hK.out _ _ (lp_c3 LP (by simp)) (fun _ => ?_)
              clear hK K
              refine wpAnyH_ready (rs := [28]) (by kernel_rfl) (by simp) ?_
              refine AllReadyH.cons rfl (fun K hK => ?_) AllReadyH.nil
              have e80 := box_cell b8 0
              have e8f := box_frozen b8
              have e8l := box_lt b8
              have hbx := (LP.add b8).set hlo8 (far2 hn2 hn1) 0 (.slice AP p.length cP)
              have LP := hbx.tail
              have hb9 := hbx.box _ List.mem_cons_self
              have hR : RdRows _ AP p := (hP.set_far (g := g8) hl8 0 (.slice AP p.length cP)).rd
              go_simp
              refine hK.out _ _ (lp_c3 LP (by simp)) (fun _ => ?_)
              clear hK K
              refine wpAnyH_done (by kernel_rfl) ?_ _
              go_wp2_with fail
              go_meet
              exact ⟨g8, p, AP, cP, rfl, hb9, hR, hp5, hrl, LP⟩
            refine AllReadyH.cons rfl (fun K hK => ?_) AllReadyH.nil
            go_simp
            have LP0 := LP
            have LP := LP.alloc (.cells #[.slice none 0 0] 42)
            have b8 := box_new wd (.cells #[.slice none 0 0] 42)
            obtain ⟨g8, hg8⟩ : ∃ h, h = wd.heap.size := ⟨_, rfl⟩
            have hlo8 : wk.heap.size ≤ g8 := by have := LP0.ext.size; omega
            have hn1 : w1.heap.size ≠ g8 := by have := box_lt (LP0.box (w1.heap.size, #[.slice A0 l.tracks.length c0, .int .i64 l.gap, .slice A2 l.trains.length c2], 33) (by simp)); simp only [] at this; omega
            have hn2 : w2.heap.size ≠ g8 := by have := box_lt (LP0.box (w2.heap.size, #[.bool code, .int .i64 at_, .slice AR p0.length cR], 44) (by simp)); simp only [] at this; omega
            have hg8W : wd.heap.size ≤ g8 := by omega
            rw [← hg8] at b8 ⊢
            clear hg8 LP0
            generalize wd.alloc (.cells #[.slice none 0 0] 42) = W8 at LP b8 ⊢
            refine hK.out _ _ (lp_c3 LP (by simp)) (fun _ => ?_)
            clear hK K
            refine wpAnyH_ready (rs := [3]) (by kernel_rfl) (by simp) ?_
            refine AllReadyH.cons rfl (fun K hK => ?_) AllReadyH.nil
            go_simp
            go_at_call 63
            refine (wByte_z (k := kk + 0) (by omega) (HBk.out _ LP.ext) hBB hm (by omega)).mono ?_
            rintro e w9 ⟨rfl, hw9⟩
            rw [hw9, he0.out]
            clear hw9 w9
            go_wp2_with fail
            refine hK.out _ _ (lp_c3 LP (by simp)) (fun _ => ?_)
            clear hK K
            refine wpAnyH_take (i := 4) (oi := _) (v := ?_) rfl (by kernel_rfl) (by kernel_rfl) (by kernel_rfl) (fun _ _ _ h => h) (Or.inl ⟨by rfl, ?_⟩) (by assumption) ?_
            rotate_left 1
            · intro w hSw
              obtain ⟨hs1, hs2, hs3, hs4⟩ := hSw
              go_simp
              try with_reducible rfl
            try simp only [Act.put, List.setIfInBounds_toArray, List.set_cons_zero, List.set_cons_succ]
            refine wpAnyH_ready (rs := [8]) (by kernel_rfl) (by simp) ?_
            refine AllReadyH.cons rfl (fun K hK => ?_) AllReadyH.nil
            go_simp
            go_at_call 63
            refine (wByte_z (k := kk + 1) (by omega) (HBk.out _ LP.ext) hBB hm (by omega)).mono ?_
            rintro e w9 ⟨rfl, hw9⟩
            rw [hw9, he1.out]
            clear hw9 w9
            go_wp2_with fail
            refine hK.out _ _ (lp_c3 LP (by simp)) (fun _ => ?_)
            clear hK K
            refine wpAnyH_take (i := 9) (oi := _) (v := ?_) rfl (by kernel_rfl) (by kernel_rfl) (by kernel_rfl) (fun _ _ _ h => h) (Or.inl ⟨by rfl, ?_⟩) (by assumption) ?_
            rotate_left 1
            · intro w hSw
              obtain ⟨hs1, hs2, hs3, hs4⟩ := hSw
              go_simp
              try with_reducible rfl
            try simp only [Act.put, List.setIfInBounds_toArray, List.set_cons_zero, List.set_cons_succ]
            refine wpAnyH_ready (rs := [16]) (by kernel_rfl) (by simp) ?_
            refine AllReadyH.cons rfl (fun K hK => ?_) AllReadyH.nil
            go_simp
            go_at_call 63
            refine (wByte_z (k := kk + 2) (by omega) (HBk.out _ LP.ext) hBB hm (by omega)).mono ?_
            rintro e w9 ⟨rfl, hw9⟩
            rw [hw9, he2.out]
            clear hw9 w9
            go_wp2_with fail
            refine hK.out _ _ (lp_c3 LP (by simp)) (fun _ => ?_)
            clear hK K
            refine wpAnyH_take (i := 17) (oi := _) (v := ?_) rfl (by kernel_rfl) (by kernel_rfl) (by kernel_rfl) (fun _ _ _ h => h) (Or.inl ⟨by rfl, ?_⟩) (by assumption) ?_
            rotate_left 1
            · intro w hSw
              obtain ⟨hs1, hs2, hs3, hs4⟩ := hSw
              go_simp
              try with_reducible rfl
            try simp only [Act.put, List.setIfInBounds_toArray, List.set_cons_zero, List.set_cons_succ]
            refine wpAnyH_ready (rs := [21]) (by kernel_rfl) (by simp) ?_
            refine AllReadyH.cons rfl (fun K hK => ?_) AllReadyH.nil
            go_simp
            go_at_call 63
            refine (wByte_z (k := kk + 3) (by omega) (HBk.out _ LP.ext) hBB hm (by omega)).mono ?_
            rintro e w9 ⟨rfl, hw9⟩
            rw [hw9, he3.out]
            clear hw9 w9
            go_wp2_with fail
            refine hK.out _ _ (lp_c3 LP (by simp)) (fun _ => ?_)
            clear hK K
            refine wpAnyH_take (i := 22) (oi := _) (v := ?_) rfl (by kernel_rfl) (by kernel_rfl) (by kernel_rfl) (fun _ _ _ h => h) (Or.inl ⟨by rfl, ?_⟩) (by assumption) ?_
            rotate_left 1
            · intro w hSw
              obtain ⟨hs1, hs2, hs3, hs4⟩ := hSw
              go_simp
              try with_reducible rfl
            try simp only [Act.put, List.setIfInBounds_toArray, List.set_cons_zero, List.set_cons_succ]
            refine wpAnyH_ready (rs := [25]) (by kernel_rfl) (by simp) ?_
            refine AllReadyH.cons rfl (fun K hK => ?_) AllReadyH.nil
            go_simp
            have LP := LP.alloc (.cells #[.int .u8 e0, .int .u8 e1, .int .u8 (3 * (kk : Int)), .int .u8 e2, .int .u8 e3, .int .u8 (kk : Int)] 5)
            have bR := box_new W8 (.cells #[.int .u8 e0, .int .u8 e1, .int .u8 (3 * (kk : Int)), .int .u8 e2, .int .u8 e3, .int .u8 (kk : Int)] 5)
            have hl8 := box_lt b8
            have b8 := box_old b8 (.cells #[.int .u8 e0, .int .u8 e1, .int .u8 (3 * (kk : Int)), .int .u8 e2, .int .u8 e3, .int .u8 (kk : Int)] 5)
            obtain ⟨gR, hgR⟩ : ∃ h, h = W8.heap.size := ⟨_, rfl⟩
            rw [← hgR] at bR ⊢
            clear hgR
            generalize W8.alloc (.cells #[.int .u8 e0, .int .u8 e1, .int .u8 (3 * (kk : Int)), .int .u8 e2, .int .u8 e3, .int .u8 (kk : Int)] 5) = WR at LP bR b8 ⊢
            refine hK.out _ _ (lp_c3 LP (by simp)) (fun _ => ?_)
            clear hK K
            refine wpAnyH_ready (rs := [26]) (by kernel_rfl) (by simp) ?_
            refine AllReadyH.cons rfl (fun K hK => ?_) AllReadyH.nil
            go_simp
            go_at_call 68
            refine (aPlan_any (code := [e0, e1, 3 * (kk : Int), e2, e3, (kk : Int)]) (cA := 6) (HLk.out _ LP.ext) HO.out (rdByte_box bR) (fun b o e => by simp only [Option.some.injEq, Addr.mk.injEq, and_true] at e; obtain ⟨rfl, rfl⟩ := e; exact box_lt bR) hBy6 (by simp) HSZ).mono ?_
            rintro e w9 ⟨p, AP, cP, gr, vs, rfl, hP, hp5, hrl, hE⟩
            have LP := LP.trans hE
            have hl8 := box_lt b8
            have b8 := hE.box b8
            go_wp2_with fail
            refine hK.out _ _ (lp_c3 LP (by simp)) (fun _ => ?_)
            clear hK K
            refine wpAnyH_ready (rs := [28]) (by kernel_rfl) (by simp) ?_
            refine AllReadyH.cons rfl (fun K hK => ?_) AllReadyH.nil
            have e80 := box_cell b8 0
            have e8f := box_frozen b8
            have e8l := box_lt b8
            have hbx := (LP.add b8).set hlo8 (far2 hn2 hn1) 0 (.slice AP p.length cP)
            have LP := hbx.tail
            have hb9 := hbx.box _ List.mem_cons_self
            have hR : RdRows _ AP p := (hP.set_far (g := g8) hl8 0 (.slice AP p.length cP)).rd
            go_simp
            refine hK.out _ _ (lp_c3 LP (by simp)) (fun _ => ?_)
            clear hK K
            refine wpAnyH_done (by kernel_rfl) ?_ _
            go_wp2_with fail
            go_meet
            exact ⟨g8, p, AP, cP, rfl, hb9, hR, hp5, hrl, LP⟩
          case rest =>
            obtain ⟨g8, p, AP, cP, rfl, hb8, hR, hp5', hrl, hS⟩ := hcut
            have HR := Lib.hid (fun (W : World) (e : Ext wc W) => RdRows.ext hR e)
            have HLEN : Hid (∀ (i : Nat) (t : List Int), p[i]? = some t → t.length ≤ 1048576) := fun i t ht => by
              have h := hrl i
              unfold rl at h
              rw [List.getD_eq_getElem?_getD, ht] at h
              simp only [Option.getD_some] at h
              omega
            have hpn : p.length ≤ 1048576 := by omega
            have hXc := hS.ext
            have hS := hS.add hb8
            clear hR hrl LP hb8
            obtain ⟨k1, k2, k3, k4, k5, k6, k7, k8⟩ := hS.open3
            obtain ⟨cc, hcc⟩ : ∃ cc, Hid (checkA l p = cc) := ⟨_, rfl⟩
            obtain ⟨q0, q1, q2, q3⟩ := cc
            go_wp2_with fail
            refine (spec_Check_any (p := p) (HLk.out _ (hXc.trans (by repeat (first | (with_reducible assumption) | (with_reducible exact Ext.refl _) | apply Ext.alloc | apply Ext.drewN | apply Ext.drew)))) (isPlan_mk' (c := cP) (HR.out _ (by repeat (first | (with_reducible assumption) | (with_reducible exact Ext.refl _) | apply Ext.alloc | apply Ext.drewN | apply Ext.drew)))) HSZ hpn HLEN.out).mono ?_
            rw [hcc.out]
            rintro e w5 ⟨rfl, hE⟩
            simp only [clV]
            have hX5 : Ext wc w5 := Ext.trans (by repeat (first | (with_reducible assumption) | (with_reducible exact Ext.refl _) | apply Ext.alloc | apply Ext.drewN | apply Ext.drew)) hE
            have hT := hS.trans hX5
            clear hE k1 k2 k3 k4 k5 k6 k7 k8 hS
            have hS := hT; clear hT
            obtain ⟨k1, k2, k3, k4, k5, k6, k7, k8⟩ := hS.open3
            by_cases hz : q0 = 0
            · subst hz
              have C : Can l p := checkA_zero (by rw [hcc.out])
              have hcan : canB l p = true := by unfold canB; rw [C.check]; rfl
              have hq : checkA l p = (0, 0, 0, 0) := C.check
              rw [hcc.out] at hq
              simp only [Prod.mk.injEq, true_and] at hq
              obtain ⟨rfl, rfl, rfl⟩ := hq
              have hcode : code = true := by
                cases code with
                | true => rfl
                | false => exact absurd C (HBF.out rfl p)
              subst hcode
              obtain ⟨C0, hall⟩ := HBT.out rfl
              obtain ⟨hle, heq⟩ := hall p C
              have HEQ := Lib.hid heq
              have HC := Lib.hid C
              have HC0 := Lib.hid C0
              obtain ⟨cv, hcv⟩ : ∃ cv, Hid (costF l p = cv) := ⟨_, rfl⟩
              have hcostp : Hid (costA l p = cv) := by unfold Hid costA; rw [if_pos hcan, hcv.out]
              rw [hcv.out] at hle
              have hd5 : decide (cv < at_) = false := decide_eq_false (by omega)
              clear heq C C0 hall hcan
              go_wp2_with fail
              refine (spec_Cost_any (p := p) (HLk.out _ ((hXc.trans hX5).trans (by repeat (first | (with_reducible assumption) | (with_reducible exact Ext.refl _) | apply Ext.alloc | apply Ext.drewN | apply Ext.drew)))) (isPlan_mk' (c := cP) (HR.out _ (hX5.trans (by repeat (first | (with_reducible assumption) | (with_reducible exact Ext.refl _) | apply Ext.alloc | apply Ext.drewN | apply Ext.drew))))) HSZ hpn HLEN.out).mono ?_
              rw [hcostp.out]
              rintro e w6 ⟨rfl, hE⟩
              have hX6 : Ext w5 w6 := Ext.trans (by repeat (first | (with_reducible assumption) | (with_reducible exact Ext.refl _) | apply Ext.alloc | apply Ext.drewN | apply Ext.drew)) hE
              have hT := hS.trans hX6
              clear hE k1 k2 k3 k4 k5 k6 k7 k8 hS
              have hS := hT; clear hT
              obtain ⟨k1, k2, k3, k4, k5, k6, k7, k8⟩ := hS.open3
              by_cases heq : cv = at_
              · have hd6 : (cv == at_) = true := by simp [heq]
                have hcm : cmpP l p p0 ≠ .lt := HEQ.out (by rw [hcv.out]; exact heq.symm)
                have HCM := Lib.hid hcm
                have hq5 : p0.length ≤ 9223372036854775807 := by omega
                clear hcm heq
                go_wp2_with fail
                refine (wFirst_not (c := cP) (d := cR) HO.out HC.out.fits HC0.out.fits HCM.out (HR.out _ ((hX5.trans hX6).trans (by repeat (first | (with_reducible assumption) | (with_reducible exact Ext.refl _) | apply Ext.alloc | apply Ext.drewN | apply Ext.drew)))) (HPk.out _ (((hXc.trans hX5).trans hX6).trans (by repeat (first | (with_reducible assumption) | (with_reducible exact Ext.refl _) | apply Ext.alloc | apply Ext.drewN | apply Ext.drew))))).mono ?_
                rintro e w7 ⟨rfl, hE⟩
                have hX7 : Ext w6 w7 := Ext.trans (by repeat (first | (with_reducible assumption) | (with_reducible exact Ext.refl _) | apply Ext.alloc | apply Ext.drewN | apply Ext.drew)) hE
                have hT := (hS.trans hX7).tail
                clear hE k1 k2 k3 k4 k5 k6 k7 k8 hS
                go_wp2_with fail
                exact ⟨⟨kk + 1, by omega, by go_num, hT⟩, (by simp [intOf]; omega)⟩
              · have hd6 : (cv == at_) = false := by simp [heq]
                have hT := hS.tail
                go_wp2_with fail
                exact ⟨⟨kk + 1, by omega, by go_num, hT⟩, (by simp [intOf]; omega)⟩
            · have hT := hS.tail
              have hne : (q0 == 0) = false := by simp [hz]
              go_wp2_with fail
              exact ⟨⟨kk + 1, by omega, by go_num, hT⟩, (by simp [intOf]; omega)⟩
        · have hd : decide ((kk : Int) < 6) = false := decide_eq_false (by omega)
          have HK : Hid (∀ W, Ext wr W → Ext wk W ∧ (∀ j, W.cell? ⟨w1.heap.size, j, none⟩ = (#[.slice A0 l.tracks.length c0, .int .i64 l.gap, .slice A2 l.trains.length c2] : Array Value)[j]?) ∧ w1.heap.size < W.heap.size ∧ (∀ j, W.cell? ⟨w2.heap.size, j, none⟩ = (#[.bool code, .int .i64 at_, .slice AR p0.length cR] : Array Value)[j]?) ∧ w2.heap.size < W.heap.size) := fun W e =>
            ⟨hS.ext.trans e, fun j => (e.cells.1 _ _ k6).trans (k5 j), e.up _ k6, fun j => (e.cells.1 _ _ k4).trans (k3 j), e.up _ k4⟩
          clear hS k1 k2 k3 k4 k5 k6 HBF HBT
          go_upto_region 13 with fail
          go_region_held3 (fun W => Ext wk W ∧ (∀ j, W.cell? ⟨w1.heap.size, j, none⟩ = (#[.slice A0 l.tracks.length c0, .int .i64 l.gap, .slice A2 l.trains.length c2] : Array Value)[j]?) ∧ w1.heap.size < W.heap.size ∧ (∀ j, W.cell? ⟨w2.heap.size, j, none⟩ = (#[.bool code, .int .i64 at_, .slice AR p0.length cR] : Array Value)[j]?) ∧ w2.heap.size < W.heap.size) (first | assumption | exact HK.out _ (Ext.drew (Ext.refl _)) | exact held_ext (by assumption) (by assumption)) (first  | (go_at_call 30; have hX := And.left (by assumption : Ext wk _ ∧ _); refine (wBest_same (a := code) (b := at_) (c := cR) (c' := cR9) (HPk.out _ hX) (HP9.out.ext (by repeat (first | (with_reducible assumption) | (with_reducible exact Ext.refl _) | apply Ext.alloc | apply Ext.drewN | apply Ext.drew))) (by omega) (fun i t ht => by have := HLEN0.out i t ht; omega)).mono ?_; rintro e wb ⟨rfl, hEb⟩)  | (go_at_call 28; have hX := And.left (by assumption : Ext wk _ ∧ _); with_reducible refine (spec_Solve_any (HLk.out _ hX) HSZ).mono ?_; rintro e wa ⟨hBI, hEa⟩; unfold BestIs at hBI; obtain ⟨AR9, cR9, gr9, vs9, rfl, hP9⟩ := hBI; rw [hr.out] at hP9 ⊢; simp only [] at hP9; simp only [bestV]; have HP9 := Lib.hid hP9.rd; clear hP9))
          all_goals
            go_wp2_with fail
            go_ret
            exact ⟨rfl, hXw.trans (And.left (by assumption))⟩
    · have hd1 : decide ((1048576 : Int) < (ys.length : Int)) = true := by simp; omega
      go_enter Try.func17, Try.ntmps17
      go_wp2_with fail
      go_ret
      exact ⟨rfl, (by repeat (first | (with_reducible assumption) | (with_reducible exact Ext.refl _) | apply Ext.alloc | apply Ext.drewN | apply Ext.drew))⟩
  · have hd0 : decide ((1048576 : Int) < (xs.length : Int)) = true := by simp; omega
    go_enter Try.func17, Try.ntmps17
    go_wp2_with fail
    go_ret
    exact ⟨rfl, (by repeat (first | (with_reducible assumption) | (with_reducible exact Ext.refl _) | apply Ext.alloc | apply Ext.drewN | apply Ext.drew))⟩
end Go.Proofs.Ythhkbfjolmgloaa
