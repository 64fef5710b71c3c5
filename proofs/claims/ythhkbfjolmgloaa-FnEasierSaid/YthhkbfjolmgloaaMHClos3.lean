/- The third closure of impl.Check: it answers its clash at a leg. Condition: the line is right, the plan fits. -/
import Derived.Test.YthhkbfjolmgloaaMHEach
namespace Go.Proofs.Ythhkbfjolmgloaa
open Go.RowKit
set_option linter.unusedVariables false
set_option linter.unusedSimpArgs false
/-- The same, of another leg than (i, k). -/
def takesI (l : Line) (p : List (List Int)) (i k j m : Nat) : Int :=
  if (l.leg j m).to = (l.leg i k).to ∧ (j ≠ i ∨ m ≠ k) ∧ (st p j m < st p i k ∨ (st p j m = st p i k ∧ j ≤ i)) ∧ st p i k ≤ leaves l p j m then 1 else 0
theorem takes_split (l : Line) (p : List (List Int)) (i k j m : Nat) : takes l p i k j m = takesI l p i k j m + if j = i ∧ m = k then 1 else 0 := by
  unfold takes takesI
  by_cases e : j = i ∧ m = k
  · obtain ⟨rfl, rfl⟩ := e
    simp
  · rw [if_neg e]
    by_cases c1 : (l.leg j m).to = (l.leg i k).to
    · rw [if_neg (by simp [c1])]
      by_cases c2 : st p j m > st p i k ∨ (st p j m = st p i k ∧ j > i) ∨ (leaves l p j m < st p i k ∧ (j ≠ i ∨ m ≠ k))
      · rw [if_pos c2, if_neg (by omega)]; rfl
      · rw [if_neg c2, if_pos (by omega)]; rfl
    · rw [if_pos c1, if_neg (fun h => c1 h.1)]; rfl
theorem taken_split {l : Line} {p : List (List Int)} {i k : Nat} (hi : i < l.trains.length) (hk : k < (l.tr i).legs.length) : taken l p i k = 1 + sumF (fun j => sumF (takesI l p i k j) 0 (l.tr j).legs.length) 0 l.trains.length := by
  unfold taken
  have h1 : ∀ j, sumF (takes l p i k j) 0 (l.tr j).legs.length = sumF (takesI l p i k j) 0 (l.tr j).legs.length + sumF (fun m => if j = i ∧ m = k then 1 else 0) 0 (l.tr j).legs.length := fun j => by
    rw [← sumF_add]
    exact sumF_congr fun m _ _ => takes_split l p i k j m
  rw [sumF_congr (fun j _ _ => h1 j), sumF_add]
  have h2 : sumF (fun j => sumF (fun m => if j = i ∧ m = k then (1 : Int) else 0) 0 (l.tr j).legs.length) 0 l.trains.length = 1 := by
    rw [sumF_one (k := i) (Nat.zero_le _) hi (fun j _ _ e => sumF_zero fun m _ _ => if_neg fun h => e h.1)]
    rw [sumF_one (k := k) (Nat.zero_le _) hk (fun m _ _ e => if_neg fun h => e h.2)]
    simp
  rw [h2]; omega
set_option maxRecDepth 100000 in
set_option maxHeartbeats 8000000 in
theorem c97_any {w : World} {l : Line} {p : List (List Int)} {A0 A2 A3 : Option Addr} {c0 c2 c3 gl gp : Nat} (hl : IsLine w l (.agg #[.slice A0 l.tracks.length c0, .int .i64 l.gap, .slice A2 l.trains.length c2])) (hp : IsPlan w p (.agg #[.slice A3 p.length c3])) (O : Ok l) (F : Fits l p) (bx1 : w.heap[gl]? = some (.cells #[.slice A0 l.tracks.length c0, .int .i64 l.gap, .slice A2 l.trains.length c2] 33 (0, 0))) (bx2 : w.heap[gp]? = some (.cells #[.slice A3 p.length c3] 42 (0, 0))) {i k : Nat} (hi : i < l.trains.length) (hk : k < (l.tr i).legs.length) :
    Calls Try.prog 97 #[.int .i64 i, .int .i64 k, .pointer (some ⟨gp, 0, none⟩), .pointer (some ⟨gl, 0, none⟩)] w fun e w' => e = .returned (clV (cl4 l p i k)) ∧ Ext w w' := by
  have HL := Lib.hid (fun (W : World) (e : Ext w W) => hl.ext e)
  have HP := Lib.hid (fun (W : World) (e : Ext w W) => hp.ext e)
  obtain ⟨A0', c0', A2', c2', hq, h0, h2⟩ := hl
  simp only [Value.agg.injEq, Array.mk.injEq, List.cons.injEq, Value.slice.injEq, and_true, true_and] at hq
  obtain ⟨⟨rfl, rfl⟩, rfl, rfl⟩ := hq
  obtain ⟨A3', c3', hq, h3⟩ := hp
  simp only [Value.agg.injEq, Array.mk.injEq, List.cons.injEq, Value.slice.injEq, and_true, true_and] at hq
  obtain ⟨rfl, rfl⟩ := hq
  obtain ⟨b0, o0, b2, o2, bl, ol, cl, SL⟩ := seeL O h0 h2
  obtain ⟨b3, o3, br, or', cr, SP⟩ := seeP O F h3
  clear h0 h2 h3
  have B := O.bd
  have HB := Lib.hid B
  have HS := Lib.hid SL
  have HQ := Lib.hid SP
  have HF := Lib.hid F
  have HO := Lib.hid O
  obtain ⟨x0, x1, _⟩ := B.leg i k hi hk
  obtain ⟨rfl, hb0⟩ := SL.base0 (by omega)
  obtain ⟨rfl, hb2⟩ := SL.base2 (by omega)
  obtain ⟨rfl, hb3⟩ := SP.base (by omega)
  obtain ⟨e0, e1, e2, e3, e4, hbl⟩ := SL.train i hi
  obtain ⟨r0, hbr⟩ := SP.row i hi
  obtain ⟨f0, f1, f2⟩ := SL.leg i k hi hk
  have s0 := SP.st i k hi hk
  obtain ⟨z1, z2⟩ := F.bd hi hk
  have n10 := B.nl1 i hi
  have n5 := B.n5
  have q0 := SL.tk (l.leg i k).to.toNat x1
  have tb := B.tk (l.leg i k).to.toNat x1
  have n12 := B.tracks
  rw [F.rows] at HP bx2
  have HT0 := Lib.hid (taken_split (p := p) hi hk)
  have g0 : w.cell? ⟨gl, 0, none⟩ = _ := box_cell bx1 0
  have g2 : w.cell? ⟨gl, 2, none⟩ = _ := box_cell bx1 2
  have g1 : w.cell? ⟨gl, 1, none⟩ = _ := box_cell bx1 1
  have g3 : w.cell? ⟨gp, 0, none⟩ = _ := box_cell bx2 0
  have hgl := box_lt bx1
  have hgp := box_lt bx2
  have d1 : bl i < w.heap.size + 1 := by omega
  have d3 : br i < w.heap.size + 1 := by omega
  have d5 : b3 < w.heap.size + 1 := by omega
  have d7 : gp < w.heap.size + 1 := by omega
  have d8 : gl < w.heap.size + 1 := by omega
  have d9 : b2 < w.heap.size + 1 := by omega
  clear SL SP F O B bx1 bx2
  go_enter Try.func97, Try.ntmps97
  go_wp2_with fail
  clear e0 e1 e2 e3 e4 r0 f0 f1 f2 s0
  go_loopw [9, 36] (fun n j wr => ∃ (jj : Nat) (acc : Int), jj ≤ l.trains.length ∧ j = .int .i64 jj ∧ n = .int .i64 acc ∧ 0 ≤ acc ∧ acc ≤ 10 * jj + 1 ∧ Hid (acc + sumF (fun j => sumF (takesI l p i k j) 0 (l.tr j).legs.length) jj l.trains.length = taken l p i k) ∧
    Lp w wr [(w.heap.size, #[.int .i64 0, .int .i64 0, .int .i64 0, .int .i64 0], 48)]) (fun _ j _ => l.trains.length - (intOf j).toNat)
  case atStart => exact ⟨0, 1, Nat.zero_le _, rfl, rfl, by omega, by omega, HT0.out.symm, Lp.start1 _ _ _⟩
  case round =>
    obtain ⟨jj, acc, hjj, rfl, rfl, ha0, ha1, HT, hS⟩ := hrel
    obtain ⟨k1, k2, k3, k4⟩ := hS.open1
    by_cases hlt : jj < l.trains.length
    · obtain ⟨e0, e1, e2, e3, e4, hbj⟩ := HS.out.train jj hlt
      obtain ⟨r0, hbr'⟩ := HQ.out.row jj hlt
      obtain ⟨m10, m11⟩ := HB.out.nl1 jj hlt
      go_wp2_with fail
      clear k1 k2 k3 k4
      go_loopw [9, 44] (fun n j wi => ∃ (m : Nat) (acc : Int), m ≤ (l.tr jj).legs.length ∧ j = .int .i64 m ∧ n = .int .i64 acc ∧ 0 ≤ acc ∧ acc ≤ 10 * jj + m + 1 ∧ Hid (acc + sumF (takesI l p i k jj) m (l.tr jj).legs.length + sumF (fun j => sumF (takesI l p i k j) 0 (l.tr j).legs.length) (jj + 1) l.trains.length = taken l p i k) ∧
        Lp w wi [(w.heap.size, #[.int .i64 0, .int .i64 0, .int .i64 0, .int .i64 0], 48)]) (fun _ j _ => (l.tr jj).legs.length - (intOf j).toNat)
      case atStart => exact ⟨0, acc, Nat.zero_le _, rfl, rfl, ha0, by omega, by rw [← HT.out, sumF_at _ hlt]; simp [Hid, Int.add_assoc], (by repeat (first | (with_reducible exact hS) | apply Lp.alloc | apply Lp.drewN | apply Lp.drew))⟩
      case round =>
        clear HT hS
        obtain ⟨m, acc', hm, rfl, rfl, hb0', hb1, HT, hS⟩ := hrel
        obtain ⟨k1, k2, k3, k4⟩ := hS.open1
        by_cases hlm : m < (l.tr jj).legs.length
        · obtain ⟨f0, f1, f2⟩ := HS.out.leg jj m hlt hlm
          have s1 := HQ.out.st jj m hlt hlm
          have HN := Lib.hid (sumF_at (takesI l p i k jj) hlm)
          by_cases c1 : (l.leg jj m).to = (l.leg i k).to
          · have c1' : ((l.leg jj m).to == (l.leg i k).to) = true := by simp [c1]
            have C1 := Lib.hid c1; clear c1
            by_cases c2 : jj = i ∧ m = k
            · have hv : Hid (takesI l p i k jj m = 0) := by unfold Hid takesI; rw [if_neg (by rintro ⟨_, h, _⟩; omega)]
              have c3 : ((jj : Int) != i) = false := by simp; omega
              have c4 : ((m : Int) != k) = false := by simp; omega
              clear c2
              go_wp2_with fail
              exact ⟨⟨m + 1, acc', by omega, by go_num, rfl, hb0', by omega, by rw [← HT.out, HN.out, hv.out]; simp [Hid], (by repeat (first | (with_reducible exact hS) | apply Lp.alloc | apply Lp.drewN | apply Lp.drew))⟩, (by simp [intOf]; omega)⟩
            · have c2' : ((jj : Int) != i) = true ∨ (((jj : Int) != i) = false ∧ ((m : Int) != k) = true) := by
                by_cases e : jj = i
                · exact Or.inr ⟨by simp [e], by simp; omega⟩
                · exact Or.inl (by simp; omega)
              have C2 := Lib.hid c2; clear c2
              by_cases c3 : st p jj m < st p i k ∨ (st p jj m = st p i k ∧ jj ≤ i)
              · have c3' : st p jj m < st p i k ∨ (¬ st p jj m < st p i k ∧ (st p jj m == st p i k) = true ∧ jj ≤ i) := by
                  by_cases e : st p jj m < st p i k
                  · exact Or.inl e
                  · exact Or.inr ⟨e, by simp; omega, by omega⟩
                have C3 := Lib.hid c3; clear c3
                have HC := Lib.hid (fun W (e : Ext w W) => leaves_any (HL.out W e) (HP.out W e) HO.out HF.out hlt hlm)
                by_cases c5 : st p i k ≤ leaves l p jj m
                · have hv : Hid (takesI l p i k jj m = 1) := by unfold Hid takesI; rw [if_pos ⟨C1.out, by have := C2.out; omega, C3.out, c5⟩]
                  rcases c3' with c3 | ⟨c3, c4, c6⟩
                  all_goals
                    rcases c2' with c7 | ⟨c7, c8⟩
                    all_goals
                      go_wp2_with (go_at_call 98; refine (HC.out _ (by repeat (first | (with_reducible exact hS.ext) | (with_reducible assumption) | (with_reducible exact Ext.refl _) | with_reducible apply Ext.alloc | with_reducible apply Ext.drewN | with_reducible apply Ext.drew | with_reducible refine Ext.setCell ?_ (by simp only []; omega) _))).mono ?_; rintro e w' ⟨rfl, hE⟩)
                      exact ⟨⟨m + 1, acc' + 1, by omega, by go_num, rfl, by omega, by omega, by rw [← HT.out, HN.out, hv.out]; simp [Hid, Int.add_assoc], (show Lp _ _ _ from (by repeat (first | (with_reducible exact hS) | apply Lp.alloc | apply Lp.drewN | apply Lp.drew))).trans hE⟩, (by simp [intOf]; omega)⟩
                · have hv : Hid (takesI l p i k jj m = 0) := by unfold Hid takesI; rw [if_neg (fun h => c5 h.2.2.2)]
                  rcases c3' with c3 | ⟨c3, c4, c6⟩
                  all_goals
                    rcases c2' with c7 | ⟨c7, c8⟩
                    all_goals
                      go_wp2_with (go_at_call 98; refine (HC.out _ (by repeat (first | (with_reducible exact hS.ext) | (with_reducible assumption) | (with_reducible exact Ext.refl _) | with_reducible apply Ext.alloc | with_reducible apply Ext.drewN | with_reducible apply Ext.drew | with_reducible refine Ext.setCell ?_ (by simp only []; omega) _))).mono ?_; rintro e w' ⟨rfl, hE⟩)
                      exact ⟨⟨m + 1, acc', by omega, by go_num, rfl, by omega, by omega, by rw [← HT.out, HN.out, hv.out]; simp [Hid], (show Lp _ _ _ from (by repeat (first | (with_reducible exact hS) | apply Lp.alloc | apply Lp.drewN | apply Lp.drew))).trans hE⟩, (by simp [intOf]; omega)⟩
              · have hv : Hid (takesI l p i k jj m = 0) := by unfold Hid takesI; rw [if_neg (fun h => c3 h.2.2.1)]
                have c3' : ¬ st p jj m < st p i k ∧ ((st p jj m == st p i k) = false ∨ ((st p jj m == st p i k) = true ∧ ¬ jj ≤ i)) := by
                  refine ⟨by omega, ?_⟩
                  by_cases e : st p jj m = st p i k
                  · exact Or.inr ⟨by simp [e], by omega⟩
                  · exact Or.inl (by simp [e])
                clear c3
                obtain ⟨c3, c4⟩ := c3'
                rcases c4 with c4 | ⟨c4, c5⟩
                all_goals
                  rcases c2' with c7 | ⟨c7, c8⟩
                  all_goals
                    go_wp2_with fail
                    exact ⟨⟨m + 1, acc', by omega, by go_num, rfl, hb0', by omega, by rw [← HT.out, HN.out, hv.out]; simp [Hid], (by repeat (first | (with_reducible exact hS) | apply Lp.alloc | apply Lp.drewN | apply Lp.drew))⟩, (by simp [intOf]; omega)⟩
          · have c1' : ((l.leg jj m).to == (l.leg i k).to) = false := by simp [c1]
            have hv : Hid (takesI l p i k jj m = 0) := by unfold Hid takesI; rw [if_neg (fun h => c1 h.1)]
            clear c1
            go_wp2_with fail
            exact ⟨⟨m + 1, acc', by omega, by go_num, rfl, hb0', by omega, by rw [← HT.out, HN.out, hv.out]; simp [Hid], (by repeat (first | (with_reducible exact hS) | apply Lp.alloc | apply Lp.drewN | apply Lp.drew))⟩, (by simp [intOf]; omega)⟩
        · have HE := Lib.hid (sumF_end (takesI l p i k jj) (i := m) (n := (l.tr jj).legs.length) (by omega))
          go_wp2_with fail
          exact ⟨⟨jj + 1, acc', by omega, by go_num, rfl, hb0', by omega, by rw [← HT.out, HE.out]; simp [Hid], hS⟩, (by simp [intOf]; omega)⟩
    · have HE := Lib.hid (sumF_end (fun j => sumF (takesI l p i k j) 0 (l.tr j).legs.length) (i := jj) (n := l.trains.length) (by omega))
      have hA : Hid (acc = taken l p i k) := by unfold Hid; rw [← HT.out, HE.out]; omega
      have fr := box_frozen (hS.box _ List.mem_cons_self)
      by_cases hv : l.tk (l.leg i k).to.toNat < acc
      · have hV : Hid (cl4 l p i k = ((4, (i : Int), (k : Int), 0) : Cl)) := by unfold Hid cl4 full; rw [← hA.out]; simp [hv]
        go_wp2_with fail
        exact bodyPost_ret (v := clV (4, i, k, 0)) (by simp [results, Try.results97, go_sem, clV, k3, k4]) rfl ⟨by rw [hV.out], (by repeat (first | (with_reducible exact hS.ext) | (with_reducible assumption) | (with_reducible exact Ext.refl _) | with_reducible apply Ext.alloc | with_reducible apply Ext.drewN | with_reducible apply Ext.drew | with_reducible refine Ext.setCell ?_ (by simp only []; omega) _))⟩
      · have hV : Hid (cl4 l p i k = ((0, 0, 0, 0) : Cl)) := by unfold Hid cl4 full; rw [← hA.out]; simp [hv]
        go_wp2_with fail
        exact bodyPost_ret (v := clV (0, 0, 0, 0)) (by simp [results, Try.results97, go_sem, clV, k3, k4]) rfl ⟨by rw [hV.out], (by repeat (first | (with_reducible exact hS.ext) | (with_reducible assumption) | (with_reducible exact Ext.refl _) | with_reducible apply Ext.alloc | with_reducible apply Ext.drewN | with_reducible apply Ext.drew | with_reducible refine Ext.setCell ?_ (by simp only []; omega) _))⟩
end Go.Proofs.Ythhkbfjolmgloaa
