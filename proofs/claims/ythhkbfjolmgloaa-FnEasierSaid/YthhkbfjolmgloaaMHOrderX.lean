/- spec.Order answers the order of a plan. Condition: line and plan hold at most 2^20 values. -/
import Derived.Test.YthhkbfjolmgloaaMHOrderI
namespace Go.Proofs.Ythhkbfjolmgloaa
open Go.RowKit
set_option linter.unusedVariables false
set_option linter.unusedSimpArgs false
def numsN (nx : List Nat) : Array Value := (nx.map fun (k : Nat) => Value.int .i64 (k : Int)).toArray
theorem numsN_set (nx : List Nat) (b k : Nat) : numsN (nx.set b k) = (numsN nx).setIfInBounds b (.int .i64 (k : Int)) := by simp [numsN, List.map_set]
theorem numsN_at {nx : List Nat} {b : Nat} (h : b < nx.length) : (numsN nx)[b]? = some (.int .i64 ((nx.getD b 0 : Nat) : Int)) := by simp [numsN, List.getD_eq_getElem?_getD, h]
theorem numsN_zero (n : Nat) : (nums (List.replicate n 0)).toArray = numsN (List.replicate n 0) := by simp [nums, numsN]
structure Nxt (l : Line) (nx : List Nat) (f : Nat) : Prop where
  len : nx.length = l.trains.length
  le : ∀ i, i < l.trains.length → nx.getD i 0 ≤ (l.tr i).legs.length
  sum : (f : Int) = sumF (fun i => ((l.tr i).legs.length : Int) - (nx.getD i 0 : Nat)) 0 l.trains.length
theorem Nxt.start (l : Line) : Nxt l (List.replicate l.trains.length 0) (legsAll l) where
  len := by simp
  le := fun i _ => by
    simp only [List.getD_eq_getElem?_getD, List.getElem?_replicate]
    split <;> simp
  sum := by
    rw [legsAll_eq, remain_start]
    refine sumF_congr fun i _ _ => ?_
    simp only [List.getD_eq_getElem?_getD, List.getElem?_replicate]
    split <;> simp
theorem Nxt.some_ {l : Line} {nx : List Nat} {f : Nat} (h : Nxt l nx (f + 1)) : ∃ i, i < l.trains.length ∧ nx.getD i 0 < (l.tr i).legs.length := by
  refine Classical.byContradiction fun hn => ?_
  have h0 : sumF (fun i => ((l.tr i).legs.length : Int) - (nx.getD i 0 : Nat)) 0 l.trains.length = 0 := sumF_zero fun j _ hj => by
    have h1 := h.le j hj
    have h2 : ¬ nx.getD j 0 < (l.tr j).legs.length := fun h3 => hn ⟨j, hj, h3⟩
    omega
  have := h.sum
  omega
theorem Nxt.bump {l : Line} {nx : List Nat} {f b : Nat} (h : Nxt l nx (f + 1)) (hb : b < l.trains.length) (hk : nx.getD b 0 < (l.tr b).legs.length) : Nxt l (bump nx b) f where
  len := by simp [Go.Proofs.Ythhkbfjolmgloaa.bump, h.len]
  le := fun i hi => by
    rw [bump_get (by rw [h.len]; exact hb)]
    split
    · rename_i e; subst e; omega
    · exact h.le i hi
  sum := by
    have h1 := sumF_change (f := fun i => ((l.tr i).legs.length : Int) - (nx.getD i 0 : Nat)) (g := fun i => ((l.tr i).legs.length : Int) - ((Go.Proofs.Ythhkbfjolmgloaa.bump nx b).getD i 0 : Nat)) (i := 0) (n := l.trains.length) (k := b) (d := 1) (Nat.zero_le _) hb (fun j _ _ hj => by rw [bump_get (by rw [h.len]; exact hb), if_neg hj]) (by rw [bump_get (by rw [h.len]; exact hb), if_pos rfl]; omega)
    have := h.sum
    omega
theorem lt3 {B b1 b2 b3 : Nat} {c1 c2 c3 : Array Value} {t1 t2 t3 : TypeId} (h1 : b1 < B) (h2 : b2 < B) (h3 : b3 < B) : ∀ x, x ∈ [(b1, c1, t1), (b2, c2, t2), (b3, c3, t3)] → x.1 < B := by
  intro x hx
  simp only [List.mem_cons, List.not_mem_nil, or_false] at hx
  rcases hx with rfl | rfl | rfl
  · exact h1
  · exact h2
  · exact h3
def bestStep (l : Line) (p : List (List Int)) (nx : List Nat) : Nat → Int → Int := fun i b => if nx.getD i 0 < (l.tr i).legs.length ∧ (b < 0 ∨ st p i (nx.getD i 0) < st p b.toNat (nx.getD b.toNat 0)) then (i : Int) else b
theorem bestF_def (l : Line) (p : List (List Int)) (nx : List Nat) : bestF l p nx = foldF (bestStep l p nx) 0 l.trains.length (-1) := rfl
def BestOk (l : Line) (nx : List Nat) (i : Nat) (b : Int) : Prop := b = -1 ∨ ∃ c : Nat, b = c ∧ c < i ∧ nx.getD c 0 < (l.tr c).legs.length
set_option maxRecDepth 100000 in
set_option maxHeartbeats 8000000 in
theorem spec_Order_any {w : World} {l : Line} {p : List (List Int)} {u v : Value} (hl : IsLine w l u) (hp : IsPlan w p v) (hs : l.size ≤ 1048576) (hpn : p.length ≤ 1048576) (hpl : ∀ (i : Nat) (t : List Int), p[i]? = some t → t.length ≤ 1048576) :
    Calls Try.prog 53 #[u, v] w fun e w' => ∃ r N, e = .returned r ∧ N ≤ 5000 ∧ w'.ownsRow w.heap.size 3 1 r N (nums (orderA l p)) ∧ Ext w w' := by
  have HL := Lib.hid (fun (W : World) (e : Ext w W) => hl.ext e)
  have HP := Lib.hid (fun (W : World) (e : Ext w W) => hp.ext e)
  obtain ⟨A0, c0, A2, c2, rfl, h0, h2⟩ := hl
  obtain ⟨A3, c3, rfl, h3⟩ := hp
  have hs0 := Lib.hid hs; clear hs
  cases h : canB l p with
  | false =>
    have hA : Hid (orderA l p = []) := by simp [Hid, orderA, h]
    have h' : ((checkA l p).1 != 0) = true := by rw [bne, show ((checkA l p).1 == 0) = false from h]; rfl
    clear h h0 h2 h3
    generalize hf : checkA l p = f at *
    obtain ⟨a, b, c, d⟩ := f
    have HF := Lib.hid hf; clear hf
    simp only at h'
    go_enter Try.func53, Try.ntmps53
    go_wp2_with (go_at_call 43; refine (spec_Check_any (HL.out _ (by repeat (first | (with_reducible assumption) | (with_reducible exact Ext.refl _) | apply Ext.alloc | apply Ext.drewN | apply Ext.drew))) (HP.out _ (by repeat (first | (with_reducible assumption) | (with_reducible exact Ext.refl _) | apply Ext.alloc | apply Ext.drewN | apply Ext.drew))) hs0.out hpn hpl).mono ?_; rw [HF.out]; rintro e w1 ⟨rfl, hE⟩; simp only [clV]; have hS := (Lp.start2 w _ _ _ _).trans hE; obtain ⟨k1, k2, k3, k4, k5, k6⟩ := hS.open2)
    go_ret
    exact ⟨_, 0, rfl, by omega, by rw [hA.out]; exact World.ownsRow_nil _ _ _ _, Ext.trans hS.ext (by repeat (first | (with_reducible assumption) | (with_reducible exact Ext.refl _) | apply Ext.alloc | apply Ext.drewN | apply Ext.drew))⟩
  | true =>
    have hA : Hid (orderA l p = orderS l p (legsAll l) (List.replicate l.trains.length 0) []) := by simp [Hid, orderA, h]
    have HC := Lib.hid (canB_can h)
    have HK := Lib.hid HC.out.check
    obtain ⟨b3, o3, br, or', cr, SP⟩ := seeP HC.out.ok HC.out.fits h3
    clear h0 h2 h3 h
    have HQ := Lib.hid SP
    have HB := Lib.hid HC.out.ok.bd
    have n5 := HB.out.n5
    have HLN : Hid (legsN l.trains = legsAll l) := (legsAll_N l).symm
    have hL10 : legsAll l ≤ 10 := by rw [legsAll_N]; exact HC.out.ok.nlegs
    rw [HC.out.fits.rows] at HP ⊢
    clear SP
    have hmk := fun W => run_make_row' (P := Try.prog) 23 3 (.int .i64 0) 8 Try.underlying23 info3 rfl .i64 .i64 l.trains.length (by omega) (by omega) W
    rw [madeCells_int, numsN_zero] at hmk
    go_enter Try.func53, Try.ntmps53
    go_wp2_with (go_at_call 43; refine (spec_Check_any (HL.out _ (by repeat (first | (with_reducible assumption) | (with_reducible exact Ext.refl _) | apply Ext.alloc | apply Ext.drewN | apply Ext.drew))) (HP.out _ (by repeat (first | (with_reducible assumption) | (with_reducible exact Ext.refl _) | apply Ext.alloc | apply Ext.drewN | apply Ext.drew))) hs0.out hpn hpl).mono ?_; rw [HK.out]; rintro e w1 ⟨rfl, hE⟩; simp only [clV]; have hS := (Lp.start2 w _ _ _ _).trans hE; obtain ⟨k1, k2, k3, k4, k5, k6⟩ := hS.open2; have hX1 := hS.ext)
    clear hmk
    refine (l1legs_any (HL.out _ (Ext.trans hX1 (by repeat (first | (with_reducible assumption) | (with_reducible exact Ext.refl _) | apply Ext.alloc | apply Ext.drewN | apply Ext.drew)))) hs0.out).mono ?_
    rintro e w2 ⟨rfl, hE2⟩
    rw [HLN.out]
    have hS2 := ((hS.alloc (.cells #[.int .i64 0, .int .i64 0, .int .i64 0, .int .i64 0] 48)).newAt (g := w1.heap.size + 1) (numsN (List.replicate l.trains.length 0)) 3 (by rw [alloc_size])).trans hE2
    have hw1 : w.heap.size + 1 < w1.heap.size := k4
    have hw2 : w1.heap.size + 1 < w2.heap.size := hS2.open1.2.2.2
    clear hS hE hE2 hX1 k1 k2 k3 k4 k5 k6
    go_wp2_with fail
    go_loopw [6, 8] (fun out j wr => ∃ (f : Nat) (nx : List Nat) (D : List Int), j = .int .i64 f ∧ f ≤ 10 ∧ Hid (Nxt l nx f) ∧ Hid (orderA l p = orderS l p f nx D) ∧ Hid (D.length ≤ 10 - f) ∧ Hid (Own1 (w1.heap.size + 2) wr out D) ∧ Lp w wr [(w1.heap.size + 1, numsN nx, 3), (w.heap.size + 1, #[.slice A3 l.trains.length c3], 42), (w.heap.size, #[.slice A0 l.tracks.length c0, .int .i64 l.gap, .slice A2 l.trains.length c2], 33)]) (fun _ j _ => (intOf j).toNat)
    case atStart => exact ⟨legsAll l, _, [], rfl, hL10, Nxt.start l, hA.out, Nat.zero_le _, ⟨World.ownsRow_nil _ _ _ _, hw2⟩, hS2⟩
    case round =>
      clear hS2
      obtain ⟨f, nx, D, rfl, hf, HN, HO, HD, HR, hS⟩ := hrel
      cases f with
      | zero =>
        have hfin : Hid (D = orderA l p) := by unfold Hid; rw [HO.out]; rfl
        have hD5 : D.length ≤ 5000 := by have := HD.out; omega
        have hX := hS.ext
        clear hS
        go_wp2_with fail
        go_ret
        exact ⟨_, D.length, rfl, hD5, by rw [← hfin.out]; exact ownsRow_mono HR.out.1 (by omega), hX⟩
      | succ f =>
        obtain ⟨b, hb, hbn, hbk, _⟩ := bestF_spec (p := p) HN.out.some_
        have Hb := Lib.hid hb
        obtain ⟨rfl, hb3⟩ := HQ.out.base (by omega)
        obtain ⟨wo, rfl⟩ : ∃ wo, wo = wr := ⟨_, rfl⟩
        have hne := HN.out.len
        have HNE := Lib.hid hne
        obtain ⟨k1, k2, k3, k4, k5, k6, k7, k8⟩ := hS.open3
        clear hne hb
        go_wp2_with fail
        clear k1 k2 k3 k4 k5 k6 k7 k8
        go_loopw [9, 31] (fun bb j wr => ∃ (i : Nat) (b : Int), i ≤ l.trains.length ∧ j = .int .i64 i ∧ bb = .int .i64 b ∧ Hid (bestF l p nx = foldF (bestStep l p nx) i l.trains.length b) ∧ Hid (BestOk l nx i b) ∧ Ext wo wr ∧ Lp w wr [(w1.heap.size + 1, numsN nx, 3), (w.heap.size + 1, #[.slice (some ⟨b3, o3, none⟩) l.trains.length c3], 42), (w.heap.size, #[.slice A0 l.tracks.length c0, .int .i64 l.gap, .slice A2 l.trains.length c2], 33)]) (fun _ j _ => l.trains.length - (intOf j).toNat)
        case atStart => exact ⟨0, -1, Nat.zero_le _, rfl, rfl, rfl, Or.inl rfl, Ext.refl _, hS⟩
        case round =>
          clear hS
          obtain ⟨i, bb, hii, rfl, rfl, HF, HK2, hE, hS⟩ := hrel
          obtain ⟨k1, k2, k3, k4, k5, k6, k7, k8⟩ := hS.open3
          by_cases hli : i < l.trains.length
          · obtain ⟨r0, hbr⟩ := HQ.out.row i hli
            obtain ⟨q, HQi⟩ : ∃ q : Nat, Hid (nx.getD i 0 = q) := ⟨_, rfl⟩
            have n0 : wr.cell? ⟨w1.heap.size + 1, i, none⟩ = some (.int .i64 (q : Int)) := by rw [k3, numsN_at (by rw [HNE.out]; exact hli), HQi.out]
            have g3 : wr.cell? ⟨w.heap.size + 1, 0, none⟩ = some (.slice (some ⟨b3, o3, none⟩) l.trains.length c3) := k5 0
            have HF1 := Lib.hid (HF.out.trans (foldF_at (bestStep l p nx) hli bb))
            clear k3 k5 k7 HF
            by_cases hq : q < (l.tr i).legs.length
            · have s0 := HQ.out.st i q hli hq
              rcases HK2.out with hbm | ⟨c, hbc, hci, hck⟩
              · subst hbm
                have hst : Hid (bestStep l p nx i (-1) = (i : Int)) := by unfold Hid bestStep; rw [HQi.out, if_pos ⟨hq, Or.inl (by decide)⟩]
                have hbo : Hid (BestOk l nx (i + 1) (i : Int)) := Or.inr ⟨i, rfl, by omega, by rw [HQi.out]; exact hq⟩
                rw [hst.out] at HF1
                go_wp2_with fail
                go_quiet (fail)
                go_wp2_with fail
                exact ⟨⟨i + 1, i, by omega, by go_num, rfl, HF1.out, hbo, hE.trans (by repeat (first | (with_reducible assumption) | (with_reducible exact Ext.refl _) | apply Ext.alloc | apply Ext.drewN | apply Ext.drew)), (by repeat (first | (with_reducible exact hS) | apply Lp.alloc | apply Lp.drewN | apply Lp.drew))⟩, (by simp [intOf]; omega)⟩
              · subst hbc
                have hcn : c < l.trains.length := by omega
                obtain ⟨qc, HQc⟩ : ∃ q : Nat, Hid (nx.getD c 0 = q) := ⟨_, rfl⟩
                rw [HQc.out] at hck
                have n1 : wr.cell? ⟨w1.heap.size + 1, c, none⟩ = some (.int .i64 (qc : Int)) := by rw [(hS.open1).2.2.1, numsN_at (by rw [HNE.out]; exact hcn), HQc.out]
                obtain ⟨r1, hbr1⟩ := HQ.out.row c hcn
                have s1 := HQ.out.st c qc hcn hck
                have hd0 : decide ((c : Int) < 0) = false := by simp
                have hbo0 : Hid (BestOk l nx (i + 1) (c : Int)) := Or.inr ⟨c, rfl, by omega, by rw [HQc.out]; exact hck⟩
                have hbo : Hid (BestOk l nx (i + 1) (i : Int)) := Or.inr ⟨i, rfl, by omega, by rw [HQi.out]; exact hq⟩
                by_cases hlt : st p i q < st p c qc
                · have hst : Hid (bestStep l p nx i (c : Int) = (i : Int)) := by unfold Hid bestStep; rw [HQi.out, Int.toNat_natCast, HQc.out, if_pos ⟨hq, Or.inr hlt⟩]
                  rw [hst.out] at HF1
                  go_wp2_with fail
                  go_quiet (fail)
                  go_wp2_with fail
                  exact ⟨⟨i + 1, i, by omega, by go_num, rfl, HF1.out, hbo, hE.trans (by repeat (first | (with_reducible assumption) | (with_reducible exact Ext.refl _) | apply Ext.alloc | apply Ext.drewN | apply Ext.drew)), (by repeat (first | (with_reducible exact hS) | apply Lp.alloc | apply Lp.drewN | apply Lp.drew))⟩, (by simp [intOf]; omega)⟩
                · have hst : Hid (bestStep l p nx i (c : Int) = (c : Int)) := by unfold Hid bestStep; rw [HQi.out, Int.toNat_natCast, HQc.out, if_neg (by omega)]
                  have hd1 : decide (st p i q < st p c qc) = false := by simpa using hlt
                  rw [hst.out] at HF1
                  go_wp2_with fail
                  go_quiet (fail)
                  go_wp2_with fail
                  refine ⟨?_, (by simp [intOf]; omega)⟩
                  repeat apply Exists.intro (α := Value)
                  refine ⟨⟨i + 1, c, by omega, by go_num, rfl, HF1.out, hbo0, hE.trans (by repeat (first | (with_reducible assumption) | (with_reducible exact Ext.refl _) | apply Ext.alloc | apply Ext.drewN | apply Ext.drew)), (by repeat (first | (with_reducible exact hS) | apply Lp.alloc | apply Lp.drewN | apply Lp.drew))⟩, ?_⟩
                  rfl
            · have hst : Hid (bestStep l p nx i bb = bb) := by unfold Hid bestStep; rw [HQi.out, if_neg (fun h => hq h.1)]
              have hbo : Hid (BestOk l nx (i + 1) bb) := by
                rcases HK2.out with h | ⟨c, h1, h2, h3⟩
                · exact Or.inl h
                · exact Or.inr ⟨c, h1, by omega, h3⟩
              have hd1 : decide (q < (l.tr i).legs.length) = false := by simpa using hq
              rw [hst.out] at HF1
              go_wp2_with fail
              go_quiet (fail)
              go_wp2_with fail
              exact ⟨⟨i + 1, bb, by omega, by go_num, rfl, HF1.out, hbo, hE.trans (by repeat (first | (with_reducible assumption) | (with_reducible exact Ext.refl _) | apply Ext.alloc | apply Ext.drewN | apply Ext.drew)), (by repeat (first | (with_reducible exact hS) | apply Lp.alloc | apply Lp.drewN | apply Lp.drew))⟩, (by simp [intOf]; omega)⟩
          · have HE := Lib.hid (foldF_end (bestStep l p nx) (i := i) (n := l.trains.length) (by omega) bb)
            obtain rfl : bb = (b : Int) := by rw [← Hb.out, HF.out, HE.out]
            obtain ⟨q, HQb⟩ : ∃ q : Nat, Hid (nx.getD b 0 = q) := ⟨_, rfl⟩
            have HR1 := Lib.hid (HR.out.ext hE)
            have n0 : wr.cell? ⟨w1.heap.size + 1, b, none⟩ = some (.int .i64 (q : Int)) := by rw [k3, numsN_at (by rw [HNE.out]; exact hbn), HQb.out]
            rw [HQb.out] at hbk
            have hN' : D.length ≤ 1000000 := by have := HD.out; omega
            obtain ⟨_, a11⟩ := HB.out.nl1 b hbn
            clear k1 k2 k3 k4 k5 k6 k7 k8
            go_wp2_with (at_builtin; refine app_any rfl _ _ 23 rfl (w1.heap.size + 2) 3 1 8 _ Try.underlying23 info3 rfl (by decide) _ _ _ rfl (HR1.out.1.alloc _) (by rw [alloc_size]; exact Nat.le_succ_of_le HR1.out.2) _ _ #[.int .i64 b] _ rfl (box_new _ _) rfl (one_int _) hN' (by decide) _ rfl ?_)
            intro g cap w6 hown hgrow hg hlt
            have HR6 := Lib.hid (Own1.snoc hown hgrow HR1.out.2)
            have hS6 := hS.grew HR1.out.lt (by omega) (lt3 (by omega) (by omega) (by omega)) hgrow
            have n6 : w6.cell? ⟨w1.heap.size + 1, b, none⟩ = some (.int .i64 (q : Int)) := by rw [(hS6.open1).2.2.1, numsN_at (by rw [HNE.out]; exact hbn), HQb.out]
            have fr6 := box_frozen (hS6.box _ List.mem_cons_self) b
            have hlt6 := hS6.open1.2.2.2
            clear n0 hown hgrow hS hE HR1 HR hg
            go_wp2_with fail
            have hnx : numsN (bump nx b) = (numsN nx).setIfInBounds b (.int .i64 ((q : Int) + 1)) := by
              unfold Go.Proofs.Ythhkbfjolmgloaa.bump
              rw [numsN_set, HQb.out]; rfl
            have hset := hS6.set (by omega) (by
              intro x hx
              simp only [List.mem_cons, List.not_mem_nil, or_false] at hx
              rcases hx with rfl | rfl
              · simp only; omega
              · simp only; omega) b (.int .i64 ((q : Int) + 1))
            rw [← hnx] at hset
            have hgr := World.ownsRow.kept (w' := w6.setCell ⟨w1.heap.size + 1, b, none⟩ (.int .i64 ((q : Int) + 1))) (row := some (w1.heap.size + 1)) HR6.out.1 ⟨rfl, rfl, rfl, by simp, fun k _ hk => Below.heap_setCell w6 ⟨w1.heap.size + 1, b, none⟩ _ k (fun e => hk (by rw [e]))⟩ (Or.inr (by
              have := (HR6.out.lt g rfl).2
              simp only [Value.ownBlock, ne_eq, Option.some.injEq]; omega))
            refine ⟨⟨f, bump nx b, _, rfl, by omega, HN.out.bump hbn (by rw [HQb.out]; exact hbk), by rw [HO.out]; unfold Hid; simp only [orderS, Hb.out, Int.toNat_natCast], by have := HD.out; unfold Hid; simp only [List.length_append, List.length_singleton]; omega, ⟨hgr, by have := HR6.out.2; simp; exact this⟩, hset⟩, by simp [intOf]⟩
end Go.Proofs.Ythhkbfjolmgloaa
