/- impl's (*placer).next answers when a train's next leg is placed. Condition: the line is right, the legs were placed so. -/
import Derived.Test.YthhkbfjolmgloaaML13a
import Derived.StillTailTactics
import Derived.Deep.DeepCutAuto
import Derived.Deep.RegionHeld3
namespace Go.Proofs.Ythhkbfjolmgloaa
open Go.RowKit
set_option linter.unusedVariables false
set_option linter.unusedSimpArgs false
/-! ### Counting and the least do not hang on the order -/
theorem cnt_perm {E F : List Int} (h : E.Perm F) (a : Int) : cnt E a = cnt F a := h.countP_eq _
theorem lo_perm {E F : List Int} (h : E.Perm F) (a : Int) : lo E a = lo F a := by
  unfold lo
  obtain ⟨p1, p2, p3⟩ := loU_spec a E 1099511627776
  obtain ⟨q1, q2, q3⟩ := loU_spec a F 1099511627776
  rcases p2 with p2 | p2
  · rcases q2 with q2 | q2
    · omega
    · have := p3 _ (h.symm.subset q2.1) q2.2; omega
  · have e1 := q3 _ (h.subset p2.1) p2.2
    rcases q2 with q2 | q2
    · omega
    · have := p3 _ (h.symm.subset q2.1) q2.2; omega
theorem roomA_perm {E F : List Int} (h : E.Perm F) (c a : Int) : roomA E c a = roomA F c a := by
  have key : ∀ (f : Nat) (a : Int), room E c f a = room F c f a := by
    intro f
    induction f with
    | zero => intro a; rfl
    | succ f ih =>
      intro a
      simp only [room]
      rw [cnt_perm h, lo_perm h, ih]
  unfold roomA
  rw [cnt_perm h]
  exact key _ _
def endM (l : Line) (p : List (List Int)) (s : Int) (j m : Nat) (a : List Int) : List Int := if (l.leg j m).to = s then a ++ [endT l p j m] else a
theorem endsR_rl (l : Line) (p : List (List Int)) (s : Int) (j : Nat) (a : List Int) : endsR l p s j a = foldF (endM l p s j) 0 (rl p j) a := rfl
def stepV (o : Option Int) : Int := o.getD (-1)
theorem ready_from (l : Line) (p : List (List Int)) (i k : Nat) : readyT l p i k = fromT l p i k + (l.leg i k).stay := by
  unfold readyT fromT
  by_cases e : k = 0
  · subst e; rfl
  · rw [if_neg e, if_neg e]
def freeMI (l : Line) (p : List (List Int)) (i k j m : Nat) (a : Int) : Int := if j ≠ i ∧ (l.tr j).trk m = (l.tr i).trk k then max a (st p j m + (l.leg j m).run + l.gap) else a
theorem freeR_rlI (l : Line) (p : List (List Int)) (i k j : Nat) (a : Int) : freeR l p i k j a = foldF (freeMI l p i k j) 0 (rl p j) a := rfl
theorem openA1I {w wr : World} {bs : List (Nat × Array Value × TypeId)} {b1 : Nat} {cs1 : Array Value} {t1 : TypeId} (h : Lp w wr ((b1, cs1, t1) :: bs)) : Lp w wr ((b1, cs1, t1) :: bs) ∧ (∀ g o, g < w.heap.size → wr.cell? ⟨g, o, none⟩ = w.cell? ⟨g, o, none⟩) ∧ (∀ g, g < w.heap.size → g < wr.heap.size) ∧ (∀ j, wr.cell? ⟨b1, j, none⟩ = cs1[j]?) ∧ b1 < wr.heap.size := ⟨h, h.open1⟩
theorem app_keep {w wr w6 : World} {o : Obj} {B nb b2 : Nat} {c1 c2 : Array Value} {t1 t2 : TypeId} {v : Value} {E : List Int} {x : Int} {g cap : Nat} (HW : Own1 B wr v E) (HA : ∀ g, v.ownBlock = some g → g ≠ nb) (hS : Lp w wr [(nb, c1, t1), (b2, c2, t2)]) (hown : w6.ownsRow B 3 1 (.slice (some ⟨g, 0, none⟩) (E.length + 1) cap) (E.length + 1) (nums E ++ (#[Value.int .i64 x] : Array Value).toList)) (hgrow : (wr.alloc o).grownBy w6 v.ownBlock) (hg : v.ownBlock = some g ∨ g = wr.heap.size + 1) (hB : w.heap.size ≤ B) (hb2 : b2 < B) :
    Hid (Own1 B w6 (.slice (some ⟨g, 0, none⟩) (E.length + 1) cap) (E ++ [x])) ∧ Hid (∀ g', (Value.slice (some ⟨g, 0, none⟩) (E.length + 1) cap).ownBlock = some g' → g' ≠ nb) ∧ Lp w w6 [(nb, c1, t1), (b2, c2, t2)] := by
  have hnb : nb < wr.heap.size := box_lt (hS.box (nb, c1, t1) (by simp))
  refine ⟨Own1.snoc hown hgrow HW.2, fun g' h => ?_, (hS.alloc o).grown hgrow fun k hk => ⟨Nat.le_trans hB (HW.lt k hk).2, fun y hy => ?_⟩⟩
  · rw [ownBlock_slice] at h
    simp only [Option.some.injEq] at h
    subst h
    rcases hg with h | h
    · exact HA g h
    · omega
  · simp only [List.mem_cons, List.not_mem_nil, or_false] at hy
    rcases hy with rfl | rfl
    · exact fun e => HA k hk e.symm
    · have := (HW.lt k hk).2
      simp only; omega
theorem openA3' {w wr : World} {bs : List (Nat × Array Value × TypeId)} {b1 b2 b3 : Nat} {cs1 cs2 cs3 : Array Value} {t1 t2 t3 : TypeId} (h : Lp w wr ((b1, cs1, t1) :: (b2, cs2, t2) :: (b3, cs3, t3) :: bs)) : Lp w wr ((b1, cs1, t1) :: (b2, cs2, t2) :: (b3, cs3, t3) :: bs) ∧ (∀ g o, g < w.heap.size → wr.cell? ⟨g, o, none⟩ = w.cell? ⟨g, o, none⟩) ∧ (∀ g, g < w.heap.size → g < wr.heap.size) ∧ (∀ j, wr.cell? ⟨b1, j, none⟩ = cs1[j]?) ∧ b1 < wr.heap.size ∧ (∀ j, wr.cell? ⟨b2, j, none⟩ = cs2[j]?) ∧ b2 < wr.heap.size ∧ (∀ j, wr.cell? ⟨b3, j, none⟩ = cs3[j]?) ∧ b3 < wr.heap.size := ⟨h, h.open3⟩
set_option maxRecDepth 100000 in
set_option maxHeartbeats 8000000 in
theorem pnext_any {w : World} {l : Line} {p : List (List Int)} {last : Int} {gp : Nat} {A0 : Option Addr} {c0 : Nat} {A2 : Option Addr} {c2 : Nat} {AR : Option Addr} {cR gr : Nat} {br : Nat → Nat} (R : RdP w l p last gp A0 c0 A2 c2 AR cR gr br) (O : Ok l) (G : Good l p last) (hl : last ≤ 1000000) {i : Nat} (hi : i < l.trains.length) (hk : rl p i < (l.tr i).legs.length) :
    Calls Try.prog 91 #[.pointer (some ⟨gp, 0, none⟩), .int .i64 i] w fun e w' => e = .returned (.int .i64 (stepV (stepT l p last i))) ∧ Ext w w' := by
  obtain ⟨A0', c0', A2', c2', hv, h0, h2⟩ := R.line
  simp only [Value.agg.injEq, Array.mk.injEq, List.cons.injEq, Value.slice.injEq, and_true, true_and] at hv
  obtain ⟨⟨rfl, rfl⟩, rfl, rfl⟩ := hv
  obtain ⟨b0, o0, b2, o2, bl, ol, cl, SL⟩ := seeL O h0 h2
  clear h0 h2
  have F := G.few hl
  have HB := Lib.hid O.bd
  have HS := Lib.hid SL
  have HF := Lib.hid F
  have HR := Lib.hid R
  have HG := Lib.hid G
  have HO := Lib.hid O
  have n5 := HB.out.n5
  have n12 := HB.out.tracks
  have hgp := R.lt
  have p0 := R.b0
  have p1 := R.b1
  have p2 := R.b2
  have p3 := R.b3
  have p4 := R.b4
  obtain ⟨rfl, hgr⟩ := R.base (by omega)
  obtain ⟨rfl, hb2⟩ := SL.base2 (by omega)
  have hn2 := O.n2
  obtain ⟨rfl, hb0⟩ := SL.base0 (by omega)
  obtain ⟨e0, e1, e2, e3, e4, hbl⟩ := SL.train i hi
  obtain ⟨Ai, ci, r0, hbi⟩ := R.row i hi
  have HBI := Lib.hid hbi
  have n10 := HB.out.nl1 i hi
  have hlen := F.len i hi
  have HT := Lib.hid (SL.isTrain hi)
  have t0 := HB.out.tr i hi
  have hl0 := G.last0
  clear SL O F R G hbi
  obtain ⟨x0, x1, x2, x3, x4, x5⟩ := HB.out.leg i (rl p i) hi hk
  obtain ⟨f0, f1, f2⟩ := HS.out.leg i (rl p i) hi hk
  obtain ⟨sx, HSX⟩ : ∃ s, Hid ((l.leg i (rl p i)).to = s) := ⟨_, rfl⟩
  rw [HSX.out] at x0 x1 f0
  have hsx : sx < (l.tracks.length : Int) := by omega
  have hsx2 : ¬ (l.tracks.length : Int) ≤ sx := by omega
  have hsx3 : ¬ sx < 0 := by omega
  obtain ⟨ct, HCT⟩ : ∃ s, Hid (l.tk sx.toNat = s) := ⟨_, rfl⟩
  have tb := HB.out.tk sx.toNat x1
  have q0 := HS.out.tk sx.toNat x1
  rw [HCT.out] at tb q0
  obtain ⟨tb0, tb1⟩ := tb
  obtain ⟨tk0, HTK⟩ : ∃ a, Hid ((l.tr i).trk (rl p i) = a) := ⟨_, rfl⟩
  obtain ⟨a0, HA0⟩ : ∃ a, Hid (max (readyT l p i (rl p i)) last = a) := ⟨_, rfl⟩
  have hst : Hid (stepT l p last i = roomA (ends l p sx) ct (freeT l p i (rl p i) a0)) := by unfold Hid; rw [← HA0.out, ← HCT.out, ← HSX.out]; rfl
  have hf0 : 0 ≤ fromT l p i (rl p i) ∧ fromT l p i (rl p i) ≤ 1010000 := by
    unfold fromT
    by_cases e : rl p i = 0
    · rw [if_pos e]; omega
    · rw [if_neg e]
      have a1 := HF.out.at_ i (rl p i - 1) hi (by omega)
      have a2 := HB.out.leg i (rl p i - 1) hi (by omega)
      omega
  obtain ⟨hf00, hf01⟩ := hf0
  go_enter Try.func91, Try.ntmps91
  go_upto_if 39 with fail
  have hS := Lp.start1 w #[.int .i64 (l.tr i).frm, .int .i64 (l.tr i).ready, .int .i64 (l.tr i).due, .int .i64 (l.tr i).weight, .slice (some ⟨bl i, ol i, none⟩) (l.tr i).legs.length (cl i)] 80
  generalize w.alloc (.cells #[.int .i64 (l.tr i).frm, .int .i64 (l.tr i).ready, .int .i64 (l.tr i).due, .int .i64 (l.tr i).weight, .slice (some ⟨bl i, ol i, none⟩) (l.tr i).legs.length (cl i)] 80) = wa at hS ⊢
  obtain ⟨k1, k2, k3, k4⟩ := hS.open1
  go_cut [7] (fun s wx => s = .int .i64 (fromT l p i (rl p i)) ∧ Lp w wx [(w.heap.size, #[.int .i64 (l.tr i).frm, .int .i64 (l.tr i).ready, .int .i64 (l.tr i).due, .int .i64 (l.tr i).weight, .slice (some ⟨bl i, ol i, none⟩) (l.tr i).legs.length (cl i)], 80)])
  case first =>
    by_cases hz : rl p i = 0
    · have hv : Hid (fromT l p i (rl p i) = (l.tr i).ready) := by unfold Hid fromT; rw [if_pos hz]
      have hz1 : decide (0 < rl p i) = false := by simp; omega
      have hz2 : decide ((0 : Int) < (rl p i : Int)) = false := by simp; omega
      have hz3 : ¬ 0 < rl p i := by omega
      have HZ := Lib.hid hz; clear hz
      go_wp2_with fail
      go_meet
      exact ⟨i64_eq hv.out.symm, (by repeat (first | (with_reducible exact hS) | apply Lp.alloc | apply Lp.drewN | apply Lp.drew))⟩
    · obtain ⟨k, hkk⟩ : ∃ k, rl p i = k + 1 := ⟨rl p i - 1, by omega⟩
      have HKK := Lib.hid hkk
      have hkr : k < rl p i := by omega
      have hkl : k < (l.tr i).legs.length := by omega
      have hv : Hid (fromT l p i (rl p i) = st p i k + (l.leg i k).run) := by unfold Hid fromT; rw [if_neg hz, HKK.out]; rfl
      obtain ⟨rfl, hbr⟩ := HBI.out (by omega)
      have s0 := HR.out.st i k hi hkr
      obtain ⟨g0, g1, g2⟩ := HS.out.leg i k hi hkl
      obtain ⟨z0, z1⟩ := HF.out.at_ i k hi hkr
      obtain ⟨_, _, y1, y2, _, _⟩ := HB.out.leg i k hi hkl
      have hz1 : decide (0 < rl p i) = true := by simp; omega
      have hsub : ((rl p i : Int) - 1) = (k : Int) := by omega
      have hw : IntKind.i64.wrap ((rl p i : Int) - 1) = (k : Int) := by rw [hsub]; exact IntWalk.i64_in _ (by omega)
      clear hkk hz
      go_wp2_with fail
      go_quiet (fail)
      go_wp2_with fail
      go_meet
      exact ⟨i64_eq hv.out.symm, (by repeat (first | (with_reducible exact hS) | apply Lp.alloc | apply Lp.drewN | apply Lp.drew))⟩
  case rest =>
    obtain ⟨rfl, hS2⟩ := hcut
    clear k1 k2 k3 k4 hS
    have hS := hS2; clear hS2
    obtain ⟨k1, k2, k3, k4⟩ := hS.open1
    have hrf := Lib.hid (ready_from l p i (rl p i))
    go_upto_region 6 with fail
    go_cut [7] (fun s wx => s = .int .i64 a0 ∧ Lp w wx [(w.heap.size, #[.int .i64 (l.tr i).frm, .int .i64 (l.tr i).ready, .int .i64 (l.tr i).due, .int .i64 (l.tr i).weight, .slice (some ⟨bl i, ol i, none⟩) (l.tr i).legs.length (cl i)], 80)])
    case first =>
      by_cases hm : fromT l p i (rl p i) + (l.leg i (rl p i)).stay < last
      · have hv : Hid (a0 = last) := by unfold Hid; rw [← HA0.out, hrf.out]; omega
        have hm1 : max (fromT l p i (rl p i) + (l.leg i (rl p i)).stay) last = last := by omega
        go_quiet (fail)
        go_wp2_with fail
        go_meet
        exact ⟨i64_eq hv.out.symm, (by repeat (first | (with_reducible exact hS) | apply Lp.alloc | apply Lp.drewN | apply Lp.drew))⟩
      · have hv : Hid (a0 = fromT l p i (rl p i) + (l.leg i (rl p i)).stay) := by unfold Hid; rw [← HA0.out, hrf.out]; omega
        have hm1 : max (fromT l p i (rl p i) + (l.leg i (rl p i)).stay) last = fromT l p i (rl p i) + (l.leg i (rl p i)).stay := by omega
        go_quiet (fail)
        go_wp2_with fail
        go_meet
        exact ⟨i64_eq hv.out.symm, (by repeat (first | (with_reducible exact hS) | apply Lp.alloc | apply Lp.drewN | apply Lp.drew))⟩
    case rest =>
      obtain ⟨rfl, hS2⟩ := hcut
      clear k1 k2 k3 k4 hS
      have hS := hS2; clear hS2
      obtain ⟨k1, k2, k3, k4⟩ := hS.open1
      have ha0 : 0 ≤ a0 ∧ a0 ≤ 2000000 := by have := hrf.out; rw [← HA0.out]; omega
      obtain ⟨ha00, ha01⟩ := ha0
      have hX := hS.ext
      have htk : Hid (tk0 = min ((l.tr i).at_ (rl p i)) sx) := by unfold Hid; rw [← HTK.out, ← HSX.out]; rfl
      obtain ⟨at0, HAT⟩ : ∃ a, Hid ((l.tr i).at_ (rl p i) = a) := ⟨_, rfl⟩
      rw [HAT.out] at htk
      go_wp2_with fail
      refine (from_any (HT.out.ext (hX.trans (by repeat (first | (with_reducible assumption) | (with_reducible exact Ext.refl _) | apply Ext.alloc | apply Ext.drewN | apply Ext.drew)))) n10.2 hk).mono ?_
      rintro e w1 ⟨rfl, hE⟩
      rw [HAT.out]
      have hT := hS.trans (Ext.trans (by repeat (first | (with_reducible assumption) | (with_reducible exact Ext.refl _) | apply Ext.alloc | apply Ext.drewN | apply Ext.drew)) hE)
      clear k1 k2 k3 k4 hS hE hX
      have hS := hT; clear hT
      obtain ⟨k1, k2, k3, k4⟩ := hS.open1
      go_upto_region 10 with fail
      rw [← htk.out]
      clear k1 k2 k3 k4
      obtain ⟨k1, k2, k3, k4⟩ := hS.open1
      go_wp2_with fail
      clear k1 k2 k3 k4
      have hw1 : w.heap.size + 1 ≤ w1.heap.size := hS.open1.2.2.2
      go_loopw [7, 10, 89] (fun at_ es j wr => ∃ (jj : Nat) (a : Int) (E : List Int), jj ≤ l.trains.length ∧ j = .int .i64 jj ∧ at_ = .int .i64 a ∧ 0 ≤ a ∧ a ≤ 2000000 ∧ Hid (freeT l p i (rl p i) a0 = foldF (freeR l p i (rl p i)) jj l.trains.length a) ∧ Hid (ends l p sx = foldF (endsR l p sx) jj l.trains.length E) ∧ Hid (E.length ≤ 10 * jj) ∧ Hid (Own1 (w.heap.size + 1) wr es E) ∧ Lp w wr [(w.heap.size, #[.int .i64 (l.tr i).frm, .int .i64 (l.tr i).ready, .int .i64 (l.tr i).due, .int .i64 (l.tr i).weight, .slice (some ⟨bl i, ol i, none⟩) (l.tr i).legs.length (cl i)], 80)]) (fun _ _ j _ => l.trains.length - (intOf j).toNat)
      case atStart => exact ⟨0, a0, [], Nat.zero_le _, rfl, rfl, ha00, ha01, rfl, rfl, Nat.zero_le _, ⟨World.ownsRow_nil _ _ _ _, hw1⟩, hS⟩
      case round =>
        clear hS
        obtain ⟨jj, a, E, hjj, rfl, rfl, hq0, hq1, HFa, HC, HL, HW, hS⟩ := hrel
        obtain ⟨k1, k2, k3, k4⟩ := hS.open1
        by_cases hlt : jj < l.trains.length
        · obtain ⟨d0, d1, d2, d3, d4, hbj0⟩ := HS.out.train jj hlt
          obtain ⟨Aj, cj, q0', hbj⟩ := HR.out.row jj hlt
          obtain ⟨m10, m11⟩ := HB.out.nl1 jj hlt
          have hlenj := HF.out.len jj hlt
          have HBJ := Lib.hid hbj; clear hbj
          have HTJ := Lib.hid (HS.out.isTrain hlt)
          have hw0 : w.heap.size + 1 ≤ wr.heap.size := k4
          obtain ⟨wo, rfl⟩ : ∃ wo, wo = wr := ⟨_, rfl⟩
          go_wp2_with fail
          have hS0 := hS.newAt #[.int .i64 (l.tr jj).frm, .int .i64 (l.tr jj).ready, .int .i64 (l.tr jj).due, .int .i64 (l.tr jj).weight, .slice (some ⟨bl jj, ol jj, none⟩) (l.tr jj).legs.length (cl jj)] 80 rfl
          have HW0 : Hid (Own1 (w.heap.size + 1) (wo.alloc (.cells #[.int .i64 (l.tr jj).frm, .int .i64 (l.tr jj).ready, .int .i64 (l.tr jj).due, .int .i64 (l.tr jj).weight, .slice (some ⟨bl jj, ol jj, none⟩) (l.tr jj).legs.length (cl jj)] 80)) u10 E) := HW.out.ext ((Ext.refl _).alloc _)
          have HAP0 : Hid (∀ g, u10.ownBlock = some g → g ≠ wo.heap.size) := fun g hg => by have := (HW.out.lt g hg).1; omega
          clear k1 k2 k3 k4
          go_loopw [7, 10, 102] (fun at_ es j wr => ∃ (m : Nat) (a : Int) (E : List Int), m ≤ (rl p jj) ∧ j = .int .i64 m ∧ at_ = .int .i64 a ∧ 0 ≤ a ∧ a ≤ 2000000 ∧ Hid (freeT l p i (rl p i) a0 = foldF (freeR l p i (rl p i)) (jj + 1) l.trains.length (foldF (freeMI l p i (rl p i) jj) m (rl p jj) a)) ∧ Hid (ends l p sx = foldF (endsR l p sx) (jj + 1) l.trains.length (foldF (endM l p sx jj) m (rl p jj) E)) ∧ Hid (E.length ≤ 10 * jj + m) ∧ Hid (Own1 (w.heap.size + 1) wr es E) ∧ Hid (∀ g, es.ownBlock = some g → g ≠ wo.heap.size) ∧ Lp w wr [(wo.heap.size, #[.int .i64 (l.tr jj).frm, .int .i64 (l.tr jj).ready, .int .i64 (l.tr jj).due, .int .i64 (l.tr jj).weight, .slice (some ⟨bl jj, ol jj, none⟩) (l.tr jj).legs.length (cl jj)], 80), (w.heap.size, #[.int .i64 (l.tr i).frm, .int .i64 (l.tr i).ready, .int .i64 (l.tr i).due, .int .i64 (l.tr i).weight, .slice (some ⟨bl i, ol i, none⟩) (l.tr i).legs.length (cl i)], 80)]) (fun _ _ j _ => (rl p jj) - (intOf j).toNat)
          case atStart => exact ⟨0, a, E, Nat.zero_le _, rfl, rfl, hq0, hq1, by rw [HFa.out, foldF_at _ hlt]; rfl, by rw [HC.out, foldF_at _ hlt]; rfl, HL.out, HW0, HAP0, hS0⟩
          case round =>
            clear HFa HC HL HW HW0 HAP0 hS hS0 hq0 hq1
            obtain ⟨m, a, E, hm, rfl, rfl, hq0, hq1, HFa, HC, HL, HW, HAP, hS⟩ := hrel
            obtain ⟨k1, k2, k3, k4, k5, k6⟩ := hS.open2
            by_cases hlm : m < (rl p jj)
            · as_aux_lemma =>
                obtain ⟨rfl, hbr⟩ := HBJ.out (by omega)
                have hml : m < (l.tr jj).legs.length := by omega
                obtain ⟨f0', f1', f2'⟩ := HS.out.leg jj m hlt hml
                obtain ⟨_, _, y1, y2, _, _⟩ := HB.out.leg jj m hlt hml
                have s0 := HR.out.st jj m hlt hlm
                obtain ⟨z0, z1⟩ := HF.out.at_ jj m hlt hlm
                obtain ⟨g0, g1⟩ := HB.out.gap
                have HN := Lib.hid (foldF_at (freeMI l p i (rl p i) jj) hlm a)
                have HN2 := Lib.hid (foldF_at (endM l p sx jj) hlm E)
                have hm10 : m < 10 := by omega
                obtain ⟨tkj, HTKJ⟩ : ∃ a, Hid ((l.tr jj).trk m = a) := ⟨_, rfl⟩
                obtain ⟨atj, HATJ⟩ : ∃ a, Hid ((l.tr jj).at_ m = a) := ⟨_, rfl⟩
                obtain ⟨toj, HTOJ⟩ : ∃ a, Hid ((l.leg jj m).to = a) := ⟨_, rfl⟩
                have htkj : Hid (tkj = min atj toj) := by unfold Hid; rw [← HTKJ.out, ← HATJ.out, ← HTOJ.out]; rfl
                rw [HTOJ.out] at f0'
                have HCT : Hid (∀ W, Ext w W → Calls Try.prog 96 #[.agg #[.int .i64 (l.tr jj).frm, .int .i64 (l.tr jj).ready, .int .i64 (l.tr jj).due, .int .i64 (l.tr jj).weight, .slice (some ⟨bl jj, ol jj, none⟩) ((l.tr jj).legs.length) (cl jj)], .int .i64 m] W fun e w' => e = .returned (.int .i64 atj) ∧ Ext W w') := fun W e => by rw [← HATJ.out]; exact from_any (HTJ.out.ext e) m11 hml
                go_upto_region 17 with fail
                have hS1 := hS.newAt #[.int .i64 toj, .int .i64 (l.leg jj m).run, .int .i64 (l.leg jj m).stay] 84 rfl
                clear k1 k2 k3 k4 k5 k6
                go_cut [124] (fun s wx => ∃ q : Bool, s = .bool q ∧ Hid (q = decide (jj ≠ i ∧ tkj = tk0)) ∧ Lp w wx [(wr.heap.size, #[.int .i64 toj, .int .i64 (l.leg jj m).run, .int .i64 (l.leg jj m).stay], 84), (wo.heap.size, #[.int .i64 (l.tr jj).frm, .int .i64 (l.tr jj).ready, .int .i64 (l.tr jj).due, .int .i64 (l.tr jj).weight, .slice (some ⟨bl jj, ol jj, none⟩) (l.tr jj).legs.length (cl jj)], 80), (w.heap.size, #[.int .i64 (l.tr i).frm, .int .i64 (l.tr i).ready, .int .i64 (l.tr i).due, .int .i64 (l.tr i).weight, .slice (some ⟨bl i, ol i, none⟩) (l.tr i).legs.length (cl i)], 80)] ∧ Ext wr wx)
                case first =>
                  have hEg : Ext wr (wr.alloc (.cells #[.int .i64 toj, .int .i64 (l.leg jj m).run, .int .i64 (l.leg jj m).stay] 84)) := (Ext.refl _).alloc _
                  by_cases c1 : jj = i
                  · have c1' : ((jj : Int) != (i : Int)) = false := by simp [c1]
                    have hq : Hid (false = decide (jj ≠ i ∧ tkj = tk0)) := by unfold Hid; simp [c1]
                    clear c1
                    generalize wr.alloc (.cells #[.int .i64 toj, .int .i64 (l.leg jj m).run, .int .i64 (l.leg jj m).stay] 84) = wb at hS1 hEg ⊢
                    go_quiet (fail)
                    go_wp2_with fail
                    go_meet
                    exact ⟨false, rfl, hq, by repeat (first | (with_reducible exact hS1) | apply Lp.drewN | apply Lp.drew), hEg.trans (by repeat (first | (with_reducible assumption) | (with_reducible exact Ext.refl _) | apply Ext.alloc | apply Ext.drewN | apply Ext.drew))⟩
                  · have c1' : ((jj : Int) != (i : Int)) = true := by simp; omega
                    have hu : undef = Value.tuple #[] := rfl
                    by_cases a2 : toj < atj
                    all_goals
                      first
                      | go_region_held3 (fun W => Lp w W [(wr.heap.size, #[.int .i64 toj, .int .i64 (l.leg jj m).run, .int .i64 (l.leg jj m).stay], 84), (wo.heap.size, #[.int .i64 (l.tr jj).frm, .int .i64 (l.tr jj).ready, .int .i64 (l.tr jj).due, .int .i64 (l.tr jj).weight, .slice (some ⟨bl jj, ol jj, none⟩) (l.tr jj).legs.length (cl jj)], 80), (w.heap.size, #[.int .i64 (l.tr i).frm, .int .i64 (l.tr i).ready, .int .i64 (l.tr i).due, .int .i64 (l.tr i).weight, .slice (some ⟨bl i, ol i, none⟩) (l.tr i).legs.length (cl i)], 80)] ∧ (∀ g o, g < w.heap.size → W.cell? ⟨g, o, none⟩ = w.cell? ⟨g, o, none⟩) ∧ (∀ g, g < w.heap.size → g < W.heap.size) ∧ (∀ j, W.cell? ⟨wr.heap.size, j, none⟩ = (#[.int .i64 toj, .int .i64 (l.leg jj m).run, .int .i64 (l.leg jj m).stay] : Array Value)[j]?) ∧ wr.heap.size < W.heap.size ∧ (∀ j, W.cell? ⟨wo.heap.size, j, none⟩ = (#[.int .i64 (l.tr jj).frm, .int .i64 (l.tr jj).ready, .int .i64 (l.tr jj).due, .int .i64 (l.tr jj).weight, .slice (some ⟨bl jj, ol jj, none⟩) (l.tr jj).legs.length (cl jj)] : Array Value)[j]?) ∧ wo.heap.size < W.heap.size ∧ (∀ j, W.cell? ⟨w.heap.size, j, none⟩ = (#[.int .i64 (l.tr i).frm, .int .i64 (l.tr i).ready, .int .i64 (l.tr i).due, .int .i64 (l.tr i).weight, .slice (some ⟨bl i, ol i, none⟩) (l.tr i).legs.length (cl i)] : Array Value)[j]?) ∧ w.heap.size < W.heap.size) (first | assumption | exact openA3' hS1.drew | exact openA3' (Lp.trans (And.left (by assumption)) (by assumption))) (first                       | (go_at_call 96; have hX := Lp.ext (And.left (by assumption : Lp w _ _ ∧ _)); with_reducible refine (HCT.out _ hX).mono ?_; rintro e w5 ⟨rfl, hE5⟩))
                      | fail
                      all_goals
                        go_wp2_with fail
                        go_meet
                        exact ⟨decide (jj ≠ i ∧ tkj = tk0), by rw [htkj.out]; congr 1; rw [Bool.eq_iff_iff]; simp; omega, rfl, And.left (by assumption), hEg.trans (Ext.trans (Ext.refl _).drew hE5)⟩
                case rest =>
                  obtain ⟨q, rfl, HQ, hS2, hE2⟩ := hcut
                  have HW2 := Lib.hid (HW.out.ext hE2)
                  have hwo := hS2.tail.open1.2.2.2
                  clear hS hS1 HW hE2
                  obtain ⟨wq, rfl⟩ : ∃ wq, wq = wc := ⟨_, rfl⟩
                  obtain ⟨k1, k2, k3, k4, k5, k6, k7, k8⟩ := hS2.open3
                  go_upto_if 124 with fail
                  go_cut [7] (fun s wx => s = .int .i64 (freeMI l p i (rl p i) jj m a) ∧ Lp w wx [(wr.heap.size, #[.int .i64 toj, .int .i64 (l.leg jj m).run, .int .i64 (l.leg jj m).stay], 84), (wo.heap.size, #[.int .i64 (l.tr jj).frm, .int .i64 (l.tr jj).ready, .int .i64 (l.tr jj).due, .int .i64 (l.tr jj).weight, .slice (some ⟨bl jj, ol jj, none⟩) (l.tr jj).legs.length (cl jj)], 80), (w.heap.size, #[.int .i64 (l.tr i).frm, .int .i64 (l.tr i).ready, .int .i64 (l.tr i).due, .int .i64 (l.tr i).weight, .slice (some ⟨bl i, ol i, none⟩) (l.tr i).legs.length (cl i)], 80)] ∧ Ext wq wx)
                  case first =>
                    cases q with
                    | false =>
                      have hv : Hid (freeMI l p i (rl p i) jj m a = a) := by unfold Hid freeMI; rw [if_neg (fun h => of_decide_eq_false HQ.out.symm ⟨h.1, by rw [← HTKJ.out, ← HTK.out, h.2]⟩)]
                      go_wp2_with fail
                      go_meet
                      exact ⟨i64_eq hv.out.symm, hS2, Ext.refl _⟩
                    | true =>
                      have hcd : Hid (jj ≠ i ∧ tkj = tk0) := of_decide_eq_true (p := jj ≠ i ∧ tkj = tk0) HQ.out.symm
                      by_cases c3 : a < st p jj m + (l.leg jj m).run + l.gap
                      · have hv : Hid (freeMI l p i (rl p i) jj m a = st p jj m + (l.leg jj m).run + l.gap) := by unfold Hid freeMI; rw [if_pos ⟨hcd.out.1, by rw [HTKJ.out, HTK.out, hcd.out.2]⟩]; omega
                        have hm1 : max a (st p jj m + (l.leg jj m).run + l.gap) = st p jj m + (l.leg jj m).run + l.gap := by omega
                        go_wp2_with fail
                        go_quiet (fail)
                        go_wp2_with fail
                        go_meet
                        exact ⟨i64_eq hv.out.symm, by repeat (first | (with_reducible exact hS2) | apply Lp.drewN | apply Lp.drew), (by repeat (first | (with_reducible assumption) | (with_reducible exact Ext.refl _) | apply Ext.alloc | apply Ext.drewN | apply Ext.drew))⟩
                      · have hv : Hid (freeMI l p i (rl p i) jj m a = a) := by unfold Hid freeMI; rw [if_pos ⟨hcd.out.1, by rw [HTKJ.out, HTK.out, hcd.out.2]⟩]; omega
                        have hm1 : max a (st p jj m + (l.leg jj m).run + l.gap) = a := by omega
                        go_wp2_with fail
                        go_quiet (fail)
                        go_wp2_with fail
                        go_meet
                        exact ⟨i64_eq hv.out.symm, by repeat (first | (with_reducible exact hS2) | apply Lp.drewN | apply Lp.drew), (by repeat (first | (with_reducible assumption) | (with_reducible exact Ext.refl _) | apply Ext.alloc | apply Ext.drewN | apply Ext.drew))⟩
                  case rest =>
                    obtain ⟨rfl, hS3, hE3⟩ := hcut
                    have HW3 := Lib.hid (HW2.out.ext hE3)
                    obtain ⟨fa, HFM⟩ : ∃ b, Hid (freeMI l p i (rl p i) jj m a = b) := ⟨_, rfl⟩
                    have HF7 : Hid (freeT l p i (rl p i) a0 = foldF (freeR l p i (rl p i)) (jj + 1) l.trains.length (foldF (freeMI l p i (rl p i) jj) (m + 1) (rl p jj) fa)) := by unfold Hid; rw [HFa.out, HN.out, HFM.out]
                    have hfa : 0 ≤ fa ∧ fa ≤ 2000000 := by
                      rw [← HFM.out]
                      unfold freeMI
                      split
                      · omega
                      · omega
                    obtain ⟨hfa0, hfa1⟩ := hfa
                    rw [HFM.out]
                    clear k1 k2 k3 k4 k5 k6 k7 k8 hS2 HW2 hE3 HFa HN HFM
                    have hS := hS3; clear hS3
                    have HW := HW3; clear HW3
                    obtain ⟨k1, k2, k3, k4, k5, k6, k7, k8⟩ := hS.open3
                    have hN : E.length ≤ 1000000 := by have := HL.out; omega
                    have hwo2 : w.heap.size + 1 ≤ wc.heap.size := HW.out.2
                    by_cases c1 : toj = sx
                    · have c1' : (toj == sx) = true := by simp [c1]
                      have C1 : Hid ((l.leg jj m).to = sx) := by unfold Hid; rw [HTOJ.out, c1]
                      clear c1
                      by_cases c2 : m + 1 < (rl p jj)
                      · have s1 := HR.out.st jj (m + 1) hlt c2
                        have hv2 : Hid (endM l p sx jj m E = E ++ [st p jj (m + 1)]) := by unfold Hid endM; rw [if_pos C1.out, endT_rl, if_pos c2]
                        go_wp2_with (at_builtin; refine app_any rfl _ _ 23 rfl (w.heap.size + 1) 3 1 8 _ Try.underlying23 info3 rfl (by decide) _ _ _ rfl (HW.out.1.alloc _) (by rw [alloc_size]; exact Nat.le_succ_of_le hwo2) _ _ #[.int .i64 (st p jj (m + 1))] _ rfl (box_new _ _) rfl (one_int _) hN (by decide) _ rfl ?_)
                        intro g cap w6 hown hgrow hg hlt6
                        obtain ⟨HW6, HA6, hS6⟩ := app_keep HW.out HAP.out hS.tail hown hgrow hg (by omega) (by omega)
                        clear hown hgrow hg k1 k2 k3 k4 k5 k6 k7 k8
                        go_wp2_with fail
                        exact ⟨⟨m + 1, _, _, by omega, by go_num, rfl, hfa0, hfa1, HF7.out, by rw [HC.out, HN2.out, hv2.out]; rfl, by have := HL.out; unfold Hid; simp only [List.length_append, List.length_singleton]; omega, HW6, HA6, hS6⟩, (by simp [intOf]; omega)⟩
                      · by_cases c3 : m + 1 = (l.tr jj).legs.length
                        · have c3' : ((m : Int) + 1 == ((l.tr jj).legs.length : Int)) = true := by simp; omega
                          have hv2 : Hid (endM l p sx jj m E = E ++ [st p jj m + (l.leg jj m).run]) := by unfold Hid endM; rw [if_pos C1.out, endT_rl, if_neg c2, if_pos c3]
                          clear c3
                          go_wp2_with (at_builtin; refine app_any rfl _ _ 23 rfl (w.heap.size + 1) 3 1 8 _ Try.underlying23 info3 rfl (by decide) _ _ _ rfl (HW.out.1.alloc _) (by rw [alloc_size]; exact Nat.le_succ_of_le hwo2) _ _ #[.int .i64 (st p jj m + (l.leg jj m).run)] _ rfl (box_new _ _) rfl (one_int _) hN (by decide) _ rfl ?_)
                          intro g cap w6 hown hgrow hg hlt6
                          obtain ⟨HW6, HA6, hS6⟩ := app_keep HW.out HAP.out hS.tail hown hgrow hg (by omega) (by omega)
                          clear hown hgrow hg k1 k2 k3 k4 k5 k6 k7 k8
                          go_wp2_with fail
                          exact ⟨⟨m + 1, _, _, by omega, by go_num, rfl, hfa0, hfa1, HF7.out, by rw [HC.out, HN2.out, hv2.out]; rfl, by have := HL.out; unfold Hid; simp only [List.length_append, List.length_singleton]; omega, HW6, HA6, hS6⟩, (by simp [intOf]; omega)⟩
                        · have c3' : ((m : Int) + 1 == ((l.tr jj).legs.length : Int)) = false := by simp; omega
                          have hv2 : Hid (endM l p sx jj m E = E ++ [1099511627776]) := by unfold Hid endM; rw [if_pos C1.out, endT_rl, if_neg c2, if_neg c3]
                          clear c3
                          go_wp2_with (at_builtin; refine app_any rfl _ _ 23 rfl (w.heap.size + 1) 3 1 8 _ Try.underlying23 info3 rfl (by decide) _ _ _ rfl (HW.out.1.alloc _) (by rw [alloc_size]; exact Nat.le_succ_of_le hwo2) _ _ #[.int .i64 (1099511627776)] _ rfl (box_new _ _) rfl (one_int _) hN (by decide) _ rfl ?_)
                          intro g cap w6 hown hgrow hg hlt6
                          obtain ⟨HW6, HA6, hS6⟩ := app_keep HW.out HAP.out hS.tail hown hgrow hg (by omega) (by omega)
                          clear hown hgrow hg k1 k2 k3 k4 k5 k6 k7 k8
                          go_wp2_with fail
                          exact ⟨⟨m + 1, _, _, by omega, by go_num, rfl, hfa0, hfa1, HF7.out, by rw [HC.out, HN2.out, hv2.out]; rfl, by have := HL.out; unfold Hid; simp only [List.length_append, List.length_singleton]; omega, HW6, HA6, hS6⟩, (by simp [intOf]; omega)⟩
                    · have c1' : (toj == sx) = false := by simp [c1]
                      have hv2 : Hid (endM l p sx jj m E = E) := by unfold Hid endM; rw [if_neg (fun h => c1 (by rw [← HTOJ.out, h]))]
                      clear c1
                      have hS9 := hS.tail
                      go_wp2_with fail
                      exact ⟨⟨m + 1, _, E, by omega, by go_num, rfl, hfa0, hfa1, HF7.out, by rw [HC.out, HN2.out, hv2.out]; rfl, by have := HL.out; unfold Hid; omega, HW, HAP, hS9⟩, (by simp [intOf]; omega)⟩
            · have HE := Lib.hid (foldF_end (freeMI l p i (rl p i) jj) (i := m) (n := rl p jj) (by omega) a)
              have HE2 := Lib.hid (foldF_end (endM l p sx jj) (i := m) (n := rl p jj) (by omega) E)
              have hS9 := hS.tail
              go_wp2_with fail
              exact ⟨⟨jj + 1, a, E, by omega, by go_num, rfl, hq0, hq1, by rw [HFa.out, HE.out]; rfl, by rw [HC.out, HE2.out]; rfl, by have := HL.out; unfold Hid; omega, HW, hS9⟩, (by simp [intOf]; omega)⟩
        · have HE1 := Lib.hid (foldF_end (freeR l p i (rl p i)) (i := jj) (n := l.trains.length) (by omega) a)
          have HE2 := Lib.hid (foldF_end (endsR l p sx) (i := jj) (n := l.trains.length) (by omega) E)
          have hst2 : Hid (stepT l p last i = roomA E ct a) := by unfold Hid; rw [hst.out, HFa.out, HE1.out, HC.out, HE2.out]
          have hL60 : E.length ≤ 60 := by have := HL.out; omega
          clear HFa HC HE1 HE2 hst HL
          rcases HW.out.open_ with ⟨hE, hv⟩ | ⟨g, cap, cs, hv, hgB, hgb, hI⟩
          · have hsome : Hid (stepV (stepT l p last i) = a) := by unfold Hid; rw [hst2.out, hE, roomA_hit (by simp [cnt]; omega)]; rfl
            have hXe := hS.ext
            have hct0 : decide ((0 : Int) < ct) = true := by simp; omega
            clear hE HW
            subst hv
            go_wp2_with (go_at_call 131; refine (Try.slices_Sort_int_none none 0 _).mono ?_; rintro e w5 ⟨rfl, rfl⟩)
            refine wp_loop_rounds 1 ?_
            rw [rounds_succ]
            go_wp2_with fail
            refine wp_loop_rounds 1 ?_
            rw [rounds_succ]
            go_wp2_with fail
            go_ret
            exact ⟨ret_i64 hsome.out.symm, hXe⟩
          · as_aux_lemma =>
              have hsort := Lib.hid (sortInts_any (cap := cap) hgb hI (by omega))
              clear HW hI k1 k2 k3 k4
              subst hv
              go_wp2_with (go_at_call 131; refine hsort.out.mono ?_; rintro e w5 ⟨rfl, S, cs5, hSp, hb5, hI5, hM5⟩)
              have hS5 := (Lp.marked hS hM5 (by omega) (fun x hx => by simp only [List.mem_cons, List.not_mem_nil, or_false] at hx; subst hx; simp only; omega)).add hb5
              have hst5 : Hid (stepT l p last i = roomA S ct a) := by unfold Hid; rw [hst2.out, roomA_perm hSp]
              have HI := Lib.hid hI5
              have hLS := hSp.length_eq
              rw [← hLS] at hL60
              rw [← hLS]
              have hne : g ≠ w.heap.size := by omega
              clear hsort hS hM5 hSp hb5 hI5 hst2 hLS hgb
              go_wp2_with fail
              go_loopw [7] (fun at_ wr => ∃ x : Int, at_ = .int .i64 x ∧ 0 ≤ x ∧ x ≤ 1099511627776 ∧ Hid (stepT l p last i = roomA S ct x) ∧ Lp w wr [(g, cs5, 3), (w.heap.size, #[.int .i64 (l.tr i).frm, .int .i64 (l.tr i).ready, .int .i64 (l.tr i).due, .int .i64 (l.tr i).weight, .slice (some ⟨bl i, ol i, none⟩) (l.tr i).legs.length (cl i)], 80)]) (fun at_ _ => cnt S (intOf at_))
              case atStart => exact ⟨a, rfl, hq0, by omega, hst5.out, hS5⟩
              case round =>
                clear hS5 hst5 hq0 hq1
                obtain ⟨x, rfl, hx0, hx1, HX, hS⟩ := hrel
                obtain ⟨k1, k2, k3, k4, k5, k6⟩ := hS.open2
                go_wp2_with fail
                clear k1 k2 k3 k4 k5 k6
                go_loopw [16, 17, 190] (fun nn ff j wr => ∃ (q n : Nat) (f : Int), q ≤ S.length ∧ j = .int .i64 q ∧ nn = .int .i64 (n : Int) ∧ ff = .int .i64 f ∧ n ≤ q ∧ Hid ((cnt S x : Int) = (n : Int) + cnt (S.drop q) x) ∧ Hid (lo S x = loU x (S.drop q) f) ∧ Lp w wr [(g, cs5, 3), (w.heap.size, #[.int .i64 (l.tr i).frm, .int .i64 (l.tr i).ready, .int .i64 (l.tr i).due, .int .i64 (l.tr i).weight, .slice (some ⟨bl i, ol i, none⟩) (l.tr i).legs.length (cl i)], 80)]) (fun _ _ j _ => S.length - (intOf j).toNat)
                case atStart => exact ⟨0, 0, 1099511627776, Nat.zero_le _, rfl, rfl, rfl, Nat.le_refl _, by simp [Hid], by simp [Hid, lo], hS⟩
                case round =>
                  clear hS
                  obtain ⟨q, n, f, hq, rfl, rfl, rfl, hnq, HC, HLo, hS⟩ := hrel
                  obtain ⟨k1, k2, k3, k4, k5, k6⟩ := hS.open2
                  by_cases hlq : q < S.length
                  · obtain ⟨e, he⟩ := hid_of_lt hlq
                    have hc0 := (k3 q).trans (HI.out q hlq)
                    rw [getD_some he.out] at hc0
                    have HC1 := Lib.hid (cnt_drop (x := x) he.out)
                    have HL1 := Lib.hid (loU_drop (x := x) (u := f) he.out)
                    clear k1 k3
                    by_cases h1 : x ≤ e
                    · by_cases h2 : e < f
                      · have hm1 : min f e = e := by omega
                        have hv : Hid (loStep x f e = e) := by unfold Hid loStep; rw [if_pos ⟨h1, h2⟩]
                        go_wp2_with fail
                        exact ⟨⟨q + 1, n + 1, e, by omega, by go_num, by go_num, by first | rfl | rw [hm1], by omega, by rw [HC.out, HC1.out, if_pos h1]; unfold Hid; omega, by rw [HLo.out, HL1.out, hv.out]; rfl, hS⟩, (by simp [intOf]; omega)⟩
                      · have hm1 : min f e = f := by omega
                        have hv : Hid (loStep x f e = f) := by unfold Hid loStep; rw [if_neg (fun h => h2 h.2)]
                        go_wp2_with fail
                        exact ⟨⟨q + 1, n + 1, f, by omega, by go_num, by go_num, by first | rfl | rw [hm1], by omega, by rw [HC.out, HC1.out, if_pos h1]; unfold Hid; omega, by rw [HLo.out, HL1.out, hv.out]; rfl, hS⟩, (by simp [intOf]; omega)⟩
                    · have hv : Hid (loStep x f e = f) := by unfold Hid loStep; rw [if_neg (fun h => h1 h.1)]
                      go_wp2_with fail
                      exact ⟨⟨q + 1, n, f, by omega, by go_num, rfl, rfl, by omega, by rw [HC.out, HC1.out, if_neg h1]; unfold Hid; omega, by rw [HLo.out, HL1.out, hv.out]; rfl, hS⟩, (by simp [intOf]; omega)⟩
                  · have hCn : Hid (cnt S x = n) := by unfold Hid; have := HC.out; rw [drop_end (by omega)] at this; simp [cnt] at this ⊢; omega
                    have hLn : Hid (lo S x = f) := by unfold Hid; rw [HLo.out, drop_end (by omega)]; rfl
                    clear HC HLo
                    have hX := hS.ext
                    by_cases hc : (n : Int) < ct
                    · have hsome : Hid (stepV (stepT l p last i) = x) := by unfold Hid; rw [HX.out, roomA_hit (by rw [hCn.out]; exact hc)]; rfl
                      go_wp2_with fail
                      go_ret
                      exact ⟨ret_i64 hsome.out.symm, hX⟩
                    · have hnc : Hid (¬ (cnt S x : Int) < ct) := by unfold Hid; rw [hCn.out]; exact hc
                      by_cases hf : f = 1099511627776
                      · have hnone : Hid (stepV (stepT l p last i) = -1) := by unfold Hid; rw [HX.out, roomA_none hnc.out (by rw [hLn.out, hf])]; rfl
                        have hfb : (f == 1099511627776) = true := by simp [hf]
                        have HFF := Lib.hid hf; clear hf
                        go_wp2_with fail
                        go_ret
                        exact ⟨ret_i64 hnone.out.symm, hX⟩
                      · have hfb : (f == 1099511627776) = false := by simp [hf]
                        have hne2 : Hid (¬ lo S x = 1099511627776) := by unfold Hid; rw [hLn.out]; exact hf
                        have hcl := Lib.hid (cnt_lo hne2.out)
                        have hfx : x ≤ f ∧ f < 1099511627776 := by
                          have a1 := lo_ge (E := S) hx1
                          have a2 := (loU_spec x S 1099511627776).1
                          have a3 := hLn.out
                          unfold lo at a1 a3
                          omega
                        obtain ⟨hfx0, hfx1⟩ := hfx
                        clear hf
                        go_wp2_with fail
                        exact ⟨⟨f + 1, rfl, by omega, by omega, by rw [HX.out, roomA_step hnc.out hne2.out, hLn.out]; rfl, hS⟩, by rw [hLn.out] at hcl; exact hcl.out⟩
end Go.Proofs.Ythhkbfjolmgloaa
