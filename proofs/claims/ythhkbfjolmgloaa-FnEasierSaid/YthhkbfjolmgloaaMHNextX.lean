/- spec's (*l2P).next places a train's next leg where the plain step says. Condition: the line is right, the legs were placed so. -/
import Derived.Test.YthhkbfjolmgloaaML13a
import Derived.StillTailTactics
import Derived.Deep.DeepCutAuto
import Derived.Deep.RegionHeld3
import Derived.Deep.RegionHeldLaw
namespace Go.Proofs.Ythhkbfjolmgloaa
open Go.RowKit
set_option linter.unusedVariables false
set_option linter.unusedSimpArgs false
def NextPost (T : TypeId) (B : Nat) (l : Line) (p : List (List Int)) (last : Int) (gp : Nat) (A0 : Option Addr) (c0 : Nat) (A2 : Option Addr) (c2 : Nat) (AR : Option Addr) (cR gr : Nat) (vs : Nat → Value) (i : Nat) (w : World) (e : Ending) (w' : World) : Prop :=
  (¬ rl p i < (l.tr i).legs.length ∧ e = .returned (.int .i64 2) ∧ Ext w w') ∨
  (rl p i < (l.tr i).legs.length ∧ stepT l p last i = none ∧ e = .returned (.int .i64 3) ∧ Ext w w') ∨
  (rl p i < (l.tr i).legs.length ∧ ∃ t v, stepT l p last i = some t ∧ e = .returned (.int .i64 0) ∧ Plc w' B T l (put p i t) t gp A0 c0 A2 c2 AR cR gr (upd vs i v) ∧ Chg (own3 gp gr (vs i)) w w' ∧ ∀ g, v.ownBlock = some g → (vs i).ownBlock = some g ∨ w.heap.size ≤ g)
theorem at0_bd {l : Line} {p : List (List Int)} {last : Int} {i : Nat} (O : Ok l) (G : Good l p last) (hl : last ≤ 1000000) (hi : i < l.trains.length) (hk : rl p i < (l.tr i).legs.length) : 0 ≤ max (readyT l p i (rl p i)) last ∧ max (readyT l p i (rl p i)) last ≤ 2000000 := by
  have h0 := G.last0
  have t0 := O.bd.tr i hi
  have b1 := O.bd.leg i (rl p i) hi hk
  have h1 : readyT l p i (rl p i) ≤ 2000000 := by
    unfold readyT
    by_cases e : rl p i = 0
    · rw [if_pos e]
      have b0 := O.bd.leg i 0 hi (by omega)
      omega
    · rw [if_neg e]
      have b0 := O.bd.leg i (rl p i - 1) hi (by omega)
      have a0 := G.at_ i (rl p i - 1) hi (by show rl p i - 1 < rl p i; omega)
      omega
  omega
def freeM (l : Line) (p : List (List Int)) (i k j m : Nat) (a : Int) : Int := if j ≠ i ∧ (l.tr j).trk m = (l.tr i).trk k then max a (st p j m + (l.leg j m).run + l.gap) else a
theorem freeR_rl (l : Line) (p : List (List Int)) (i k j : Nat) (a : Int) : freeR l p i k j a = foldF (freeM l p i k j) 0 (rl p j) a := rfl
theorem openA1 {w wr : World} {bs : List (Nat × Array Value × TypeId)} {b1 : Nat} {cs1 : Array Value} {t1 : TypeId} (h : Lp w wr ((b1, cs1, t1) :: bs)) : Lp w wr ((b1, cs1, t1) :: bs) ∧ (∀ g o, g < w.heap.size → wr.cell? ⟨g, o, none⟩ = w.cell? ⟨g, o, none⟩) ∧ (∀ g, g < w.heap.size → g < wr.heap.size) ∧ (∀ j, wr.cell? ⟨b1, j, none⟩ = cs1[j]?) ∧ b1 < wr.heap.size := ⟨h, h.open1⟩
set_option maxRecDepth 100000 in
set_option maxHeartbeats 8000000 in
theorem next_any {w : World} {B : Nat} {l : Line} {p : List (List Int)} {last : Int} {gp : Nat} {A0 : Option Addr} {c0 : Nat} {A2 : Option Addr} {c2 : Nat} {AR : Option Addr} {cR gr : Nat} {vs : Nat → Value} (P : Plc w B 138 l p last gp A0 c0 A2 c2 AR cR gr vs) (O : Ok l) (G : Good l p last) (hl : last ≤ 1000000) {i : Nat} (hi : i < l.trains.length) :
    Calls Try.prog 120 #[.pointer (some ⟨gp, 0, none⟩), .int .i64 i] w (NextPost 138 B l p last gp A0 c0 A2 c2 AR cR gr vs i w) := by
  have R := P.rd
  obtain ⟨A0', c0', A2', c2', hv, h0, h2⟩ := R.line
  simp only [Value.agg.injEq, Array.mk.injEq, List.cons.injEq, Value.slice.injEq, and_true, true_and] at hv
  obtain ⟨⟨rfl, rfl⟩, rfl, rfl⟩ := hv
  obtain ⟨b0, o0, b2, o2, bl, ol, cl, SL⟩ := seeL O h0 h2
  clear h0 h2
  have F := G.few hl
  have HB := Lib.hid O.bd
  have HS := Lib.hid SL
  have HF := Lib.hid F
  have HP := Lib.hid P
  have HR := Lib.hid R
  have HG := Lib.hid G
  have HO := Lib.hid O
  have n5 := HB.out.n5
  have n12 := HB.out.tracks
  have hgp := R.lt
  have p0 := R.b0
  have p1 := R.b1
  have p2 := R.b2
  have p3 := R.b3
  have p4 := R.b4
  obtain ⟨rfl, hgr⟩ := R.base (by omega)
  obtain ⟨rfl, hb2⟩ := SL.base2 (by omega)
  have hn2 := O.n2
  obtain ⟨rfl, hb0⟩ := SL.base0 (by omega)
  obtain ⟨e0, e1, e2, e3, e4, hbl⟩ := SL.train i hi
  obtain ⟨Ai, ci, r0, hbi⟩ := R.row i hi
  have HBI := Lib.hid hbi
  have n10 := HB.out.nl1 i hi
  have hlen := F.len i hi
  have HT := Lib.hid (SL.isTrain hi)
  clear SL P O F R G hbi
  by_cases hk : rl p i < (l.tr i).legs.length
  · have hk' : ((rl p i : Int) == ((l.tr i).legs.length : Int)) = false := by simp; omega
    obtain ⟨x0, x1, x2, x3, x4, x5⟩ := HB.out.leg i (rl p i) hi hk
    have rd0 := HG.out
    go_enter Try.func120, Try.ntmps120
    go_upto_region 5 with fail
    have hS := Lp.start1 w #[.int .i64 (l.tr i).frm, .int .i64 (l.tr i).ready, .int .i64 (l.tr i).due, .int .i64 (l.tr i).weight, .slice (some ⟨bl i, ol i, none⟩) (l.tr i).legs.length (cl i)] 80
    generalize w.alloc (.cells #[.int .i64 (l.tr i).frm, .int .i64 (l.tr i).ready, .int .i64 (l.tr i).due, .int .i64 (l.tr i).weight, .slice (some ⟨bl i, ol i, none⟩) (l.tr i).legs.length (cl i)] 80) = wa at hS ⊢
    obtain ⟨k1, k2, k3, k4⟩ := hS.open1
    go_still_tail 10, (by kernel_rfl)
    have hX := hS.ext
    go_wp2_with fail
    refine (l2readyP_any (HR.out.ext (hX.trans (by repeat (first | (with_reducible assumption) | (with_reducible exact Ext.refl _) | apply Ext.alloc | apply Ext.drewN | apply Ext.drew)))) HO.out HF.out hi hk).mono ?_
    rintro e w1 ⟨rfl, hE⟩
    have hT := hS.trans (Ext.trans (by repeat (first | (with_reducible assumption) | (with_reducible exact Ext.refl _) | apply Ext.alloc | apply Ext.drewN | apply Ext.drew)) hE)
    clear k1 k2 k3 k4 hS hX hE
    have hS := hT; clear hT
    obtain ⟨k1, k2, k3, k4⟩ := hS.open1
    go_upto_if 59 with fail
    go_cut [7] (fun s wx => s = .int .i64 (max (readyT l p i (rl p i)) last) ∧ Lp w wx [(w.heap.size, #[.int .i64 (l.tr i).frm, .int .i64 (l.tr i).ready, .int .i64 (l.tr i).due, .int .i64 (l.tr i).weight, .slice (some ⟨bl i, ol i, none⟩) (l.tr i).legs.length (cl i)], 80)])
    case first =>
      by_cases hm : readyT l p i (rl p i) < last
      · have hv : Hid (max (readyT l p i (rl p i)) last = last) := by unfold Hid; omega
        go_wp2_with fail
        go_meet
        exact ⟨i64_eq hv.out.symm, hS⟩
      · have hv : Hid (max (readyT l p i (rl p i)) last = readyT l p i (rl p i)) := by unfold Hid; omega
        go_wp2_with fail
        go_meet
        exact ⟨i64_eq hv.out.symm, hS⟩
    case rest =>
      obtain ⟨rfl, hS2⟩ := hcut
      clear k1 k2 k3 k4 hS
      have hS := hS2; clear hS2
      obtain ⟨k1, k2, k3, k4⟩ := hS.open1
      obtain ⟨a0, HA0⟩ : ∃ a, Hid (max (readyT l p i (rl p i)) last = a) := ⟨_, rfl⟩
      have hst : Hid (stepT l p last i = roomA (ends l p (l.leg i (rl p i)).to) (l.tk (l.leg i (rl p i)).to.toNat) (freeT l p i (rl p i) a0)) := by unfold Hid; rw [← HA0.out]; rfl
      have ha0 : 0 ≤ a0 ∧ a0 ≤ 2000000 := by rw [← HA0.out]; exact at0_bd HO.out HG.out hl hi hk
      rw [HA0.out]
      clear HA0
      obtain ⟨ha00, ha01⟩ := ha0
      obtain ⟨tk0, HTK⟩ : ∃ a, Hid ((l.tr i).trk (rl p i) = a) := ⟨_, rfl⟩
      go_wp2_with fail
      refine (l2track_any (HT.out.ext (hS.ext.trans (by repeat (first | (with_reducible assumption) | (with_reducible exact Ext.refl _) | apply Ext.alloc | apply Ext.drewN | apply Ext.drew)))) n10.2 hk).mono ?_
      rintro e w2 ⟨rfl, hE⟩
      have hT := hS.trans (Ext.trans (by repeat (first | (with_reducible assumption) | (with_reducible exact Ext.refl _) | apply Ext.alloc | apply Ext.drewN | apply Ext.drew)) hE)
      rw [HTK.out]
      clear k1 k2 k3 k4 hS hE
      have hS := hT; clear hT
      obtain ⟨k1, k2, k3, k4⟩ := hS.open1
      go_wp2_with fail
      clear k1 k2 k3 k4
      go_loopw [7, 73] (fun at_ j wr => ∃ (jj : Nat) (a : Int), jj ≤ l.trains.length ∧ j = .int .i64 jj ∧ at_ = .int .i64 a ∧ 0 ≤ a ∧ a ≤ 2000000 ∧ Hid (freeT l p i (rl p i) a0 = foldF (freeR l p i (rl p i)) jj l.trains.length a) ∧ Lp w wr [(w.heap.size, #[.int .i64 (l.tr i).frm, .int .i64 (l.tr i).ready, .int .i64 (l.tr i).due, .int .i64 (l.tr i).weight, .slice (some ⟨bl i, ol i, none⟩) (l.tr i).legs.length (cl i)], 80)]) (fun _ j _ => l.trains.length - (intOf j).toNat)
      case atStart => exact ⟨0, a0, Nat.zero_le _, rfl, rfl, ha00, ha01, rfl, hS⟩
      case round =>
        clear hS
        obtain ⟨jj, a, hjj, rfl, rfl, hq0, hq1, HC, hS⟩ := hrel
        obtain ⟨k1, k2, k3, k4⟩ := hS.open1
        by_cases hlt : jj < l.trains.length
        · obtain ⟨d0, d1, d2, d3, d4, hbj0⟩ := HS.out.train jj hlt
          obtain ⟨Aj, cj, q0, hbj⟩ := HR.out.row jj hlt
          obtain ⟨m10, m11⟩ := HB.out.nl1 jj hlt
          have hlenj := HF.out.len jj hlt
          have HBJ := Lib.hid hbj; clear hbj
          have HTJ := Lib.hid (HS.out.isTrain hlt)
          have HNJ := Lib.hid (freeR_rl l p i (rl p i) jj a)
          go_wp2_with fail
          clear k1 k2 k3 k4
          go_loopw [7, 80] (fun at_ j wr => ∃ (m : Nat) (a : Int), m ≤ (rl p jj) ∧ j = .int .i64 m ∧ at_ = .int .i64 a ∧ 0 ≤ a ∧ a ≤ 2000000 ∧ Hid (freeT l p i (rl p i) a0 = foldF (freeR l p i (rl p i)) (jj + 1) l.trains.length (foldF (freeM l p i (rl p i) jj) m (rl p jj) a)) ∧ Lp w wr [(w.heap.size, #[.int .i64 (l.tr i).frm, .int .i64 (l.tr i).ready, .int .i64 (l.tr i).due, .int .i64 (l.tr i).weight, .slice (some ⟨bl i, ol i, none⟩) (l.tr i).legs.length (cl i)], 80)]) (fun _ j _ => (rl p jj) - (intOf j).toNat)
          case atStart => exact ⟨0, a, Nat.zero_le _, rfl, rfl, hq0, hq1, by rw [HC.out, foldF_at _ hlt, HNJ.out]; rfl, hS⟩
          case round =>
            clear HC HNJ hS hq0 hq1
            obtain ⟨m, a, hm, rfl, rfl, hq0, hq1, HC, hS⟩ := hrel
            obtain ⟨k1, k2, k3, k4⟩ := hS.open1
            by_cases hlm : m < (rl p jj)
            · as_aux_lemma =>
                obtain ⟨rfl, hbr⟩ := HBJ.out (by omega)
                have hml : m < (l.tr jj).legs.length := by omega
                obtain ⟨f0, f1, f2⟩ := HS.out.leg jj m hlt hml
                obtain ⟨_, _, y1, y2, _, _⟩ := HB.out.leg jj m hlt hml
                have s0 := HR.out.st jj m hlt hlm
                obtain ⟨z0, z1⟩ := HF.out.at_ jj m hlt hlm
                obtain ⟨g0, g1⟩ := HB.out.gap
                have HN := Lib.hid (foldF_at (freeM l p i (rl p i) jj) hlm a)
                have hm10 : m < 10 := by omega
                by_cases c1 : jj = i
                · have c1' : ((jj : Int) != (i : Int)) = false := by simp [c1]
                  have hv : Hid (freeM l p i (rl p i) jj m a = a) := by unfold Hid freeM; rw [if_neg (fun h => h.1 c1)]
                  have C1 := Lib.hid c1; clear c1
                  go_wp2_with fail
                  go_quiet (fail)
                  go_wp2_with fail
                  exact ⟨⟨m + 1, a, by omega, by go_num, rfl, by omega, by omega, by rw [HC.out, HN.out, hv.out]; rfl, (by repeat (first | (with_reducible exact hS) | apply Lp.alloc | apply Lp.drewN | apply Lp.drew))⟩, (by simp [intOf]; omega)⟩
                · have c1' : ((jj : Int) != (i : Int)) = true := by simp; omega
                  obtain ⟨tkj, HTKJ⟩ : ∃ a, Hid ((l.tr jj).trk m = a) := ⟨_, rfl⟩
                  have HCT : Hid (∀ W, Ext w W → Calls Try.prog 110 #[.agg #[.int .i64 (l.tr jj).frm, .int .i64 (l.tr jj).ready, .int .i64 (l.tr jj).due, .int .i64 (l.tr jj).weight, .slice (some ⟨bl jj, ol jj, none⟩) ((l.tr jj).legs.length) (cl jj)], .int .i64 m] W fun e w' => e = .returned (.int .i64 tkj) ∧ Ext W w') := fun W e => by rw [← HTKJ.out]; exact l2track_any (HTJ.out.ext e) m11 hml
                  have hX := hS.ext
                  by_cases c2 : tkj = tk0
                  · have c2' : (tkj == tk0) = true := by simp [c2]
                    by_cases c3 : a < st p jj m + (l.leg jj m).run + l.gap
                    · have hv : Hid (freeM l p i (rl p i) jj m a = st p jj m + (l.leg jj m).run + l.gap) := by unfold Hid freeM; rw [if_pos ⟨c1, by rw [HTKJ.out, HTK.out, c2]⟩]; omega
                      have C2 := Lib.hid c2; clear c2
                      go_wp2_with fail
                      go_quiet (fail)
                      go_wp2_with (go_at_call 110; refine (HCT.out _ (hX.trans (by repeat (first | (with_reducible assumption) | (with_reducible exact Ext.refl _) | apply Ext.alloc | apply Ext.drewN | apply Ext.drew)))).mono ?_; rintro e w5 ⟨rfl, hE5⟩)
                      exact ⟨⟨m + 1, _, by omega, by go_num, rfl, by omega, by omega, by rw [HC.out, HN.out, hv.out]; rfl, hS.trans (Ext.trans (by repeat (first | (with_reducible assumption) | (with_reducible exact Ext.refl _) | apply Ext.alloc | apply Ext.drewN | apply Ext.drew)) hE5)⟩, (by simp [intOf]; omega)⟩
                    · have hv : Hid (freeM l p i (rl p i) jj m a = a) := by unfold Hid freeM; rw [if_pos ⟨c1, by rw [HTKJ.out, HTK.out, c2]⟩]; omega
                      have C2 := Lib.hid c2; clear c2
                      go_wp2_with fail
                      go_quiet (fail)
                      go_wp2_with (go_at_call 110; refine (HCT.out _ (hX.trans (by repeat (first | (with_reducible assumption) | (with_reducible exact Ext.refl _) | apply Ext.alloc | apply Ext.drewN | apply Ext.drew)))).mono ?_; rintro e w5 ⟨rfl, hE5⟩)
                      exact ⟨⟨m + 1, a, by omega, by go_num, rfl, by omega, by omega, by rw [HC.out, HN.out, hv.out]; rfl, hS.trans (Ext.trans (by repeat (first | (with_reducible assumption) | (with_reducible exact Ext.refl _) | apply Ext.alloc | apply Ext.drewN | apply Ext.drew)) hE5)⟩, (by simp [intOf]; omega)⟩
                  · have c2' : (tkj == tk0) = false := by simp [c2]
                    have hv : Hid (freeM l p i (rl p i) jj m a = a) := by unfold Hid freeM; rw [if_neg (fun h => c2 (by rw [← HTKJ.out, ← HTK.out, h.2]))]
                    clear c2
                    go_wp2_with fail
                    go_quiet (fail)
                    go_wp2_with (go_at_call 110; refine (HCT.out _ (hX.trans (by repeat (first | (with_reducible assumption) | (with_reducible exact Ext.refl _) | apply Ext.alloc | apply Ext.drewN | apply Ext.drew)))).mono ?_; rintro e w5 ⟨rfl, hE5⟩)
                    exact ⟨⟨m + 1, a, by omega, by go_num, rfl, by omega, by omega, by rw [HC.out, HN.out, hv.out]; rfl, hS.trans (Ext.trans (by repeat (first | (with_reducible assumption) | (with_reducible exact Ext.refl _) | apply Ext.alloc | apply Ext.drewN | apply Ext.drew)) hE5)⟩, (by simp [intOf]; omega)⟩
            · have HE := Lib.hid (foldF_end (freeM l p i (rl p i) jj) (i := m) (n := rl p jj) (by omega) a)
              go_wp2_with fail
              exact ⟨⟨jj + 1, a, by omega, by go_num, rfl, hq0, hq1, by rw [HC.out, HE.out]; rfl, hS⟩, (by simp [intOf]; omega)⟩
        · have HE := Lib.hid (foldF_end (freeR l p i (rl p i)) (i := jj) (n := l.trains.length) (by omega) a)
          have hst2 : Hid (stepT l p last i = roomA (ends l p (l.leg i (rl p i)).to) (l.tk (l.leg i (rl p i)).to.toNat) a) := by unfold Hid; rw [hst.out, HC.out, HE.out]
          clear HC HE hst k1 k2 k3 k4
          obtain ⟨f0, f1, f2⟩ := HS.out.leg i (rl p i) hi hk
          obtain ⟨sx, HSX⟩ : ∃ s, Hid ((l.leg i (rl p i)).to = s) := ⟨_, rfl⟩
          rw [HSX.out] at x0 x1 f0 hst2
          have hsx : sx < (l.tracks.length : Int) := by omega
          have hsx2 : ¬ (l.tracks.length : Int) ≤ sx := by omega
          have hsx3 : ¬ sx < 0 := by omega
          obtain ⟨ct, HCT⟩ : ∃ s, Hid (l.tk sx.toNat = s) := ⟨_, rfl⟩
          have tb := HB.out.tk sx.toNat x1
          have q0 := HS.out.tk sx.toNat x1
          rw [HCT.out] at tb q0 hst2
          obtain ⟨tb0, tb1⟩ := tb
          obtain ⟨k1, k2, k3, k4⟩ := hS.open1
          go_wp2_with fail
          clear k1 k2 k3 k4
          go_loopw [7] (fun at_ wr => ∃ x : Int, at_ = .int .i64 x ∧ 0 ≤ x ∧ x ≤ 1099511627776 ∧ Hid (stepT l p last i = roomA (ends l p sx) ct x) ∧ Lp w wr [(w.heap.size, #[.int .i64 (l.tr i).frm, .int .i64 (l.tr i).ready, .int .i64 (l.tr i).due, .int .i64 (l.tr i).weight, .slice (some ⟨bl i, ol i, none⟩) (l.tr i).legs.length (cl i)], 80)]) (fun at_ _ => cnt (ends l p sx) (intOf at_))
          case atStart => exact ⟨a, rfl, hq0, by omega, hst2.out, hS⟩
          case round =>
            clear hS hst2 hq0 hq1
            obtain ⟨x, rfl, hx0, hx1, HX, hS⟩ := hrel
            obtain ⟨N, HN⟩ : ∃ N, Hid (cnt (ends l p sx) x = N) := ⟨_, rfl⟩
            have hThere : Hid (∀ W, Ext w W → Calls Try.prog 136 #[.pointer (some ⟨gp, 0, none⟩), .int .i64 sx, .int .i64 x] W fun e w' => e = .returned (.int .i64 (N : Int)) ∧ Ext W w') := fun W e => by rw [← HN.out]; exact there_any (HR.out.ext e) HO.out HF.out hx1
            obtain ⟨k1, k2, k3, k4⟩ := hS.open1
            go_upto_region 21 with fail
            go_cut [149] (fun s wx => s = .bool (decide (ct ≤ (N : Int))) ∧ Lp w wx [(w.heap.size, #[.int .i64 (l.tr i).frm, .int .i64 (l.tr i).ready, .int .i64 (l.tr i).due, .int .i64 (l.tr i).weight, .slice (some ⟨bl i, ol i, none⟩) (l.tr i).legs.length (cl i)], 80)])
            case first =>
              clear k1 k2 k3 k4
              first
              | go_region_held3 (fun W => Lp w W [(w.heap.size, #[.int .i64 (l.tr i).frm, .int .i64 (l.tr i).ready, .int .i64 (l.tr i).due, .int .i64 (l.tr i).weight, .slice (some ⟨bl i, ol i, none⟩) (l.tr i).legs.length (cl i)], 80)] ∧ (∀ g o, g < w.heap.size → W.cell? ⟨g, o, none⟩ = w.cell? ⟨g, o, none⟩) ∧ (∀ g, g < w.heap.size → g < W.heap.size) ∧ (∀ j, W.cell? ⟨w.heap.size, j, none⟩ = (#[.int .i64 (l.tr i).frm, .int .i64 (l.tr i).ready, .int .i64 (l.tr i).due, .int .i64 (l.tr i).weight, .slice (some ⟨bl i, ol i, none⟩) (l.tr i).legs.length (cl i)] : Array Value)[j]?) ∧ w.heap.size < W.heap.size) (first | assumption | exact openA1 hS.drew | exact openA1 (Lp.trans (And.left (by assumption)) (by assumption))) (first  | (go_at_call 136; have hX := Lp.ext (And.left (by assumption : Lp w _ _ ∧ _)); with_reducible refine (hThere.out _ hX).mono ?_; rintro e w5 ⟨rfl, hE5⟩))
              | fail
              all_goals
                go_wp2_with fail
                go_meet
                exact ⟨rfl, And.left (by assumption)⟩
            case rest =>
              obtain ⟨rfl, hS2⟩ := hcut
              clear k1 k2 k3 k4 hS
              have hS := hS2; clear hS2
              by_cases hc : ct ≤ (N : Int)
              · as_aux_lemma =>
                  have hd : decide (ct ≤ (N : Int)) = true := by simpa using hc
                  rw [hd]
                  obtain ⟨k1, k2, k3, k4⟩ := hS.open1
                  clear hd
                  go_wp2_with fail
                  clear k1 k2 k3 k4
                  go_loopw [15, 156] (fun up j wr => ∃ (jj : Nat) (u r : Int), jj ≤ l.trains.length ∧ j = .int .i64 jj ∧ up = .int .i64 u ∧ Hid (UpOk u r) ∧ Hid (lo (ends l p sx) x = foldF (loR l p sx x) jj l.trains.length r) ∧ Lp w wr [(w.heap.size, #[.int .i64 (l.tr i).frm, .int .i64 (l.tr i).ready, .int .i64 (l.tr i).due, .int .i64 (l.tr i).weight, .slice (some ⟨bl i, ol i, none⟩) (l.tr i).legs.length (cl i)], 80)]) (fun _ j _ => l.trains.length - (intOf j).toNat)
                  case atStart => exact ⟨0, -1, _, Nat.zero_le _, rfl, rfl, Or.inl ⟨rfl, rfl⟩, lo_ends l p sx x, hS⟩
                  case round =>
                    clear hS
                    obtain ⟨jj, u, r, hjj, rfl, rfl, HU, HC, hS⟩ := hrel
                    obtain ⟨k1, k2, k3, k4⟩ := hS.open1
                    by_cases hlt : jj < l.trains.length
                    · obtain ⟨d0, d1, d2, d3, d4, hbj0⟩ := HS.out.train jj hlt
                      obtain ⟨Aj, cj, q0', hbj⟩ := HR.out.row jj hlt
                      obtain ⟨m10, m11⟩ := HB.out.nl1 jj hlt
                      have hlenj := HF.out.len jj hlt
                      have HBJ := Lib.hid hbj; clear hbj
                      obtain ⟨wo, rfl⟩ : ∃ wo, wo = wr := ⟨_, rfl⟩
                      go_wp2_with fail
                      have hS0 := hS.newAt #[.int .i64 (l.tr jj).frm, .int .i64 (l.tr jj).ready, .int .i64 (l.tr jj).due, .int .i64 (l.tr jj).weight, .slice (some ⟨bl jj, ol jj, none⟩) (l.tr jj).legs.length (cl jj)] 80 rfl
                      clear k1 k2 k3 k4
                      go_loopw [15, 171] (fun up j wr => ∃ (m : Nat) (u r : Int), m ≤ (rl p jj) ∧ j = .int .i64 m ∧ up = .int .i64 u ∧ Hid (UpOk u r) ∧ Hid (lo (ends l p sx) x = foldF (loR l p sx x) (jj + 1) l.trains.length (foldF (loM l p sx x jj) m (rl p jj) r)) ∧ Lp w wr [(wo.heap.size, #[.int .i64 (l.tr jj).frm, .int .i64 (l.tr jj).ready, .int .i64 (l.tr jj).due, .int .i64 (l.tr jj).weight, .slice (some ⟨bl jj, ol jj, none⟩) (l.tr jj).legs.length (cl jj)], 80), (w.heap.size, #[.int .i64 (l.tr i).frm, .int .i64 (l.tr i).ready, .int .i64 (l.tr i).due, .int .i64 (l.tr i).weight, .slice (some ⟨bl i, ol i, none⟩) (l.tr i).legs.length (cl i)], 80)]) (fun _ j _ => (rl p jj) - (intOf j).toNat)
                      case atStart => exact ⟨0, u, r, Nat.zero_le _, rfl, rfl, HU, by rw [HC.out, foldF_at _ hlt]; rfl, hS0⟩
                      case round =>
                        clear HC hS0 hS HU
                        obtain ⟨m, u, r, hm, rfl, rfl, HU, HC, hS⟩ := hrel
                        obtain ⟨k1, k2, k3, k4, k5, k6⟩ := hS.open2
                        by_cases hlm : m < (rl p jj)
                        · obtain ⟨rfl, hbr⟩ := HBJ.out (by omega)
                          have hml : m < (l.tr jj).legs.length := by omega
                          obtain ⟨f0', f1', f2'⟩ := HS.out.leg jj m hlt hml
                          obtain ⟨_, _, y1, y2, _, _⟩ := HB.out.leg jj m hlt hml
                          have s0 := HR.out.st jj m hlt hlm
                          obtain ⟨z0, z1⟩ := HF.out.at_ jj m hlt hlm
                          have HN := Lib.hid (foldF_at (loM l p sx x jj) hlm r)
                          have hm10 : m < 10 := by omega
                          by_cases c1 : (l.leg jj m).to = sx
                          · have c1' : ((l.leg jj m).to != sx) = false := by simp [c1]
                            have C1 := Lib.hid c1; clear c1
                            by_cases c2 : m + 1 < (rl p jj)
                            · have s1 := HR.out.st jj (m + 1) hlt c2
                              have he : Hid (endT l p jj m = st p jj (m + 1)) := by unfold Hid; rw [endT_rl, if_pos c2]
                              obtain ⟨z2, z3⟩ := HF.out.at_ jj (m + 1) hlt c2
                              by_cases h1 : x ≤ st p jj (m + 1)
                              · rcases HU.out with ⟨rfl, hr⟩ | ⟨hur, hr0, hr1⟩
                                · have hv : Hid (loM l p sx x jj m r = st p jj (m + 1)) := by unfold Hid; rw [loM_at C1.out he.out, if_pos ⟨h1, by omega⟩]
                                  have hr' := Lib.hid hr; clear hr
                                  go_wp2_with fail
                                  exact ⟨⟨m + 1, _, _, by omega, by go_num, rfl, (show Hid (UpOk _ _) from Or.inr ⟨rfl, by omega, by omega⟩), by rw [HC.out, HN.out, hv.out]; rfl, (by repeat (first | (with_reducible exact hS) | apply Lp.alloc | apply Lp.drewN | apply Lp.drew))⟩, (by simp [intOf]; omega)⟩
                                · subst hur
                                  have hd0 : decide (u < 0) = false := by simp; omega
                                  by_cases h2 : st p jj (m + 1) < u
                                  · have hv : Hid (loM l p sx x jj m u = st p jj (m + 1)) := by unfold Hid; rw [loM_at C1.out he.out, if_pos ⟨h1, h2⟩]
                                    go_wp2_with fail
                                    exact ⟨⟨m + 1, _, _, by omega, by go_num, rfl, (show Hid (UpOk _ _) from Or.inr ⟨rfl, by omega, by omega⟩), by rw [HC.out, HN.out, hv.out]; rfl, (by repeat (first | (with_reducible exact hS) | apply Lp.alloc | apply Lp.drewN | apply Lp.drew))⟩, (by simp [intOf]; omega)⟩
                                  · have hv : Hid (loM l p sx x jj m u = u) := by unfold Hid; rw [loM_at C1.out he.out, if_neg (fun h => h2 h.2)]
                                    go_wp2_with fail
                                    exact ⟨⟨m + 1, u, u, by omega, by go_num, rfl, HU, by rw [HC.out, HN.out, hv.out]; rfl, (by repeat (first | (with_reducible exact hS) | apply Lp.alloc | apply Lp.drewN | apply Lp.drew))⟩, (by simp [intOf]; omega)⟩
                              · have hv : Hid (loM l p sx x jj m r = r) := by unfold Hid; rw [loM_at C1.out he.out, if_neg (fun h => h1 h.1)]
                                go_wp2_with fail
                                exact ⟨⟨m + 1, u, r, by omega, by go_num, rfl, HU, by rw [HC.out, HN.out, hv.out]; rfl, (by repeat (first | (with_reducible exact hS) | apply Lp.alloc | apply Lp.drewN | apply Lp.drew))⟩, (by simp [intOf]; omega)⟩
                            · by_cases c3 : m + 1 = (l.tr jj).legs.length
                              · have c3' : ((m : Int) + 1 == ((l.tr jj).legs.length : Int)) = true := by simp; omega
                                have he : Hid (endT l p jj m = st p jj m + (l.leg jj m).run) := by unfold Hid; rw [endT_rl, if_neg c2, if_pos c3]
                                have C3 := Lib.hid c3; clear c3
                                by_cases h1 : x ≤ st p jj m + (l.leg jj m).run
                                · rcases HU.out with ⟨rfl, hr⟩ | ⟨hur, hr0, hr1⟩
                                  · have hv : Hid (loM l p sx x jj m r = st p jj m + (l.leg jj m).run) := by unfold Hid; rw [loM_at C1.out he.out, if_pos ⟨h1, by omega⟩]
                                    have hr' := Lib.hid hr; clear hr
                                    go_wp2_with fail
                                    go_quiet (fail)
                                    go_wp2_with fail
                                    exact ⟨⟨m + 1, _, _, by omega, by go_num, rfl, (show Hid (UpOk _ _) from Or.inr ⟨rfl, by omega, by omega⟩), by rw [HC.out, HN.out, hv.out]; rfl, (by repeat (first | (with_reducible exact hS) | apply Lp.alloc | apply Lp.drewN | apply Lp.drew))⟩, (by simp [intOf]; omega)⟩
                                  · subst hur
                                    have hd0 : decide (u < 0) = false := by simp; omega
                                    by_cases h2 : st p jj m + (l.leg jj m).run < u
                                    · have hv : Hid (loM l p sx x jj m u = st p jj m + (l.leg jj m).run) := by unfold Hid; rw [loM_at C1.out he.out, if_pos ⟨h1, h2⟩]
                                      go_wp2_with fail
                                      go_quiet (fail)
                                      go_wp2_with fail
                                      exact ⟨⟨m + 1, _, _, by omega, by go_num, rfl, (show Hid (UpOk _ _) from Or.inr ⟨rfl, by omega, by omega⟩), by rw [HC.out, HN.out, hv.out]; rfl, (by repeat (first | (with_reducible exact hS) | apply Lp.alloc | apply Lp.drewN | apply Lp.drew))⟩, (by simp [intOf]; omega)⟩
                                    · have hv : Hid (loM l p sx x jj m u = u) := by unfold Hid; rw [loM_at C1.out he.out, if_neg (fun h => h2 h.2)]
                                      go_wp2_with fail
                                      go_quiet (fail)
                                      go_wp2_with fail
                                      exact ⟨⟨m + 1, u, u, by omega, by go_num, rfl, HU, by rw [HC.out, HN.out, hv.out]; rfl, (by repeat (first | (with_reducible exact hS) | apply Lp.alloc | apply Lp.drewN | apply Lp.drew))⟩, (by simp [intOf]; omega)⟩
                                · have hv : Hid (loM l p sx x jj m r = r) := by unfold Hid; rw [loM_at C1.out he.out, if_neg (fun h => h1 h.1)]
                                  go_wp2_with fail
                                  go_quiet (fail)
                                  go_wp2_with fail
                                  exact ⟨⟨m + 1, u, r, by omega, by go_num, rfl, HU, by rw [HC.out, HN.out, hv.out]; rfl, (by repeat (first | (with_reducible exact hS) | apply Lp.alloc | apply Lp.drewN | apply Lp.drew))⟩, (by simp [intOf]; omega)⟩
                              · have c3' : ((m : Int) + 1 == ((l.tr jj).legs.length : Int)) = false := by simp; omega
                                have he : Hid (endT l p jj m = 1099511627776) := by unfold Hid; rw [endT_rl, if_neg c2, if_neg c3]
                                have hrl := HU.out.le
                                have hv : Hid (loM l p sx x jj m r = r) := by unfold Hid; rw [loM_at C1.out he.out, if_neg (by omega)]
                                have hd9 : decide (x ≤ -1) = false := by simp; omega
                                clear c3
                                go_wp2_with fail
                                exact ⟨⟨m + 1, u, r, by omega, by go_num, rfl, HU, by rw [HC.out, HN.out, hv.out]; rfl, (by repeat (first | (with_reducible exact hS) | apply Lp.alloc | apply Lp.drewN | apply Lp.drew))⟩, (by simp [intOf]; omega)⟩
                          · have c1' : ((l.leg jj m).to != sx) = true := by simp [c1]
                            have hv : Hid (loM l p sx x jj m r = r) := by unfold Hid; rw [loM_ne c1]
                            clear c1
                            go_wp2_with fail
                            exact ⟨⟨m + 1, u, r, by omega, by go_num, rfl, HU, by rw [HC.out, HN.out, hv.out]; rfl, (by repeat (first | (with_reducible exact hS) | apply Lp.alloc | apply Lp.drewN | apply Lp.drew))⟩, (by simp [intOf]; omega)⟩
                        · have HE := Lib.hid (foldF_end (loM l p sx x jj) (i := m) (n := rl p jj) (by omega) r)
                          have hS1 := hS.tail
                          go_wp2_with fail
                          exact ⟨⟨jj + 1, u, r, by omega, by go_num, rfl, HU, by rw [HC.out, HE.out]; rfl, hS1⟩, (by simp [intOf]; omega)⟩
                    · have HE := Lib.hid (foldF_end (loR l p sx x) (i := jj) (n := l.trains.length) (by omega) r)
                      have hlo : Hid (lo (ends l p sx) x = r) := by unfold Hid; rw [HC.out, HE.out]
                      have hnc : Hid (¬ (cnt (ends l p sx) x : Int) < ct) := by unfold Hid; rw [HN.out]; omega
                      clear HC HE
                      rcases HU.out with ⟨rfl, hr⟩ | ⟨hur, hr0, hr1⟩
                      · have hnone : Hid (stepT l p last i = none) := by unfold Hid; rw [HX.out, roomA_none hnc.out (by rw [hlo.out, hr])]
                        have hXe := hS.ext
                        clear hr
                        go_wp2_with fail
                        go_ret
                        exact Or.inr (Or.inl ⟨hk, hnone.out, rfl, hXe⟩)
                      · subst hur
                        have hd0 : decide (u < 0) = false := by simp; omega
                        have hne : Hid (¬ lo (ends l p sx) x = 1099511627776) := by unfold Hid; rw [hlo.out]; omega
                        have hcl := Lib.hid (cnt_lo hne.out)
                        go_wp2_with fail
                        exact ⟨⟨u + 1, rfl, by omega, by omega, by rw [HX.out, roomA_step hnc.out hne.out, hlo.out]; rfl, hS⟩, by rw [hlo.out] at hcl; exact hcl.out⟩
              · have hd : decide (ct ≤ (N : Int)) = false := by simpa using hc
                rw [hd]
                clear hd
                have hsome : Hid (stepT l p last i = some x) := by unfold Hid; rw [HX.out, roomA_hit (by rw [HN.out]; omega)]
                have hvi : Hid (vs i = .slice Ai (rl p i) ci) := HP.out.row_val hi r0
                have hown := ownsRow_ext (HP.out.own i hi) hS.ext
                rw [hvi.out] at hown
                have HOW := Lib.hid hown; clear hown
                obtain ⟨k1, k2, k3, k4⟩ := hS.open1
                go_upto_region 43 with fail
                have hSd := hS.drew
                have hBd : B ≤ (wc.drew.alloc (.cells #[.int .i64 x] 3)).heap.size := by rw [alloc_size]; have := HP.out.lo_le; have := hSd.ext.size; omega
                have hN10 : rl p i ≤ 1000000 := by omega
                have hne := HP.out.ne
                have HE0 := Lib.hid hSd.ext
                have HO1 := Lib.hid (ownsRow_ext (HP.out.own i hi) (hSd.ext.alloc (.cells #[.int .i64 x] 3)))
                rw [hvi.out] at HO1
                obtain ⟨y1, y2, y3, y4, y5⟩ := plc_facts HP.out hi hSd.ext
                obtain ⟨u1, u2, u3, u4, u5⟩ := plc_facts HP.out hi (hSd.ext.alloc (.cells #[.int .i64 x] 3))
                rw [hvi.out] at y3 u3
                have u6 : (wc.alloc (.cells #[.int .i64 x] 3)).cell? ⟨gr, i, none⟩ = some (.slice Ai (rl p i) ci) := u3
                have hb0 := stepT_mk ⟨y1, y2, y4, y5⟩
                have hb1 := stepT_mk ⟨u1, u2, u4, u5⟩
                clear y1 y2 y4 y5 u1 u2 u4 u5 k1 k2 k3 k4 hS hSd
                go_cut [245] (fun s wx => ∃ g cap w6, Hid (NextFin 138 B l p last gp (some ⟨b0, o0, none⟩) c0 (some ⟨b2, o2, none⟩) c2 (some ⟨gr, 0, none⟩) cR gr vs i x w w6 g cap) ∧ wx = w6.setCell ⟨gr, i, none⟩ (.slice (some ⟨g, 0, none⟩) (rl p i + 1) cap))
                case first =>
                  refine wp_region_held_drew (S := StepT gp gr i (.slice (some ⟨gr, 0, none⟩) l.trains.length cR)) (by kernel_rfl) hb0 (fun _ => ?_)
                  refine wpAnyH_take (i := 0) (oi := _) (v := ?_) rfl (by kernel_rfl) (by kernel_rfl) (by kernel_rfl) (fun _ _ _ h => h) (Or.inl ⟨by rfl, ?_⟩) (by assumption) ?_
                  rotate_left 1
                  · intro w hSw
                    obtain ⟨hs1, hs2, hs3, hs4⟩ := hSw
                    go_simp
                    try with_reducible rfl
                  try simp only [Act.put, List.setIfInBounds_toArray, List.set_cons_zero, List.set_cons_succ]
                  refine wpAnyH_take (i := 1) (oi := _) (v := ?_) rfl (by kernel_rfl) (by kernel_rfl) (by kernel_rfl) (fun _ _ _ h => h) (Or.inl ⟨by rfl, ?_⟩) (by assumption) ?_
                  rotate_left 1
                  · intro w hSw
                    obtain ⟨hs1, hs2, hs3, hs4⟩ := hSw
                    go_simp
                    try with_reducible rfl
                  try simp only [Act.put, List.setIfInBounds_toArray, List.set_cons_zero, List.set_cons_succ]
                  refine wpAnyH_take (i := 2) (oi := _) (v := ?_) rfl (by kernel_rfl) (by kernel_rfl) (by kernel_rfl) (fun _ _ _ h => h) (Or.inl ⟨by rfl, ?_⟩) (by assumption) ?_
                  rotate_left 1
                  · intro w hSw
                    obtain ⟨hs1, hs2, hs3, hs4⟩ := hSw
                    go_simp
                    try with_reducible rfl
                  try simp only [Act.put, List.setIfInBounds_toArray, List.set_cons_zero, List.set_cons_succ]
                  refine wpAnyH_take (i := 3) (oi := _) (v := ?_) rfl (by kernel_rfl) (by kernel_rfl) (by kernel_rfl) (fun _ _ _ h => h) (Or.inl ⟨by rfl, ?_⟩) (by assumption) ?_
                  rotate_left 1
                  · intro w hSw
                    obtain ⟨hs1, hs2, hs3, hs4⟩ := hSw
                    go_simp
                    try with_reducible rfl
                  try simp only [Act.put, List.setIfInBounds_toArray, List.set_cons_zero, List.set_cons_succ]
                  refine wpAnyH_take (i := 4) (oi := _) (v := ?_) rfl (by kernel_rfl) (by kernel_rfl) (by kernel_rfl) (fun _ _ _ h => h) (Or.inl ⟨by rfl, ?_⟩) (by assumption) ?_
                  rotate_left 1
                  · intro w hSw
                    obtain ⟨hs1, hs2, hs3, hs4⟩ := hSw
                    go_simp
                    try with_reducible rfl
                  try simp only [Act.put, List.setIfInBounds_toArray, List.set_cons_zero, List.set_cons_succ]
                  refine wpAnyH_take (i := 5) (oi := _) (v := ?_) rfl (by kernel_rfl) (by kernel_rfl) (by kernel_rfl) (fun _ _ _ h => h) (Or.inl ⟨by rfl, ?_⟩) (by assumption) ?_
                  rotate_left 1
                  · intro w hSw
                    obtain ⟨hs1, hs2, hs3, hs4⟩ := hSw
                    go_simp
                    try with_reducible rfl
                  try simp only [Act.put, List.setIfInBounds_toArray, List.set_cons_zero, List.set_cons_succ]
                  refine wpAnyH_take (i := 6) (oi := _) (v := ?_) rfl (by kernel_rfl) (by kernel_rfl) (by kernel_rfl) (fun _ _ _ h => h) (Or.inl ⟨by rfl, ?_⟩) (by assumption) ?_
                  rotate_left 1
                  · intro w hSw
                    obtain ⟨hs1, hs2, hs3, hs4⟩ := hSw
                    go_simp
                    try with_reducible rfl
                  try simp only [Act.put, List.setIfInBounds_toArray, List.set_cons_zero, List.set_cons_succ]
                  refine wpAnyH_take (i := 7) (oi := _) (v := ?_) rfl (by kernel_rfl) (by kernel_rfl) (by kernel_rfl) (fun _ _ _ h => h) (Or.inl ⟨by rfl, ?_⟩) (by assumption) ?_
                  rotate_left 1
                  · intro w hSw
                    obtain ⟨hs1, hs2, hs3, hs4⟩ := hSw
                    go_simp
                    try with_reducible rfl
                  try simp only [Act.put, List.setIfInBounds_toArray, List.set_cons_zero, List.set_cons_succ]
                  refine wpAnyH_take (i := 8) (oi := _) (v := ?_) rfl (by kernel_rfl) (by kernel_rfl) (by kernel_rfl) (fun _ _ _ h => h) (Or.inl ⟨by rfl, ?_⟩) (by assumption) ?_
                  rotate_left 1
                  · intro w hSw
                    obtain ⟨hs1, hs2, hs3, hs4⟩ := hSw
                    go_simp
                    try with_reducible rfl
                  try simp only [Act.put, List.setIfInBounds_toArray, List.set_cons_zero, List.set_cons_succ]
                  refine wpAnyH_take (i := 9) (oi := _) (v := ?_) rfl (by kernel_rfl) (by kernel_rfl) (by kernel_rfl) (fun _ _ _ h => h) (Or.inl ⟨by rfl, ?_⟩) (by assumption) ?_
                  rotate_left 1
                  · intro w hSw
                    obtain ⟨hs1, hs2, hs3, hs4⟩ := hSw
                    go_simp
                    try with_reducible rfl
                  try simp only [Act.put, List.setIfInBounds_toArray, List.set_cons_zero, List.set_cons_succ]
                  refine wpAnyH_take (i := 10) (oi := _) (v := ?_) rfl (by kernel_rfl) (by kernel_rfl) (by kernel_rfl) (fun _ _ _ h => h) (Or.inl ⟨by rfl, ?_⟩) (by assumption) ?_
                  rotate_left 1
                  · intro w hSw
                    obtain ⟨hs1, hs2, hs3, hs4⟩ := hSw
                    go_simp
                    try with_reducible rfl
                  try simp only [Act.put, List.setIfInBounds_toArray, List.set_cons_zero, List.set_cons_succ]
                  refine wpAnyH_take (i := 11) (oi := _) (v := ?_) rfl (by kernel_rfl) (by kernel_rfl) (by kernel_rfl) (fun _ _ _ h => h) (Or.inl ⟨by rfl, ?_⟩) (by assumption) ?_
                  rotate_left 1
                  · intro w hSw
                    obtain ⟨hs1, hs2, hs3, hs4⟩ := hSw
                    go_simp
                    try with_reducible rfl
                  try simp only [Act.put, List.setIfInBounds_toArray, List.set_cons_zero, List.set_cons_succ]
                  refine wpAnyH_take (i := 12) (oi := _) (v := ?_) rfl (by kernel_rfl) (by kernel_rfl) (by kernel_rfl) (fun _ _ _ h => h) (Or.inl ⟨by rfl, ?_⟩) (by assumption) ?_
                  rotate_left 1
                  · intro w hSw
                    obtain ⟨hs1, hs2, hs3, hs4⟩ := hSw
                    go_simp
                    try with_reducible rfl
                  try simp only [Act.put, List.setIfInBounds_toArray, List.set_cons_zero, List.set_cons_succ]
                  refine wpAnyH_take (i := 14) (oi := _) (v := ?_) rfl (by kernel_rfl) (by kernel_rfl) (by kernel_rfl) (fun _ _ _ h => h) (Or.inl ⟨by rfl, ?_⟩) (by assumption) ?_
                  rotate_left 1
                  · intro w hSw
                    obtain ⟨hs1, hs2, hs3, hs4⟩ := hSw
                    go_simp
                    try with_reducible rfl
                  try simp only [Act.put, List.setIfInBounds_toArray, List.set_cons_zero, List.set_cons_succ]
                  refine wpAnyH_ready (rs := [13, 15]) (by kernel_rfl) (by simp) ?_
                  refine AllReadyH.cons rfl (fun K hK => ?_) ?_
                  · go_simp
                    refine hK.out _ _ hb0 (fun _ => ?_)
                    clear hK K
                    refine wpAnyH_ready (rs := [15]) (by kernel_rfl) (by simp) ?_
                    refine AllReadyH.cons rfl (fun K hK => ?_) AllReadyH.nil
                    go_simp
                    refine hK.out _ _ hb1 (fun _ => ?_)
                    clear hK K
                    refine wpAnyH_ready (rs := [16]) (by kernel_rfl) (by simp) ?_
                    refine AllReadyH.cons rfl (fun K hK => ?_) AllReadyH.nil
                    refine app_step rfl (.tmp 241) (.tmp 243) 23 rfl B 3 1 8 _ Try.underlying23 info3 rfl (by decide) _ _ _ rfl HO1.out hBd _ _ #[.int .i64 x] _ rfl (box_new _ _) rfl (one_int _) hN10 (by decide) _ rfl ?_
                    intro g cap w6 hown hgrow hg hlt6
                    have hgrow2 : (wc.drew.alloc (.cells #[.int .i64 x] 3)).grownBy w6 (vs i).ownBlock := gb_of hgrow rfl hvi.out.symm
                    have hg2 : (vs i).ownBlock = some g ∨ g = (wc.drew.alloc (.cells #[.int .i64 x] 3)).heap.size := ob_of (W := wc.drew.alloc (.cells #[.int .i64 x] 3)) hg rfl hvi.out.symm
                    obtain ⟨j1, j2, j3, j4, j5⟩ := plc_facts6 HP.out hi HE0.out hgrow2
                    have hb6 := stepT_mk ⟨j1, j2, j4, j5⟩
                    have hb7 := stepT_set (u := .slice (some ⟨g, 0, none⟩) (rl p i + 1) cap) hb6 hne
                    have HST := Lib.hid (nextFin_mk HP.out hi HE0.out hown hgrow2 hg2)
                    clear hown hgrow hg hgrow2 hg2
                    refine hK.out _ _ hb6 (fun _ => ?_)
                    clear hK K
                    refine wpAnyH_take (i := 17) (oi := _) (v := ?_) rfl (by kernel_rfl) (by kernel_rfl) (by kernel_rfl) (fun _ _ _ h => h) (Or.inl ⟨by rfl, ?_⟩) (by assumption) ?_
                    rotate_left 1
                    · intro w hSw
                      obtain ⟨hs1, hs2, hs3, hs4⟩ := hSw
                      go_simp
                      try with_reducible rfl
                    try simp only [Act.put, List.setIfInBounds_toArray, List.set_cons_zero, List.set_cons_succ]
                    refine wpAnyH_ready (rs := [18]) (by kernel_rfl) (by simp) ?_
                    refine AllReadyH.cons rfl (fun K hK => ?_) AllReadyH.nil
                    go_simp
                    refine hK.out _ _ hb7 (fun _ => ?_)
                    clear hK K
                    refine wpAnyH_done (by kernel_rfl) ?_ _
                    go_wp2_with fail
                    go_meet
                    exact ⟨_, _, _, HST, rfl⟩
                  refine AllReadyH.cons rfl (fun K hK => ?_) AllReadyH.nil
                  go_simp
                  refine hK.out _ _ hb1 (fun _ => ?_)
                  clear hK K
                  refine wpAnyH_ready (rs := [13]) (by kernel_rfl) (by simp) ?_
                  refine AllReadyH.cons rfl (fun K hK => ?_) AllReadyH.nil
                  go_simp
                  refine hK.out _ _ hb1 (fun _ => ?_)
                  clear hK K
                  refine wpAnyH_ready (rs := [16]) (by kernel_rfl) (by simp) ?_
                  refine AllReadyH.cons rfl (fun K hK => ?_) AllReadyH.nil
                  refine app_step rfl (.tmp 241) (.tmp 243) 23 rfl B 3 1 8 _ Try.underlying23 info3 rfl (by decide) _ _ _ rfl HO1.out hBd _ _ #[.int .i64 x] _ rfl (box_new _ _) rfl (one_int _) hN10 (by decide) _ rfl ?_
                  intro g cap w6 hown hgrow hg hlt6
                  have hgrow2 : (wc.drew.alloc (.cells #[.int .i64 x] 3)).grownBy w6 (vs i).ownBlock := gb_of hgrow rfl hvi.out.symm
                  have hg2 : (vs i).ownBlock = some g ∨ g = (wc.drew.alloc (.cells #[.int .i64 x] 3)).heap.size := ob_of (W := wc.drew.alloc (.cells #[.int .i64 x] 3)) hg rfl hvi.out.symm
                  obtain ⟨j1, j2, j3, j4, j5⟩ := plc_facts6 HP.out hi HE0.out hgrow2
                  have hb6 := stepT_mk ⟨j1, j2, j4, j5⟩
                  have hb7 := stepT_set (u := .slice (some ⟨g, 0, none⟩) (rl p i + 1) cap) hb6 hne
                  have HST := Lib.hid (nextFin_mk HP.out hi HE0.out hown hgrow2 hg2)
                  clear hown hgrow hg hgrow2 hg2
                  refine hK.out _ _ hb6 (fun _ => ?_)
                  clear hK K
                  refine wpAnyH_take (i := 17) (oi := _) (v := ?_) rfl (by kernel_rfl) (by kernel_rfl) (by kernel_rfl) (fun _ _ _ h => h) (Or.inl ⟨by rfl, ?_⟩) (by assumption) ?_
                  rotate_left 1
                  · intro w hSw
                    obtain ⟨hs1, hs2, hs3, hs4⟩ := hSw
                    go_simp
                    try with_reducible rfl
                  try simp only [Act.put, List.setIfInBounds_toArray, List.set_cons_zero, List.set_cons_succ]
                  refine wpAnyH_ready (rs := [18]) (by kernel_rfl) (by simp) ?_
                  refine AllReadyH.cons rfl (fun K hK => ?_) AllReadyH.nil
                  go_simp
                  refine hK.out _ _ hb7 (fun _ => ?_)
                  clear hK K
                  refine wpAnyH_done (by kernel_rfl) ?_ _
                  go_wp2_with fail
                  go_meet
                  exact ⟨_, _, _, HST, rfl⟩
                case rest =>
                  obtain ⟨g, cap, w6, HST, rfl⟩ := hcut
                  obtain ⟨c6p, f6p, l6p⟩ := HST.out.cells
                  clear y3 u3 u6
                  go_wp2_with fail
                  go_ret
                  exact Or.inr (Or.inr ⟨hk, x, _, hsome.out, rfl, HST.out.post⟩)
  · have hk' : ((rl p i : Int) == ((l.tr i).legs.length : Int)) = true := by simp; omega
    go_enter Try.func120, Try.ntmps120
    go_wp2_with fail
    go_ret
    exact Or.inl ⟨hk, rfl, (by repeat (first | (with_reducible assumption) | (with_reducible exact Ext.refl _) | apply Ext.alloc | apply Ext.drewN | apply Ext.drew))⟩
end Go.Proofs.Ythhkbfjolmgloaa
