/- When a station is full: spec.l2full answers a plain function. Condition: the line is right, the plan fits. -/
import Derived.Test.YthhkbfjolmgloaaMHTrack
import Derived.Deep.RegionWith
namespace Go.Proofs.Ythhkbfjolmgloaa
open Go.RowKit
set_option linter.unusedVariables false
set_option linter.unusedSimpArgs false
/-- One of a station's tracks is taken by leg (j, m) when leg (i, k) begins that leads to it. -/
def takes (l : Line) (p : List (List Int)) (i k j m : Nat) : Int :=
  if (l.leg j m).to ≠ (l.leg i k).to then 0 else if st p j m > st p i k ∨ (st p j m = st p i k ∧ j > i) ∨ (leaves l p j m < st p i k ∧ (j ≠ i ∨ m ≠ k)) then 0 else 1
def taken (l : Line) (p : List (List Int)) (i k : Nat) : Int := sumF (fun j => sumF (takes l p i k j) 0 ((l.tr j).legs.length)) 0 l.trains.length
def full (l : Line) (p : List (List Int)) (i k : Nat) : Bool := decide (l.tk (l.leg i k).to.toNat < taken l p i k)
set_option maxRecDepth 100000 in
set_option maxHeartbeats 8000000 in
theorem l2full_any {w : World} {l : Line} {p : List (List Int)} {u v : Value} (hl : IsLine w l u) (hp : IsPlan w p v) (O : Ok l) (F : Fits l p) {i k : Nat} (hi : i < l.trains.length) (hk : k < (l.tr i).legs.length) :
    Calls Try.prog 111 #[u, v, .int .i64 i, .int .i64 k] w fun e w' => e = .returned (.bool (full l p i k)) ∧ Ext w w' := by
  have HL := Lib.hid (fun (W : World) (e : Ext w W) => hl.ext e)
  have HP := Lib.hid (fun (W : World) (e : Ext w W) => hp.ext e)
  obtain ⟨A0, c0, A2, c2, rfl, h0, h2⟩ := hl
  obtain ⟨A3, c3, rfl, h3⟩ := hp
  obtain ⟨b0, o0, b2, o2, bl, ol, cl, SL⟩ := seeL O h0 h2
  obtain ⟨b3, o3, br, or', cr, SP⟩ := seeP O F h3
  clear h0 h2 h3
  have B := O.bd
  have HB := Lib.hid B
  have HS := Lib.hid SL
  have HQ := Lib.hid SP
  have HF := Lib.hid F
  have HO := Lib.hid O
  obtain ⟨x0, x1, _⟩ := B.leg i k hi hk
  obtain ⟨rfl, hb0⟩ := SL.base0 (by omega)
  obtain ⟨rfl, hb2⟩ := SL.base2 (by omega)
  obtain ⟨rfl, hb3⟩ := SP.base (by omega)
  obtain ⟨e0, e1, e2, e3, e4, hbl⟩ := SL.train i hi
  obtain ⟨r0, hbr⟩ := SP.row i hi
  obtain ⟨f0, f1, f2⟩ := SL.leg i k hi hk
  have s0 := SP.st i k hi hk
  obtain ⟨z1, z2⟩ := F.bd hi hk
  have n10 := B.nl1 i hi
  have n5 := B.n5
  have q0 := SL.tk (l.leg i k).to.toNat x1
  have tb := B.tk (l.leg i k).to.toNat x1
  have n12 := B.tracks
  rw [F.rows] at HP ⊢
  clear SL SP F O B
  go_enter Try.func111, Try.ntmps111
  go_wp2_with fail
  clear e0 e1 e2 e3 e4 r0 f0 f1 f2 s0
  go_loopw [11, 38] (fun n j wr => ∃ (jj : Nat) (acc : Int), jj ≤ l.trains.length ∧ j = .int .i64 jj ∧ n = .int .i64 acc ∧ 0 ≤ acc ∧ acc ≤ 10 * jj ∧ Hid (acc + sumF (fun j => sumF (takes l p i k j) 0 ((l.tr j).legs.length)) jj l.trains.length = taken l p i k) ∧
    Lp w wr [(w.heap.size + 1, #[.slice (some ⟨b3, o3, none⟩) l.trains.length c3], 42), (w.heap.size, #[.slice (some ⟨b0, o0, none⟩) l.tracks.length c0, .int .i64 l.gap, .slice (some ⟨b2, o2, none⟩) l.trains.length c2], 33)]) (fun _ j _ => l.trains.length - (intOf j).toNat)
  case atStart => exact ⟨0, 0, Nat.zero_le _, rfl, rfl, by omega, by omega, by unfold Hid taken; simp, Lp.start2 _ _ _ _ _⟩
  case round =>
    obtain ⟨jj, acc, hjj, rfl, rfl, ha0, ha1, HT, hS⟩ := hrel
    obtain ⟨k1, k2, k3, k4, k5, k6⟩ := hS.open2
    by_cases hlt : jj < l.trains.length
    · obtain ⟨e0, e1, e2, e3, e4, hbj⟩ := HS.out.train jj hlt
      obtain ⟨r0, hbr'⟩ := HQ.out.row jj hlt
      obtain ⟨m10, m11⟩ := HB.out.nl1 jj hlt
      go_wp2_with fail
      clear k1 k2 k3 k4 k5 k6
      go_loopw [11, 46] (fun n j wi => ∃ (m : Nat) (acc : Int), m ≤ (l.tr jj).legs.length ∧ j = .int .i64 m ∧ n = .int .i64 acc ∧ 0 ≤ acc ∧ acc ≤ 10 * jj + m ∧ Hid (acc + sumF (takes l p i k jj) m ((l.tr jj).legs.length) + sumF (fun j => sumF (takes l p i k j) 0 ((l.tr j).legs.length)) (jj + 1) l.trains.length = taken l p i k) ∧
        Lp w wi [(w.heap.size + 1, #[.slice (some ⟨b3, o3, none⟩) l.trains.length c3], 42), (w.heap.size, #[.slice (some ⟨b0, o0, none⟩) l.tracks.length c0, .int .i64 l.gap, .slice (some ⟨b2, o2, none⟩) l.trains.length c2], 33)]) (fun _ j _ => (l.tr jj).legs.length - (intOf j).toNat)
      case atStart => exact ⟨0, acc, Nat.zero_le _, rfl, rfl, ha0, by omega, by rw [← HT.out, sumF_at _ hlt]; simp [Hid, Int.add_assoc], (by repeat (first | (with_reducible exact hS) | apply Lp.alloc | apply Lp.drewN | apply Lp.drew))⟩
      case round =>
        clear HT hS
        obtain ⟨m, acc', hm, rfl, rfl, hb0', hb1, HT, hS⟩ := hrel
        obtain ⟨k1, k2, k3, k4, k5, k6⟩ := hS.open2
        by_cases hlm : m < (l.tr jj).legs.length
        · obtain ⟨f0, f1, f2⟩ := HS.out.leg jj m hlt hlm
          have s1 := HQ.out.st jj m hlt hlm
          have HN := Lib.hid (sumF_at (takes l p i k jj) hlm)
          by_cases c1 : (l.leg jj m).to = (l.leg i k).to
          · have c1' : ((l.leg jj m).to != (l.leg i k).to) = false := by simp [c1]
            have C1 := Lib.hid c1; clear c1
            by_cases c2 : st p i k < st p jj m
            · have hv : Hid (takes l p i k jj m = 0) := by unfold Hid takes; rw [if_neg (by simp [C1.out]), if_pos (Or.inl c2)]
              go_wp2_with fail
              exact ⟨⟨m + 1, acc', by omega, by go_num, rfl, hb0', by omega, by rw [← HT.out, HN.out, hv.out]; simp [Hid], (by repeat (first | (with_reducible exact hS) | apply Lp.alloc | apply Lp.drewN | apply Lp.drew))⟩, (by simp [intOf]; omega)⟩
            · by_cases c3 : st p jj m = st p i k ∧ i < jj
              · obtain ⟨c3, c4⟩ := c3
                have c3' : (st p jj m == st p i k) = true := by simp [c3]
                have hv : Hid (takes l p i k jj m = 0) := by unfold Hid takes; rw [if_neg (by simp [C1.out]), if_pos (Or.inr (Or.inl ⟨c3, c4⟩))]
                clear c3
                go_wp2_with fail
                exact ⟨⟨m + 1, acc', by omega, by go_num, rfl, hb0', by omega, by rw [← HT.out, HN.out, hv.out]; simp [Hid], (by repeat (first | (with_reducible exact hS) | apply Lp.alloc | apply Lp.drewN | apply Lp.drew))⟩, (by simp [intOf]; omega)⟩
              · have c3' : ((st p jj m == st p i k) = true ∧ ¬ i < jj) ∨ (st p jj m == st p i k) = false := by
                  by_cases e : st p jj m = st p i k
                  · exact Or.inl ⟨by simp [e], fun h => c3 ⟨e, h⟩⟩
                  · exact Or.inr (by simp [e])
                have C3 := Lib.hid c3; clear c3
                have HC := Lib.hid (fun W (e : Ext w W) => l2leaves_any (HL.out W e) (HP.out W e) HO.out HF.out hlt hlm)
                by_cases c5 : leaves l p jj m < st p i k ∧ (jj ≠ i ∨ m ≠ k)
                · obtain ⟨c5, c6⟩ := c5
                  have hv : Hid (takes l p i k jj m = 0) := by unfold Hid takes; rw [if_neg (by simp [C1.out]), if_pos (Or.inr (Or.inr ⟨c5, c6⟩))]
                  have c6' : ((jj : Int) != i) = true ∨ (((jj : Int) != i) = false ∧ ((m : Int) != k) = true) := by
                    by_cases e : jj = i
                    · exact Or.inr ⟨by simp [e], by simp; omega⟩
                    · exact Or.inl (by simp; omega)
                  clear c6
                  rcases c3' with ⟨c3, c4⟩ | c3
                  all_goals
                    rcases c6' with c6 | ⟨c6, c7⟩
                    all_goals
                      go_wp2_with (go_at_call 133; refine (HC.out _ (by repeat (first | (with_reducible exact hS.ext) | (with_reducible assumption) | (with_reducible exact Ext.refl _) | with_reducible apply Ext.alloc | with_reducible apply Ext.drewN | with_reducible apply Ext.drew | with_reducible refine Ext.setCell ?_ (by simp only []; omega) _))).mono ?_; rintro e w' ⟨rfl, hE⟩)
                      exact ⟨⟨m + 1, acc', by omega, by go_num, rfl, hb0', by omega, by rw [← HT.out, HN.out, hv.out]; simp [Hid], (show Lp _ _ _ from (by repeat (first | (with_reducible exact hS) | apply Lp.alloc | apply Lp.drewN | apply Lp.drew))).trans hE⟩, (by simp [intOf]; omega)⟩
                · have hv : Hid (takes l p i k jj m = 1) := by unfold Hid takes; rw [if_neg (by simp [C1.out]), if_neg (by have := C3.out; omega)]
                  have c5' : ¬ leaves l p jj m < st p i k ∨ (leaves l p jj m < st p i k ∧ ((jj : Int) != i) = false ∧ ((m : Int) != k) = false) := by
                    by_cases e : leaves l p jj m < st p i k
                    · exact Or.inr ⟨e, by simp; omega, by simp; omega⟩
                    · exact Or.inl e
                  clear c5
                  rcases c3' with ⟨c3, c4⟩ | c3
                  all_goals
                    rcases c5' with c5 | ⟨c5, c6, c7⟩
                    all_goals
                      go_wp2_with (go_at_call 133; refine (HC.out _ (by repeat (first | (with_reducible exact hS.ext) | (with_reducible assumption) | (with_reducible exact Ext.refl _) | with_reducible apply Ext.alloc | with_reducible apply Ext.drewN | with_reducible apply Ext.drew | with_reducible refine Ext.setCell ?_ (by simp only []; omega) _))).mono ?_; rintro e w' ⟨rfl, hE⟩)
                      exact ⟨⟨m + 1, acc' + 1, by omega, by go_num, rfl, by omega, by omega, by rw [← HT.out, HN.out, hv.out]; simp [Hid, Int.add_assoc], (show Lp _ _ _ from (by repeat (first | (with_reducible exact hS) | apply Lp.alloc | apply Lp.drewN | apply Lp.drew))).trans hE⟩, (by simp [intOf]; omega)⟩
          · have c1' : ((l.leg jj m).to != (l.leg i k).to) = true := by simp [c1]
            have hv : Hid (takes l p i k jj m = 0) := by unfold Hid takes; rw [if_pos c1]
            clear c1
            go_wp2_with fail
            exact ⟨⟨m + 1, acc', by omega, by go_num, rfl, hb0', by omega, by rw [← HT.out, HN.out, hv.out]; simp [Hid], (by repeat (first | (with_reducible exact hS) | apply Lp.alloc | apply Lp.drewN | apply Lp.drew))⟩, (by simp [intOf]; omega)⟩
        · have HE := Lib.hid (sumF_end (takes l p i k jj) (i := m) (n := (l.tr jj).legs.length) (by omega))
          go_wp2_with fail
          exact ⟨⟨jj + 1, acc', by omega, by go_num, rfl, hb0', by omega, by rw [← HT.out, HE.out]; simp [Hid], hS⟩, (by simp [intOf]; omega)⟩
    · have HE := Lib.hid (sumF_end (fun j => sumF (takes l p i k j) 0 ((l.tr j).legs.length)) (i := jj) (n := l.trains.length) (by omega))
      go_wp2_with fail
      go_ret
      refine ⟨ret_bool ?_, hS.ext⟩
      rw [full, ← HT.out, HE.out]
      simp
end Go.Proofs.Ythhkbfjolmgloaa
