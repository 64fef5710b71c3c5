/- impl.Meets answers a plain list. Condition: line and plan hold at most 2^20 values. -/
import Derived.Test.YthhkbfjolmgloaaTimes
import Derived.Test.YthhkbfjolmgloaaLp5
namespace Go.Proofs.Ythhkbfjolmgloaa
open Go.RowKit
set_option linter.unusedVariables false
set_option linter.unusedSimpArgs false
theorem foldF_last {α : Type} (f : Nat → α → α) {i n : Nat} (h : i ≤ n) (a : α) : foldF f i (n + 1) a = f n (foldF f i n a) := by
  generalize hd : n - i = d
  induction d generalizing i a with
  | zero =>
    obtain rfl : i = n := by omega
    rw [foldF_at _ (by omega), foldF_end _ (Nat.le_refl _), foldF_end _ (Nat.le_refl _)]
  | succ d ih => rw [foldF_at f (by omega : i < n + 1), foldF_at f (by omega : i < n), ih (by omega) _ (by omega)]
theorem timesD_get (l : Line) (p : List (List Int)) (i : Nat) : ∀ n, (foldF (timeStep l p i) 0 n []).length = n * 3 ∧ ∀ k, k < n → (foldF (timeStep l p i) 0 n [])[k * 3]? = some (whereT l i k) ∧ (foldF (timeStep l p i) 0 n [])[k * 3 + 1]? = some (fromT l p i k) ∧ (foldF (timeStep l p i) 0 n [])[k * 3 + 2]? = some (tillT l p i k) := by
  intro n
  induction n with
  | zero => rw [foldF_end _ (Nat.le_refl _)]; exact ⟨rfl, fun k hk => by omega⟩
  | succ n ih =>
    rw [foldF_last _ (Nat.zero_le _)]
    obtain ⟨h1, h2⟩ := ih
    generalize foldF (timeStep l p i) 0 n [] = D at *
    refine ⟨by simp [timeStep, h1]; omega, fun k hk => ?_⟩
    unfold timeStep
    by_cases e : k = n
    · subst e
      rw [List.getElem?_append_right (by omega), List.getElem?_append_right (by omega), List.getElem?_append_right (by omega), show k * 3 - D.length = 0 by omega, show k * 3 + 1 - D.length = 1 by omega, show k * 3 + 2 - D.length = 2 by omega]
      exact ⟨rfl, rfl, rfl⟩
    · rw [List.getElem?_append_left (by omega), List.getElem?_append_left (by omega), List.getElem?_append_left (by omega)]
      exact h2 k (by omega)
/-- A row of times, opened. -/
theorem times_open {w : World} {base n : Nat} {r : Value} {l : Line} {p : List (List Int)} {i : Nat} (h : w.ownsRow base 129 3 r (n + 1) (nums (foldF (timeStep l p i) 0 (n + 1) []))) : ∃ g cap cur, r = .slice (some ⟨g, 0, none⟩) (n + 1) cap ∧ base ≤ g ∧ w.heap[g]? = some (.cells cur 129 (0, 0)) ∧ ∀ k, k < n + 1 → cur[k * 3]? = some (.int .i64 (whereT l i k)) ∧ cur[k * 3 + 1]? = some (.int .i64 (fromT l p i k)) ∧ cur[k * 3 + 2]? = some (.int .i64 (tillT l p i k)) := by
  rcases h.2 with ⟨_, h0⟩ | ⟨g, cap, cur, h1, h2, h3, h4, h5, h6, h7⟩
  · omega
  · refine ⟨g, cap, cur, h1, h2, h3, fun k hk => ?_⟩
    obtain ⟨_, q⟩ := timesD_get l p i (n + 1)
    obtain ⟨q0, q1, q2⟩ := q k hk
    have key : ∀ j x, j < (n + 1) * 3 → (foldF (timeStep l p i) 0 (n + 1) [])[j]? = some x → cur[j]? = some (.int .i64 x) := by
      intro j x hj hx
      have e1 : (cur.toList.take ((n + 1) * 3))[j]? = (nums (foldF (timeStep l p i) 0 (n + 1) []))[j]? := by rw [h7]
      rw [List.getElem?_take_of_lt hj] at e1
      simp only [nums, List.getElem?_map, hx, Option.map_some] at e1
      simpa using e1
    exact ⟨key _ _ (by omega) q0, key _ _ (by omega) q1, key _ _ (by omega) q2⟩
theorem Lp.append5t {w wr w2 : World} {bs : List (Nat × Array Value × TypeId)} {B N : Nat} {o : Obj} {out : Value} {D : List Int} (h : Lp w wr bs) (hO : Own5 B wr out N D) (hB : w.heap.size ≤ B) (ht : ∀ x, x ∈ bs → x.2.2 ≠ 92) (hg : (wr.alloc o).grownBy w2 out.ownBlock) : Lp w w2 bs := by
  refine (h.alloc o).grown hg fun k hk => ⟨Nat.le_trans hB (hO.1.lt k hk).1, fun x hx e => ?_⟩
  rcases hO.1.2 with ⟨rfl, _⟩ | ⟨g, cap, cur, rfl, h2, h3, _⟩
  · cases hk
  · simp only [Value.ownBlock, Option.some.injEq] at hk
    subst hk
    have q := h.box x hx
    rw [e, h3] at q
    simp only [Option.some.injEq, Obj.cells.injEq] at q
    exact ht x hx q.2.1.symm
theorem types6 {b1 b2 b3 b4 b5 b6 : Nat} {c1 c2 c3 c4 c5 c6 : Array Value} : ∀ x, x ∈ [(b1, c1, (129 : TypeId)), (b2, c2, 129), (b3, c3, 129), (b4, c4, 129), (b5, c5, 42), (b6, c6, 33)] → x.2.2 ≠ 92 := by
  intro x hx
  simp only [List.mem_cons, List.not_mem_nil, or_false] at hx
  rcases hx with rfl | rfl | rfl | rfl | rfl | rfl <;> simp
set_option maxRecDepth 100000 in
set_option maxHeartbeats 8000000 in
theorem impl_Meets_any {w : World} {l : Line} {p : List (List Int)} {u v : Value} (hl : IsLine w l u) (hp : IsPlan w p v) (hs : l.size ≤ 1048576) (hpn : p.length ≤ 1048576) (hpl : ∀ (i : Nat) (t : List Int), p[i]? = some t → t.length ≤ 1048576) :
    Calls Try.prog 47 #[u, v] w fun e w' => ∃ r N, e = .returned r ∧ N ≤ 5000 ∧ w'.ownsRow w.heap.size 92 5 r N (nums (meetsA l p)) ∧ Ext w w' := by
  have HL := Lib.hid (fun (W : World) (e : Ext w W) => hl.ext e)
  have HP := Lib.hid (fun (W : World) (e : Ext w W) => hp.ext e)
  obtain ⟨A0, c0, A2, c2, rfl, h0, h2⟩ := hl
  obtain ⟨A3, c3, rfl, h3⟩ := hp
  cases h : canB l p with
  | false =>
    have hA : Hid (meetsA l p = []) := by simp [Hid, meetsA, h]
    clear h0 h2 h3
    go_enter Try.func47, Try.ntmps47
    go_wp2_with fail
    refine (can_any (HL.out _ (by repeat (first | (with_reducible assumption) | (with_reducible exact Ext.refl _) | apply Ext.alloc | apply Ext.drewN | apply Ext.drew))) (HP.out _ (by repeat (first | (with_reducible assumption) | (with_reducible exact Ext.refl _) | apply Ext.alloc | apply Ext.drewN | apply Ext.drew))) hs hpn hpl).mono ?_
    rintro e w1 ⟨rfl, hE⟩
    rw [h]
    have hS := (Lp.start2 w _ _ _ _).trans hE; clear hE
    obtain ⟨k1, k2, k3, k4, k5, k6⟩ := hS.open2
    go_wp2_with fail
    go_ret
    exact ⟨_, 0, rfl, by omega, by rw [hA.out]; exact World.ownsRow_nil _ _ _ _, hS.ext⟩
  | true =>
    have hA : Hid (meetsA l p = meetsD l p) := by simp [Hid, meetsA, h]
    have HC := Lib.hid (canB_can h)
    obtain ⟨b0, o0, b2, o2, bl, ol, cl, SL⟩ := seeL HC.out.ok h0 h2
    clear h0 h2 h3
    have HS := Lib.hid SL
    have HB := Lib.hid HC.out.ok.bd
    have n5 := HB.out.n5
    rw [HC.out.fits.rows] at HP ⊢
    clear SL
    obtain ⟨i0, hi0, hzz⟩ := Option.map_eq_some_iff.1 info92
    simp only [Prod.mk.injEq] at hzz
    obtain ⟨hz0', hz1', hz2'⟩ := hzz
    have hin := Lib.hid hi0
    have hz0 := Lib.hid hz0'
    have hz1 := Lib.hid hz1'
    have hz2 := Lib.hid hz2'
    clear hi0 hz0' hz1' hz2'
    go_enter Try.func47, Try.ntmps47
    go_wp2_with fail
    refine (can_any (HL.out _ (by repeat (first | (with_reducible assumption) | (with_reducible exact Ext.refl _) | apply Ext.alloc | apply Ext.drewN | apply Ext.drew))) (HP.out _ (by repeat (first | (with_reducible assumption) | (with_reducible exact Ext.refl _) | apply Ext.alloc | apply Ext.drewN | apply Ext.drew))) hs hpn hpl).mono ?_
    rintro e w1 ⟨rfl, hE⟩
    rw [h]
    clear h
    have hS := (Lp.start2 w _ _ _ _).trans hE; clear hE
    obtain ⟨k1, k2, k3, k4, k5, k6⟩ := hS.open2
    have hw1 : w.heap.size + 1 < w1.heap.size := k4
    go_wp2_with fail
    go_loopw [5, 21] (fun out j wr => ∃ (a N : Nat) (D : List Int), a ≤ l.trains.length ∧ j = .int .i64 a ∧ N ≤ 1000 * a ∧ Hid (meetsD l p = foldF (meetB l p) a l.trains.length D) ∧ Hid (Own5 w1.heap.size wr out N D) ∧ Lp w wr [(w.heap.size + 1, #[.slice A3 l.trains.length c3], 42), (w.heap.size, #[.slice A0 l.tracks.length c0, .int .i64 l.gap, .slice A2 l.trains.length c2], 33)]) (fun _ j _ => l.trains.length - (intOf j).toNat)
    case atStart => exact ⟨0, 0, [], Nat.zero_le _, rfl, by omega, rfl, ⟨World.ownsRow_nil _ _ _ _, Nat.le_refl _⟩, hS⟩
    case round =>
      clear hS k1 k2 k3 k4 k5 k6
      obtain ⟨a, N, D, haa, rfl, hN, HD, HO, hS⟩ := hrel
      obtain ⟨k1, k2, k3, k4, k5, k6⟩ := hS.open2
      by_cases hla : a < l.trains.length
      · obtain ⟨rfl, hb2⟩ := HS.out.base2 (by omega)
        obtain ⟨a10, a11⟩ := HB.out.nl1 a hla
        go_wp2_with fail
        clear k1 k2 k3 k4 k5 k6
        go_loopw [5, 7] (fun out j wr => ∃ (b N : Nat) (D : List Int), b ≤ l.trains.length ∧ a + 1 ≤ b ∧ j = .int .i64 b ∧ N ≤ 1000 * a + 150 * b ∧ Hid (meetsD l p = foldF (meetB l p) (a + 1) l.trains.length (foldF (meetK l p a) b l.trains.length D)) ∧ Hid (Own5 w1.heap.size wr out N D) ∧ Lp w wr [(w.heap.size + 1, #[.slice A3 l.trains.length c3], 42), (w.heap.size, #[.slice A0 l.tracks.length c0, .int .i64 l.gap, .slice (some ⟨b2, o2, none⟩) l.trains.length c2], 33)]) (fun _ j _ => l.trains.length - (intOf j).toNat)
        case atStart => exact ⟨a + 1, N, D, by omega, Nat.le_refl _, by go_num, by omega, by rw [HD.out, foldF_at _ hla]; rfl, HO, hS⟩
        case round =>
          clear hS HD HO hN
          obtain ⟨b, N, D, hbb, hab, rfl, hN, HD, HO, hS⟩ := hrel
          obtain ⟨k1, k2, k3, k4, k5, k6⟩ := hS.open2
          by_cases hlb : b < l.trains.length
          · obtain ⟨b10, b11⟩ := HB.out.nl1 b hlb
            have hX0 := hS.ext
            go_wp2_with fail
            refine (times_any (HL.out _ (by repeat (first | (with_reducible exact hS.ext) | (with_reducible assumption) | (with_reducible exact Ext.refl _) | with_reducible apply Ext.alloc | with_reducible apply Ext.drewN | with_reducible apply Ext.drew | with_reducible refine Ext.setCell ?_ (by simp only []; omega) _))) (HP.out _ (by repeat (first | (with_reducible exact hS.ext) | (with_reducible assumption) | (with_reducible exact Ext.refl _) | with_reducible apply Ext.alloc | with_reducible apply Ext.drewN | with_reducible apply Ext.drew | with_reducible refine Ext.setCell ?_ (by simp only []; omega) _))) HC.out hla).mono ?_
            rintro e w3 ⟨r1, rfl, hr1, hE3⟩
            obtain ⟨g1, cap1, cur1, rfl, hg1, hb1, hc1⟩ := times_open hr1
            have HC1 := Lib.hid hc1
            have hT : Lp w w3 [(g1, cur1, 129), (w.heap.size + 1, #[.slice A3 l.trains.length c3], 42), (w.heap.size, #[.slice A0 l.tracks.length c0, .int .i64 l.gap, .slice (some ⟨b2, o2, none⟩) l.trains.length c2], 33)] := (hS.trans hE3).add hb1
            have HO3 := Lib.hid (HO.out.ext hE3)
            clear k1 k2 k3 k4 k5 k6 hS HO hE3 hX0 hr1 hb1 hc1
            have hS := hT; clear hT
            obtain ⟨k1, k2, k3, k4, k5, k6, k7, k8⟩ := hS.open3
            go_wp2_with fail
            clear k1 k2 k3 k4 k5 k6 k7 k8
            go_loopw [5, 38] (fun out j wr => ∃ (k N : Nat) (D : List Int), k ≤ (l.tr a).legs.length + 1 ∧ j = .int .i64 k ∧ N ≤ 1000 * a + 150 * b + 12 * k ∧ Hid (meetsD l p = foldF (meetB l p) (a + 1) l.trains.length (foldF (meetK l p a) (b + 1) l.trains.length (foldF (meetM l p a b) k ((l.tr a).legs.length + 1) D))) ∧ Hid (Own5 w1.heap.size wr out N D) ∧ Lp w wr [(g1, cur1, 129), (w.heap.size + 1, #[.slice A3 l.trains.length c3], 42), (w.heap.size, #[.slice A0 l.tracks.length c0, .int .i64 l.gap, .slice (some ⟨b2, o2, none⟩) l.trains.length c2], 33)]) (fun _ j _ => (l.tr a).legs.length + 1 - (intOf j).toNat)
            case atStart => exact ⟨0, N, D, Nat.zero_le _, rfl, by omega, by rw [HD.out, foldF_at _ hlb]; rfl, HO3, hS⟩
            case round =>
              clear hS HD HO3 hN
              obtain ⟨k, N, D, hkk, rfl, hN, HD, HO, hS⟩ := hrel
              obtain ⟨k1, k2, k3, k4, k5, k6, k7, k8⟩ := hS.open3
              by_cases hlk : k < (l.tr a).legs.length + 1
              · obtain ⟨x0, x1, x2⟩ := HC1.out k hlk
                go_wp2_with fail
                have hS1 := hS.newAt #[.int .i64 (whereT l a k), .int .i64 (fromT l p a k), .int .i64 (tillT l p a k)] 129 rfl
                have hX1 := hS1.ext
                refine (times_any (HL.out _ hX1) (HP.out _ hX1) HC.out hlb).mono ?_
                rintro e w4 ⟨r2, rfl, hr2, hE4⟩
                obtain ⟨g2, cap2, cur2, rfl, hg2, hb2', hc2⟩ := times_open hr2
                have HC2 := Lib.hid hc2
                obtain ⟨gx, hgx⟩ : ∃ gx, wr.heap.size = gx := ⟨_, rfl⟩
                rw [hgx] at hS1 ⊢
                have hT : Lp w w4 [(g2, cur2, 129), (gx, #[.int .i64 (whereT l a k), .int .i64 (fromT l p a k), .int .i64 (tillT l p a k)], 129), (g1, cur1, 129), (w.heap.size + 1, #[.slice A3 l.trains.length c3], 42), (w.heap.size, #[.slice A0 l.tracks.length c0, .int .i64 l.gap, .slice (some ⟨b2, o2, none⟩) l.trains.length c2], 33)] := (hS1.trans hE4).add hb2'
                have HO4 := Lib.hid ((HO.out.ext (by repeat (first | (with_reducible assumption) | (with_reducible exact Ext.refl _) | apply Ext.alloc | apply Ext.drewN | apply Ext.drew))).ext hE4)
                clear k1 k2 k3 k4 k5 k6 k7 k8 hS hS1 hX1 HO hE4 hr2 hb2' hc2 x0 x1 x2
                have hS := hT; clear hT
                obtain ⟨k1, k2, k3, k4, k5, k6, k7, k8, k9, k10, k11, k12⟩ := hS.open5
                go_wp2_with fail
                clear k1 k2 k3 k4 k5 k6 k7 k8 k9 k10 k11 k12
                go_loopw [5, 47] (fun out j wi => ∃ (m N : Nat) (D : List Int), m ≤ (l.tr b).legs.length + 1 ∧ j = .int .i64 m ∧ N ≤ 1000 * a + 150 * b + 12 * k + m ∧ Hid (meetsD l p = foldF (meetB l p) (a + 1) l.trains.length (foldF (meetK l p a) (b + 1) l.trains.length (foldF (meetM l p a b) (k + 1) ((l.tr a).legs.length + 1) (foldF (meetStep l p a b k) m ((l.tr b).legs.length + 1) D)))) ∧ Hid (Own5 w1.heap.size wi out N D) ∧ Lp w wi [(g2, cur2, 129), (gx, #[.int .i64 (whereT l a k), .int .i64 (fromT l p a k), .int .i64 (tillT l p a k)], 129), (g1, cur1, 129), (w.heap.size + 1, #[.slice A3 l.trains.length c3], 42), (w.heap.size, #[.slice A0 l.tracks.length c0, .int .i64 l.gap, .slice (some ⟨b2, o2, none⟩) l.trains.length c2], 33)]) (fun _ j _ => (l.tr b).legs.length + 1 - (intOf j).toNat)
                case atStart => exact ⟨0, N, D, Nat.zero_le _, rfl, by omega, by rw [HD.out, foldF_at _ hlk]; rfl, HO4, hS⟩
                case round =>
                  clear hS HD HO4 hN
                  obtain ⟨m, N, D, hmm, rfl, hN, HD, HO, hS⟩ := hrel
                  obtain ⟨k1, k2, k3, k4, k5, k6, k7, k8, k9, k10, k11, k12⟩ := hS.open5
                  by_cases hlm : m < (l.tr b).legs.length + 1
                  · obtain ⟨y0, y1, y2⟩ := HC2.out m hlm
                    go_upto_region 16 with fail
                    obtain ⟨gy, hgy⟩ : ∃ gy, wr.heap.size = gy := ⟨_, rfl⟩
                    have hS1 := hS.newAt #[.int .i64 (whereT l b m), .int .i64 (fromT l p b m), .int .i64 (tillT l p b m)] 129 hgy
                    rw [hgy]
                    go_cut [12, 13] (fun f g wx => f = .int .i64 (max (fromT l p a k) (fromT l p b m)) ∧ g = .int .i64 (min (tillT l p a k) (tillT l p b m)) ∧ Hid (Own5 w1.heap.size wx u5 N D) ∧ Lp w wx [(gy, #[.int .i64 (whereT l b m), .int .i64 (fromT l p b m), .int .i64 (tillT l p b m)], 129), (g2, cur2, 129), (gx, #[.int .i64 (whereT l a k), .int .i64 (fromT l p a k), .int .i64 (tillT l p a k)], 129), (g1, cur1, 129), (w.heap.size + 1, #[.slice A3 l.trains.length c3], 42), (w.heap.size, #[.slice A0 l.tracks.length c0, .int .i64 l.gap, .slice (some ⟨b2, o2, none⟩) l.trains.length c2], 33)])
                    case first =>
                      obtain ⟨p1, p2, p3, p4, p5, p6, p7, p8⟩ := hS1.open3
                      by_cases q1 : fromT l p a k < fromT l p b m
                      all_goals
                        by_cases q2 : tillT l p b m < tillT l p a k
                        all_goals
                          go_region
                          all_goals
                            go_wp2_with fail
                            go_meet
                            exact ⟨i64_eq (by omega), i64_eq (by omega), HO.out.ext (by repeat (first | (with_reducible assumption) | (with_reducible exact Ext.refl _) | apply Ext.alloc | apply Ext.drewN | apply Ext.drew)), by repeat (first | with_reducible exact hS1 | apply Lp.drewN | apply Lp.drew)⟩
                    case rest =>
                      obtain ⟨rfl, rfl, HO5, hS5⟩ := hcut
                      clear k1 k2 k3 k4 k5 k6 k7 k8 k9 k10 k11 k12 y0 y1 y2 hS1 hS HO
                      have hS := hS5; clear hS5
                      obtain ⟨k1, k2, k3, k4, k5, k6, k7, k8⟩ := hS.open3
                      by_cases q3 : whereT l a k = whereT l b m
                      · by_cases q4 : max (fromT l p a k) (fromT l p b m) ≤ min (tillT l p a k) (tillT l p b m)
                        · have hv : Hid (meetStep l p a b k m D = D ++ [(a : Int), (b : Int), whereT l a k, max (fromT l p a k) (fromT l p b m), min (tillT l p a k) (tillT l p b m)]) := by unfold Hid meetStep; rw [if_pos ⟨q3, q4⟩]
                          have q3' : (whereT l a k == whereT l b m) = true := by simp [q3]
                          clear q3
                          have hle := HO5.out.2
                          go_wp2_with (at_builtin; refine wpList_append_own _ rfl _ _ 63 rfl w1.heap.size 92 i0 (.agg #[.int .i64 0, .int .i64 0, .int .i64 0, .int .i64 0, .int .i64 0]) 5 40 Try.underlying63 hin.out hz0.out hz1.out hz2.out rfl (by decide) _ _ _ rfl (HO5.out.1.alloc _) ⟨wc.heap.size, 0, none⟩ 1 1 [.int .i64 a, .int .i64 b, .int .i64 (whereT l a k), .int .i64 (max (fromT l p a k) (fromT l p b m)), .int .i64 (min (tillT l p a k) (tillT l p b m))] rfl rfl five_cells ?c2 ?c3 ?c4 ?c5 ?_)
                          case c2 => intro u hu; simp at hu; rcases hu with rfl | rfl | rfl | rfl | rfl <;> rfl
                          case c3 => unfold maxLen; omega
                          case c4 => omega
                          case c5 => simp; omega
                          · intro v' w5 hown' hgrow _
                            have hS5 := hS.append5t HO5.out (by omega) types6 hgrow
                            have HO6 : Hid (Own5 w1.heap.size w5 v' (N + 1) (D ++ [(a : Int), (b : Int), whereT l a k, max (fromT l p a k) (fromT l p b m), min (tillT l p a k) (tillT l p b m)])) := ⟨by rw [nums_append]; exact hown', by have q1 := hgrow.size; simp only [alloc_size] at q1; omega⟩
                            have hS6 := Lib.hid hS5.tail
                            clear hown' hgrow k1 k2 k3 k4 k5 k6 k7 k8 hS hS5
                            go_wp2_with fail
                            exact ⟨⟨m + 1, N + 1, _, by omega, by go_num, by omega, by rw [HD.out, foldF_at _ hlm, hv.out]; rfl, HO6, hS6.out⟩, (by simp [intOf]; omega)⟩
                        · have hv : Hid (meetStep l p a b k m D = D) := by unfold Hid meetStep; rw [if_neg (fun h => q4 h.2)]
                          have q3' : (whereT l a k == whereT l b m) = true := by simp [q3]
                          clear q3
                          go_wp2_with fail
                          exact ⟨⟨m + 1, N, D, by omega, by go_num, by omega, by rw [HD.out, foldF_at _ hlm, hv.out]; rfl, HO5, hS.tail⟩, (by simp [intOf]; omega)⟩
                      · have hv : Hid (meetStep l p a b k m D = D) := by unfold Hid meetStep; rw [if_neg (fun h => q3 h.1)]
                        have q3' : (whereT l a k == whereT l b m) = false := by simp [q3]
                        clear q3
                        go_wp2_with fail
                        exact ⟨⟨m + 1, N, D, by omega, by go_num, by omega, by rw [HD.out, foldF_at _ hlm, hv.out]; rfl, HO5, hS.tail⟩, (by simp [intOf]; omega)⟩
                  · have HE := Lib.hid (foldF_end (meetStep l p a b k) (i := m) (n := (l.tr b).legs.length + 1) (by omega) D)
                    go_wp2_with fail
                    exact ⟨⟨k + 1, N, D, by omega, by go_num, by omega, by rw [HD.out, HE.out]; rfl, HO, hS.tail.tail⟩, (by simp [intOf]; omega)⟩
              · have HE := Lib.hid (foldF_end (meetM l p a b) (i := k) (n := (l.tr a).legs.length + 1) (by omega) D)
                go_wp2_with fail
                exact ⟨⟨b + 1, N, D, by omega, by omega, by go_num, by omega, by rw [HD.out, HE.out]; rfl, HO, hS.tail⟩, (by simp [intOf]; omega)⟩
          · have HE := Lib.hid (foldF_end (meetK l p a) (i := b) (n := l.trains.length) (by omega) D)
            go_wp2_with fail
            exact ⟨⟨a + 1, N, D, by omega, by go_num, by omega, by rw [HD.out, HE.out]; rfl, HO, hS⟩, (by simp [intOf]; omega)⟩
      · have HE := Lib.hid (foldF_end (meetB l p) (i := a) (n := l.trains.length) (by omega) D)
        have hX := hS.ext
        go_wp2_with fail
        go_ret
        exact ⟨_, N, rfl, by omega, by rw [hA.out, HD.out, HE.out]; exact ownsRow_mono HO.out.1 (by omega), hX⟩
end Go.Proofs.Ythhkbfjolmgloaa
