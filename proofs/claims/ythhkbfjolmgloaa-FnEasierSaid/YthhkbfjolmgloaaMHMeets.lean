/- spec.Meets answers a plain list. Condition: line and plan hold at most 2^20 values. -/
import Derived.Test.YthhkbfjolmgloaaML4a
import Derived.Test.YthhkbfjolmgloaaMHCost
import Derived.Test.YthhkbfjolmgloaaML2a
import Derived.WalkKit
namespace Go.Proofs.Ythhkbfjolmgloaa
open Go.RowKit
set_option linter.unusedVariables false
set_option linter.unusedSimpArgs false
theorem info92 : (Try.prog.info? 92).map (fun i => (i.zero, i.size, i.bytes)) = some (some (.agg #[.int .i64 0, .int .i64 0, .int .i64 0, .int .i64 0, .int .i64 0]), 5, 40) := by kernel_rfl
theorem Lp.grown {w wr w2 : World} {bs : List (Nat × Array Value × TypeId)} {row : Option Nat} (h : Lp w wr bs) (hg : wr.grownBy w2 row) (hr : ∀ k, row = some k → w.heap.size ≤ k ∧ ∀ x, x ∈ bs → x.1 ≠ k) : Lp w w2 bs :=
  ⟨Below.grown h.ext hg h.ext.size (fun k hk => (hr k hk).1), fun x hx => (hg.block x.1 (box_lt (h.box x hx)) (fun e => (hr x.1 e.symm).2 x hx rfl)).trans (h.box x hx)⟩
theorem ownsRow_ext {w w' : World} {base : Nat} {e : TypeId} {size : Nat} {v : Value} {n : Nat} {xs : List Value} (h : w.ownsRow base e size v n xs) (k : Ext w w') : w'.ownsRow base e size v n xs := by
  refine ⟨h.1, ?_⟩
  rcases h.2 with h2 | ⟨g, cap, cur, h1, h2, h3, h4⟩
  · exact Or.inl h2
  · exact Or.inr ⟨g, cap, cur, h1, h2, k.box h3, h4⟩
theorem ownsRow_mono {w : World} {base base' : Nat} {e : TypeId} {size : Nat} {v : Value} {n : Nat} {xs : List Value} (h : w.ownsRow base e size v n xs) (hb : base' ≤ base) : w.ownsRow base' e size v n xs := by
  refine ⟨h.1, ?_⟩
  rcases h.2 with h2 | ⟨g, cap, cur, h1, h2, h3, h4⟩
  · exact Or.inl h2
  · exact Or.inr ⟨g, cap, cur, h1, by omega, h3, h4⟩
/-- A row of numbers, five to an element, of the call's own, from block B on. -/
def Own5 (B : Nat) (w : World) (v : Value) (N : Nat) (D : List Int) : Prop := w.ownsRow B 92 5 v N (nums D) ∧ B ≤ w.heap.size
theorem Own5.ext {B : Nat} {w w' : World} {v : Value} {N : Nat} {D : List Int} (h : Own5 B w v N D) (e : Ext w w') : Own5 B w' v N D := ⟨ownsRow_ext h.1 e, Nat.le_trans h.2 e.size⟩
theorem nums_append (D E : List Int) : nums (D ++ E) = nums D ++ nums E := by simp [nums]
theorem five_cells {w : World} {a b c d e : Value} {t : TypeId} : ∀ j u, [a, b, c, d, e][j]? = some u → (w.alloc (.cells #[a, b, c, d, e] t)).cell? ((⟨w.heap.size, 0, none⟩ : Addr).add j) = some u := by
  intro j u hj
  have h := box_cell (box_new w (.cells #[a, b, c, d, e] t)) j
  have e : (⟨w.heap.size, 0, none⟩ : Addr).add j = ⟨w.heap.size, j, none⟩ := by
    simp only [Addr.add, Nat.zero_add]
    by_cases hz : j = 0
    · subst hz; simp
    · simp [hz]
  rw [e, h]
  simpa using hj
theorem Lp.append5 {w wr w2 : World} {b1 b2 B N : Nat} {cs1 cs2 : Array Value} {t1 t2 : TypeId} {o : Obj} {out : Value} {D : List Int} (h : Lp w wr [(b1, cs1, t1), (b2, cs2, t2)]) (hO : Own5 B wr out N D) (hB : w.heap.size ≤ B) (h1 : b1 < B) (h2 : b2 < B) (hg : (wr.alloc o).grownBy w2 out.ownBlock) : Lp w w2 [(b1, cs1, t1), (b2, cs2, t2)] := by
  refine (h.alloc o).grown hg fun k hk => ?_
  have q := (hO.1.lt k hk).1
  refine ⟨by omega, fun x hx => ?_⟩
  rcases List.mem_cons.1 hx with rfl | hx
  · simp only; omega
  · rcases List.mem_cons.1 hx with rfl | hx
    · simp only; omega
    · cases hx
def meetStep (l : Line) (p : List (List Int)) (a b k m : Nat) (acc : List Int) : List Int :=
  if whereT l a k = whereT l b m ∧ max (fromT l p a k) (fromT l p b m) ≤ min (tillT l p a k) (tillT l p b m) then acc ++ [(a : Int), (b : Int), whereT l a k, max (fromT l p a k) (fromT l p b m), min (tillT l p a k) (tillT l p b m)] else acc
def meetM (l : Line) (p : List (List Int)) (a b k : Nat) (acc : List Int) : List Int := foldF (meetStep l p a b k) 0 ((l.tr b).legs.length + 1) acc
def meetK (l : Line) (p : List (List Int)) (a b : Nat) (acc : List Int) : List Int := foldF (meetM l p a b) 0 ((l.tr a).legs.length + 1) acc
def meetB (l : Line) (p : List (List Int)) (a : Nat) (acc : List Int) : List Int := foldF (meetK l p a) (a + 1) l.trains.length acc
def meetsD (l : Line) (p : List (List Int)) : List Int := foldF (meetB l p) 0 l.trains.length []
def meetsA (l : Line) (p : List (List Int)) : List Int := if canB l p then meetsD l p else []
theorem fromT_bd {l : Line} {p : List (List Int)} (C : Can l p) {i k : Nat} (hi : i < l.trains.length) (hk : k ≤ (l.tr i).legs.length) : 0 ≤ fromT l p i k ∧ fromT l p i k ≤ 1010000 := by
  unfold fromT
  have t0 := C.ok.bd.tr i hi
  by_cases e : k = 0
  · rw [if_pos e]; omega
  · rw [if_neg e]
    have h1 := C.fits.bd (k := k - 1) hi (by omega)
    obtain ⟨_, _, y1, y2, _, _⟩ := C.ok.bd.leg i (k - 1) hi (by omega)
    omega
set_option maxRecDepth 100000 in
set_option maxHeartbeats 8000000 in
theorem spec_Meets_any {w : World} {l : Line} {p : List (List Int)} {u v : Value} (hl : IsLine w l u) (hp : IsPlan w p v) (hs : l.size ≤ 1048576) (hpn : p.length ≤ 1048576) (hpl : ∀ (i : Nat) (t : List Int), p[i]? = some t → t.length ≤ 1048576) :
    Calls Try.prog 46 #[u, v] w fun e w' => ∃ r N, e = .returned r ∧ N ≤ 5000 ∧ w'.ownsRow w.heap.size 92 5 r N (nums (meetsA l p)) ∧ Ext w w' := by
  have HL := Lib.hid (fun (W : World) (e : Ext w W) => hl.ext e)
  have HP := Lib.hid (fun (W : World) (e : Ext w W) => hp.ext e)
  obtain ⟨A0, c0, A2, c2, rfl, h0, h2⟩ := hl
  obtain ⟨A3, c3, rfl, h3⟩ := hp
  have hs0 := Lib.hid hs; clear hs
  cases h : canB l p with
  | false =>
    have hA : Hid (meetsA l p = []) := by simp [Hid, meetsA, h]
    have h' : ((checkA l p).1 != 0) = true := by rw [bne, show ((checkA l p).1 == 0) = false from h]; rfl
    clear h h0 h2 h3
    generalize hf : checkA l p = f at *
    obtain ⟨a, b, c, d⟩ := f
    have HF := Lib.hid hf; clear hf
    simp only at h'
    go_enter Try.func46, Try.ntmps46
    go_wp2_with (go_at_call 43; refine (spec_Check_any (HL.out _ (by repeat (first | (with_reducible assumption) | (with_reducible exact Ext.refl _) | apply Ext.alloc | apply Ext.drewN | apply Ext.drew))) (HP.out _ (by repeat (first | (with_reducible assumption) | (with_reducible exact Ext.refl _) | apply Ext.alloc | apply Ext.drewN | apply Ext.drew))) hs0.out hpn hpl).mono ?_; rw [HF.out]; rintro e w1 ⟨rfl, hE⟩; simp only [clV]; have hS := (Lp.start2 w _ _ _ _).trans hE; obtain ⟨k1, k2, k3, k4, k5, k6⟩ := hS.open2)
    go_ret
    exact ⟨_, 0, rfl, by omega, by rw [hA.out]; exact World.ownsRow_nil _ _ _ _, Ext.trans hS.ext (by repeat (first | (with_reducible assumption) | (with_reducible exact Ext.refl _) | apply Ext.alloc | apply Ext.drewN | apply Ext.drew))⟩
  | true =>
    have hA : Hid (meetsA l p = meetsD l p) := by simp [Hid, meetsA, h]
    have HC := Lib.hid (canB_can h)
    have HK := Lib.hid HC.out.check
    obtain ⟨b0, o0, b2, o2, bl, ol, cl, SL⟩ := seeL HC.out.ok h0 h2
    clear h0 h2 h3 h
    have HS := Lib.hid SL
    have HB := Lib.hid HC.out.ok.bd
    have n5 := HB.out.n5
    rw [HC.out.fits.rows] at HP ⊢
    clear SL
    go_enter Try.func46, Try.ntmps46
    go_wp2_with (go_at_call 43; refine (spec_Check_any (HL.out _ (by repeat (first | (with_reducible assumption) | (with_reducible exact Ext.refl _) | apply Ext.alloc | apply Ext.drewN | apply Ext.drew))) (HP.out _ (by repeat (first | (with_reducible assumption) | (with_reducible exact Ext.refl _) | apply Ext.alloc | apply Ext.drewN | apply Ext.drew))) hs0.out hpn hpl).mono ?_; rw [HK.out]; rintro e w1 ⟨rfl, hE⟩; simp only [clV]; have hS := (Lp.start2 w _ _ _ _).trans hE; obtain ⟨k1, k2, k3, k4, k5, k6⟩ := hS.open2)
    have hw1 : w.heap.size + 1 < w1.heap.size := k4
    obtain ⟨i0, hi0, hzz⟩ := Option.map_eq_some_iff.1 info92
    simp only [Prod.mk.injEq] at hzz
    obtain ⟨hz0', hz1', hz2'⟩ := hzz
    have hi := Lib.hid hi0
    have hz0 := Lib.hid hz0'
    have hz1 := Lib.hid hz1'
    have hz2 := Lib.hid hz2'
    clear hi0 hz0' hz1' hz2'
    go_loopw [6, 26] (fun out j wr => ∃ (a N : Nat) (D : List Int), a ≤ l.trains.length ∧ j = .int .i64 a ∧ N ≤ 1000 * a ∧ Hid (meetsD l p = foldF (meetB l p) a l.trains.length D) ∧ Hid (Own5 (w1.heap.size + 1) wr out N D) ∧ Lp w wr [(w.heap.size + 1, #[.slice A3 l.trains.length c3], 42), (w.heap.size, #[.slice A0 l.tracks.length c0, .int .i64 l.gap, .slice A2 l.trains.length c2], 33)]) (fun _ j _ => l.trains.length - (intOf j).toNat)
    case atStart => exact ⟨0, 0, [], Nat.zero_le _, rfl, by omega, rfl, ⟨World.ownsRow_nil _ _ _ _, by simp⟩, (by repeat (first | (with_reducible exact hS) | apply Lp.alloc | apply Lp.drewN | apply Lp.drew))⟩
    case round =>
      clear hS k1 k2 k3 k4 k5 k6 hE
      obtain ⟨a, N, D, haa, rfl, hN, HD, HO, hS⟩ := hrel
      obtain ⟨k1, k2, k3, k4, k5, k6⟩ := hS.open2
      by_cases hla : a < l.trains.length
      · obtain ⟨rfl, hb2⟩ := HS.out.base2 (by omega)
        obtain ⟨_, _, _, _, ea, hba⟩ := HS.out.train a hla
        obtain ⟨a10, a11⟩ := HB.out.nl1 a hla
        go_wp2_with fail
        clear k1 k2 k3 k4 k5 k6
        go_loopw [6, 8] (fun out j wr => ∃ (b N : Nat) (D : List Int), b ≤ l.trains.length ∧ a + 1 ≤ b ∧ j = .int .i64 b ∧ N ≤ 1000 * a + 150 * b ∧ Hid (meetsD l p = foldF (meetB l p) (a + 1) l.trains.length (foldF (meetK l p a) b l.trains.length D)) ∧ Hid (Own5 (w1.heap.size + 1) wr out N D) ∧ Lp w wr [(w.heap.size + 1, #[.slice A3 l.trains.length c3], 42), (w.heap.size, #[.slice A0 l.tracks.length c0, .int .i64 l.gap, .slice (some ⟨b2, o2, none⟩) l.trains.length c2], 33)]) (fun _ j _ => l.trains.length - (intOf j).toNat)
        case atStart => exact ⟨a + 1, N, D, by omega, Nat.le_refl _, by go_num, by omega, by rw [HD.out, foldF_at _ hla]; rfl, HO, hS⟩
        case round =>
          clear hS HD HO hN
          obtain ⟨b, N, D, hbb, hab, rfl, hN, HD, HO, hS⟩ := hrel
          obtain ⟨k1, k2, k3, k4, k5, k6⟩ := hS.open2
          by_cases hlb : b < l.trains.length
          · obtain ⟨_, _, _, _, eb, hbb2⟩ := HS.out.train b hlb
            obtain ⟨b10, b11⟩ := HB.out.nl1 b hlb
            go_wp2_with fail
            clear k1 k2 k3 k4 k5 k6
            go_loopw [6, 9] (fun out j wr => ∃ (k N : Nat) (D : List Int), k ≤ (l.tr a).legs.length + 1 ∧ j = .int .i64 k ∧ N ≤ 1000 * a + 150 * b + 12 * k ∧ Hid (meetsD l p = foldF (meetB l p) (a + 1) l.trains.length (foldF (meetK l p a) (b + 1) l.trains.length (foldF (meetM l p a b) k ((l.tr a).legs.length + 1) D))) ∧ Hid (Own5 (w1.heap.size + 1) wr out N D) ∧ Lp w wr [(w.heap.size + 1, #[.slice A3 l.trains.length c3], 42), (w.heap.size, #[.slice A0 l.tracks.length c0, .int .i64 l.gap, .slice (some ⟨b2, o2, none⟩) l.trains.length c2], 33)]) (fun _ j _ => (l.tr a).legs.length + 1 - (intOf j).toNat)
            case atStart => exact ⟨0, N, D, Nat.zero_le _, rfl, by omega, by rw [HD.out, foldF_at _ hlb]; rfl, HO, hS⟩
            case round =>
              clear hS HD HO hN
              obtain ⟨k, N, D, hkk, rfl, hN, HD, HO, hS⟩ := hrel
              obtain ⟨k1, k2, k3, k4, k5, k6⟩ := hS.open2
              by_cases hlk : k ≤ (l.tr a).legs.length
              · go_wp2_with fail
                clear k1 k2 k3 k4 k5 k6
                go_loopw [6, 10] (fun out j wr => ∃ (m N : Nat) (D : List Int), m ≤ (l.tr b).legs.length + 1 ∧ j = .int .i64 m ∧ N ≤ 1000 * a + 150 * b + 12 * k + m ∧ Hid (meetsD l p = foldF (meetB l p) (a + 1) l.trains.length (foldF (meetK l p a) (b + 1) l.trains.length (foldF (meetM l p a b) (k + 1) ((l.tr a).legs.length + 1) (foldF (meetStep l p a b k) m ((l.tr b).legs.length + 1) D)))) ∧ Hid (Own5 (w1.heap.size + 1) wr out N D) ∧ Lp w wr [(w.heap.size + 1, #[.slice A3 l.trains.length c3], 42), (w.heap.size, #[.slice A0 l.tracks.length c0, .int .i64 l.gap, .slice (some ⟨b2, o2, none⟩) l.trains.length c2], 33)]) (fun _ j _ => (l.tr b).legs.length + 1 - (intOf j).toNat)
                case atStart => exact ⟨0, N, D, Nat.zero_le _, rfl, by omega, by rw [HD.out, foldF_at _ (by omega : k < (l.tr a).legs.length + 1)]; rfl, HO, hS⟩
                case round =>
                  clear hS HD HO hN
                  obtain ⟨m, N, D, hmm, rfl, hN, HD, HO, hS⟩ := hrel
                  obtain ⟨k1, k2, k3, k4, k5, k6⟩ := hS.open2
                  by_cases hlm : m ≤ (l.tr b).legs.length
                  · have hX0 := hS.ext
                    go_wp2_with fail
                    refine (l3there_any (HL.out _ (by repeat (first | (with_reducible exact hS.ext) | (with_reducible assumption) | (with_reducible exact Ext.refl _) | with_reducible apply Ext.alloc | with_reducible apply Ext.drewN | with_reducible apply Ext.drew | with_reducible refine Ext.setCell ?_ (by simp only []; omega) _))) (HP.out _ (by repeat (first | (with_reducible exact hS.ext) | (with_reducible assumption) | (with_reducible exact Ext.refl _) | with_reducible apply Ext.alloc | with_reducible apply Ext.drewN | with_reducible apply Ext.drew | with_reducible refine Ext.setCell ?_ (by simp only []; omega) _))) HC.out.ok HC.out.fits hla hlk).mono ?_
                    rintro e w3 ⟨rfl, hE3⟩
                    have hT := hS.trans hE3
                    have HO3 := Lib.hid (HO.out.ext hE3)
                    clear k1 k2 k3 k4 k5 k6 hS HO hE3 hX0
                    have hS := hT; clear hT
                    obtain ⟨k1, k2, k3, k4, k5, k6⟩ := hS.open2
                    have hX0 := hS.ext
                    go_wp2_with fail
                    refine (l3there_any (HL.out _ (by repeat (first | (with_reducible exact hS.ext) | (with_reducible assumption) | (with_reducible exact Ext.refl _) | with_reducible apply Ext.alloc | with_reducible apply Ext.drewN | with_reducible apply Ext.drew | with_reducible refine Ext.setCell ?_ (by simp only []; omega) _))) (HP.out _ (by repeat (first | (with_reducible exact hS.ext) | (with_reducible assumption) | (with_reducible exact Ext.refl _) | with_reducible apply Ext.alloc | with_reducible apply Ext.drewN | with_reducible apply Ext.drew | with_reducible refine Ext.setCell ?_ (by simp only []; omega) _))) HC.out.ok HC.out.fits hlb hlm).mono ?_
                    rintro e w4 ⟨rfl, hE4⟩
                    have hT := hS.trans hE4
                    have HO4 := Lib.hid (HO3.out.ext hE4)
                    clear k1 k2 k3 k4 k5 k6 hS HO3 hE4 hX0
                    have hS := hT; clear hT
                    obtain ⟨k1, k2, k3, k4, k5, k6⟩ := hS.open2
                    have hX4 := hS.ext
                    by_cases q1 : fromT l p a k < fromT l p b m
                    · by_cases q2 : tillT l p b m < tillT l p a k
                      · by_cases q3 : whereT l a k = whereT l b m
                        · by_cases q4 : fromT l p b m ≤ tillT l p b m
                          · have hv : Hid (meetStep l p a b k m D = D ++ [(a : Int), (b : Int), whereT l a k, (fromT l p b m), (tillT l p b m)]) := by unfold Hid meetStep; rw [show max (fromT l p a k) (fromT l p b m) = (fromT l p b m) by omega, show min (tillT l p a k) (tillT l p b m) = (tillT l p b m) by omega, if_pos ⟨q3, q4⟩]
                            have q3' : (whereT l a k == whereT l b m) = true := by simp [q3]
                            clear q3
                            go_wp2_with (at_builtin; refine wpList_append_own _ rfl _ _ 63 rfl (w1.heap.size + 1) 92 i0 (.agg #[.int .i64 0, .int .i64 0, .int .i64 0, .int .i64 0, .int .i64 0]) 5 40 Try.underlying63 hi.out hz0.out hz1.out hz2.out rfl (by decide) _ _ _ rfl (HO4.out.1.alloc _) ⟨w4.heap.size, 0, none⟩ 1 1 [.int .i64 a, .int .i64 b, .int .i64 (whereT l a k), .int .i64 (fromT l p b m), .int .i64 (tillT l p b m)] rfl rfl five_cells ?c2 ?c3 ?c4 ?c5 ?_)
                            case c2 => intro u hu; simp at hu; rcases hu with rfl | rfl | rfl | rfl | rfl <;> rfl
                            case c3 => unfold maxLen; omega
                            case c4 => omega
                            case c5 => have := HO4.out.2; simp; omega
                            · intro v' w5 hown' hgrow _
                              have hS5 := hS.append5 HO4.out (by omega) (by omega) (by omega) hgrow
                              have HO5 : Hid (Own5 (w1.heap.size + 1) w5 v' (N + 1) (D ++ [(a : Int), (b : Int), whereT l a k, (fromT l p b m), (tillT l p b m)])) := ⟨by rw [nums_append]; exact hown', by have q1 := hgrow.size; have q2 := HO4.out.2; simp only [alloc_size] at q1; omega⟩
                              clear hown' hgrow k1 k2 k3 k4 k5 k6
                              go_wp2_with fail
                              exact ⟨⟨m + 1, N + 1, _, by omega, by go_num, by omega, by rw [HD.out, foldF_at _ (by omega : m < (l.tr b).legs.length + 1), hv.out]; rfl, HO5, hS5⟩, (by simp [intOf]; omega)⟩
                          · have hv : Hid (meetStep l p a b k m D = D) := by unfold Hid meetStep; rw [if_neg (fun h => q4 (by omega))]
                            have q3' : (whereT l a k == whereT l b m) = true := by simp [q3]
                            clear q3
                            go_wp2_with fail
                            exact ⟨⟨m + 1, N, D, by omega, by go_num, by omega, by rw [HD.out, foldF_at _ (by omega : m < (l.tr b).legs.length + 1), hv.out]; rfl, HO4, hS⟩, (by simp [intOf]; omega)⟩
                        · have hv : Hid (meetStep l p a b k m D = D) := by unfold Hid meetStep; rw [if_neg (fun h => q3 h.1)]
                          have q3' : (whereT l a k == whereT l b m) = false := by simp [q3]
                          clear q3
                          go_wp2_with fail
                          exact ⟨⟨m + 1, N, D, by omega, by go_num, by omega, by rw [HD.out, foldF_at _ (by omega : m < (l.tr b).legs.length + 1), hv.out]; rfl, HO4, hS⟩, (by simp [intOf]; omega)⟩
                      · by_cases q3 : whereT l a k = whereT l b m
                        · by_cases q4 : fromT l p b m ≤ tillT l p a k
                          · have hv : Hid (meetStep l p a b k m D = D ++ [(a : Int), (b : Int), whereT l a k, (fromT l p b m), (tillT l p a k)]) := by unfold Hid meetStep; rw [show max (fromT l p a k) (fromT l p b m) = (fromT l p b m) by omega, show min (tillT l p a k) (tillT l p b m) = (tillT l p a k) by omega, if_pos ⟨q3, q4⟩]
                            have q3' : (whereT l a k == whereT l b m) = true := by simp [q3]
                            clear q3
                            go_wp2_with (at_builtin; refine wpList_append_own _ rfl _ _ 63 rfl (w1.heap.size + 1) 92 i0 (.agg #[.int .i64 0, .int .i64 0, .int .i64 0, .int .i64 0, .int .i64 0]) 5 40 Try.underlying63 hi.out hz0.out hz1.out hz2.out rfl (by decide) _ _ _ rfl (HO4.out.1.alloc _) ⟨w4.heap.size, 0, none⟩ 1 1 [.int .i64 a, .int .i64 b, .int .i64 (whereT l a k), .int .i64 (fromT l p b m), .int .i64 (tillT l p a k)] rfl rfl five_cells ?c2 ?c3 ?c4 ?c5 ?_)
                            case c2 => intro u hu; simp at hu; rcases hu with rfl | rfl | rfl | rfl | rfl <;> rfl
                            case c3 => unfold maxLen; omega
                            case c4 => omega
                            case c5 => have := HO4.out.2; simp; omega
                            · intro v' w5 hown' hgrow _
                              have hS5 := hS.append5 HO4.out (by omega) (by omega) (by omega) hgrow
                              have HO5 : Hid (Own5 (w1.heap.size + 1) w5 v' (N + 1) (D ++ [(a : Int), (b : Int), whereT l a k, (fromT l p b m), (tillT l p a k)])) := ⟨by rw [nums_append]; exact hown', by have q1 := hgrow.size; have q2 := HO4.out.2; simp only [alloc_size] at q1; omega⟩
                              clear hown' hgrow k1 k2 k3 k4 k5 k6
                              go_wp2_with fail
                              exact ⟨⟨m + 1, N + 1, _, by omega, by go_num, by omega, by rw [HD.out, foldF_at _ (by omega : m < (l.tr b).legs.length + 1), hv.out]; rfl, HO5, hS5⟩, (by simp [intOf]; omega)⟩
                          · have hv : Hid (meetStep l p a b k m D = D) := by unfold Hid meetStep; rw [if_neg (fun h => q4 (by omega))]
                            have q3' : (whereT l a k == whereT l b m) = true := by simp [q3]
                            clear q3
                            go_wp2_with fail
                            exact ⟨⟨m + 1, N, D, by omega, by go_num, by omega, by rw [HD.out, foldF_at _ (by omega : m < (l.tr b).legs.length + 1), hv.out]; rfl, HO4, hS⟩, (by simp [intOf]; omega)⟩
                        · have hv : Hid (meetStep l p a b k m D = D) := by unfold Hid meetStep; rw [if_neg (fun h => q3 h.1)]
                          have q3' : (whereT l a k == whereT l b m) = false := by simp [q3]
                          clear q3
                          go_wp2_with fail
                          exact ⟨⟨m + 1, N, D, by omega, by go_num, by omega, by rw [HD.out, foldF_at _ (by omega : m < (l.tr b).legs.length + 1), hv.out]; rfl, HO4, hS⟩, (by simp [intOf]; omega)⟩
                    · by_cases q2 : tillT l p b m < tillT l p a k
                      · by_cases q3 : whereT l a k = whereT l b m
                        · by_cases q4 : fromT l p a k ≤ tillT l p b m
                          · have hv : Hid (meetStep l p a b k m D = D ++ [(a : Int), (b : Int), whereT l a k, (fromT l p a k), (tillT l p b m)]) := by unfold Hid meetStep; rw [show max (fromT l p a k) (fromT l p b m) = (fromT l p a k) by omega, show min (tillT l p a k) (tillT l p b m) = (tillT l p b m) by omega, if_pos ⟨q3, q4⟩]
                            have q3' : (whereT l a k == whereT l b m) = true := by simp [q3]
                            clear q3
                            go_wp2_with (at_builtin; refine wpList_append_own _ rfl _ _ 63 rfl (w1.heap.size + 1) 92 i0 (.agg #[.int .i64 0, .int .i64 0, .int .i64 0, .int .i64 0, .int .i64 0]) 5 40 Try.underlying63 hi.out hz0.out hz1.out hz2.out rfl (by decide) _ _ _ rfl (HO4.out.1.alloc _) ⟨w4.heap.size, 0, none⟩ 1 1 [.int .i64 a, .int .i64 b, .int .i64 (whereT l a k), .int .i64 (fromT l p a k), .int .i64 (tillT l p b m)] rfl rfl five_cells ?c2 ?c3 ?c4 ?c5 ?_)
                            case c2 => intro u hu; simp at hu; rcases hu with rfl | rfl | rfl | rfl | rfl <;> rfl
                            case c3 => unfold maxLen; omega
                            case c4 => omega
                            case c5 => have := HO4.out.2; simp; omega
                            · intro v' w5 hown' hgrow _
                              have hS5 := hS.append5 HO4.out (by omega) (by omega) (by omega) hgrow
                              have HO5 : Hid (Own5 (w1.heap.size + 1) w5 v' (N + 1) (D ++ [(a : Int), (b : Int), whereT l a k, (fromT l p a k), (tillT l p b m)])) := ⟨by rw [nums_append]; exact hown', by have q1 := hgrow.size; have q2 := HO4.out.2; simp only [alloc_size] at q1; omega⟩
                              clear hown' hgrow k1 k2 k3 k4 k5 k6
                              go_wp2_with fail
                              exact ⟨⟨m + 1, N + 1, _, by omega, by go_num, by omega, by rw [HD.out, foldF_at _ (by omega : m < (l.tr b).legs.length + 1), hv.out]; rfl, HO5, hS5⟩, (by simp [intOf]; omega)⟩
                          · have hv : Hid (meetStep l p a b k m D = D) := by unfold Hid meetStep; rw [if_neg (fun h => q4 (by omega))]
                            have q3' : (whereT l a k == whereT l b m) = true := by simp [q3]
                            clear q3
                            go_wp2_with fail
                            exact ⟨⟨m + 1, N, D, by omega, by go_num, by omega, by rw [HD.out, foldF_at _ (by omega : m < (l.tr b).legs.length + 1), hv.out]; rfl, HO4, hS⟩, (by simp [intOf]; omega)⟩
                        · have hv : Hid (meetStep l p a b k m D = D) := by unfold Hid meetStep; rw [if_neg (fun h => q3 h.1)]
                          have q3' : (whereT l a k == whereT l b m) = false := by simp [q3]
                          clear q3
                          go_wp2_with fail
                          exact ⟨⟨m + 1, N, D, by omega, by go_num, by omega, by rw [HD.out, foldF_at _ (by omega : m < (l.tr b).legs.length + 1), hv.out]; rfl, HO4, hS⟩, (by simp [intOf]; omega)⟩
                      · by_cases q3 : whereT l a k = whereT l b m
                        · by_cases q4 : fromT l p a k ≤ tillT l p a k
                          · have hv : Hid (meetStep l p a b k m D = D ++ [(a : Int), (b : Int), whereT l a k, (fromT l p a k), (tillT l p a k)]) := by unfold Hid meetStep; rw [show max (fromT l p a k) (fromT l p b m) = (fromT l p a k) by omega, show min (tillT l p a k) (tillT l p b m) = (tillT l p a k) by omega, if_pos ⟨q3, q4⟩]
                            have q3' : (whereT l a k == whereT l b m) = true := by simp [q3]
                            clear q3
                            go_wp2_with (at_builtin; refine wpList_append_own _ rfl _ _ 63 rfl (w1.heap.size + 1) 92 i0 (.agg #[.int .i64 0, .int .i64 0, .int .i64 0, .int .i64 0, .int .i64 0]) 5 40 Try.underlying63 hi.out hz0.out hz1.out hz2.out rfl (by decide) _ _ _ rfl (HO4.out.1.alloc _) ⟨w4.heap.size, 0, none⟩ 1 1 [.int .i64 a, .int .i64 b, .int .i64 (whereT l a k), .int .i64 (fromT l p a k), .int .i64 (tillT l p a k)] rfl rfl five_cells ?c2 ?c3 ?c4 ?c5 ?_)
                            case c2 => intro u hu; simp at hu; rcases hu with rfl | rfl | rfl | rfl | rfl <;> rfl
                            case c3 => unfold maxLen; omega
                            case c4 => omega
                            case c5 => have := HO4.out.2; simp; omega
                            · intro v' w5 hown' hgrow _
                              have hS5 := hS.append5 HO4.out (by omega) (by omega) (by omega) hgrow
                              have HO5 : Hid (Own5 (w1.heap.size + 1) w5 v' (N + 1) (D ++ [(a : Int), (b : Int), whereT l a k, (fromT l p a k), (tillT l p a k)])) := ⟨by rw [nums_append]; exact hown', by have q1 := hgrow.size; have q2 := HO4.out.2; simp only [alloc_size] at q1; omega⟩
                              clear hown' hgrow k1 k2 k3 k4 k5 k6
                              go_wp2_with fail
                              exact ⟨⟨m + 1, N + 1, _, by omega, by go_num, by omega, by rw [HD.out, foldF_at _ (by omega : m < (l.tr b).legs.length + 1), hv.out]; rfl, HO5, hS5⟩, (by simp [intOf]; omega)⟩
                          · have hv : Hid (meetStep l p a b k m D = D) := by unfold Hid meetStep; rw [if_neg (fun h => q4 (by omega))]
                            have q3' : (whereT l a k == whereT l b m) = true := by simp [q3]
                            clear q3
                            go_wp2_with fail
                            exact ⟨⟨m + 1, N, D, by omega, by go_num, by omega, by rw [HD.out, foldF_at _ (by omega : m < (l.tr b).legs.length + 1), hv.out]; rfl, HO4, hS⟩, (by simp [intOf]; omega)⟩
                        · have hv : Hid (meetStep l p a b k m D = D) := by unfold Hid meetStep; rw [if_neg (fun h => q3 h.1)]
                          have q3' : (whereT l a k == whereT l b m) = false := by simp [q3]
                          clear q3
                          go_wp2_with fail
                          exact ⟨⟨m + 1, N, D, by omega, by go_num, by omega, by rw [HD.out, foldF_at _ (by omega : m < (l.tr b).legs.length + 1), hv.out]; rfl, HO4, hS⟩, (by simp [intOf]; omega)⟩
                  · have HE := Lib.hid (foldF_end (meetStep l p a b k) (i := m) (n := (l.tr b).legs.length + 1) (by omega) D)
                    go_wp2_with fail
                    exact ⟨⟨k + 1, N, D, by omega, by go_num, by omega, by rw [HD.out, HE.out]; rfl, HO, hS⟩, (by simp [intOf]; omega)⟩
              · have HE := Lib.hid (foldF_end (meetM l p a b) (i := k) (n := (l.tr a).legs.length + 1) (by omega) D)
                go_wp2_with fail
                exact ⟨⟨b + 1, N, D, by omega, by omega, by go_num, by omega, by rw [HD.out, HE.out]; rfl, HO, hS⟩, (by simp [intOf]; omega)⟩
          · have HE := Lib.hid (foldF_end (meetK l p a) (i := b) (n := l.trains.length) (by omega) D)
            go_wp2_with fail
            exact ⟨⟨a + 1, N, D, by omega, by go_num, by omega, by rw [HD.out, HE.out]; rfl, HO, hS⟩, (by simp [intOf]; omega)⟩
      · have HE := Lib.hid (foldF_end (meetB l p) (i := a) (n := l.trains.length) (by omega) D)
        have hX := hS.ext
        go_wp2_with fail
        go_ret
        exact ⟨_, N, rfl, by omega, by rw [hA.out, HD.out, HE.out]; exact ownsRow_mono HO.out.1 (by omega), hX⟩
end Go.Proofs.Ythhkbfjolmgloaa
