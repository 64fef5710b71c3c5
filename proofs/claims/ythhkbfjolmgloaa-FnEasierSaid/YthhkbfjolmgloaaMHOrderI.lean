/- impl.Order answers the order of a plan. Condition: line and plan hold at most 2^20 values. -/
import Derived.Test.YthhkbfjolmgloaaML7a
import Derived.Test.YthhkbfjolmgloaaML0a
import Derived.Test.YthhkbfjolmgloaaML10a
import Derived.Test.YthhkbfjolmgloaaML9a
namespace Go.Proofs.Ythhkbfjolmgloaa
open Go.RowKit
set_option linter.unusedVariables false
set_option linter.unusedSimpArgs false
def flat2 (D : List (Int × Int)) : List Value := D.flatMap fun x => [.int .i64 x.1, .int .i64 x.2]
theorem flat2_snoc (D : List (Int × Int)) (x : Int × Int) : flat2 (D ++ [x]) = flat2 D ++ (#[Value.int .i64 x.1, .int .i64 x.2] : Array Value).toList := by simp [flat2]
theorem flat2_at {D : List (Int × Int)} {j : Nat} (h : j < D.length) : (flat2 D)[j * 2]? = some (.int .i64 (D.getD j (0, 0)).1) ∧ (flat2 D)[j * 2 + 1]? = some (.int .i64 (D.getD j (0, 0)).2) := by
  induction D generalizing j with
  | nil => simp at h
  | cons x xs ih =>
    cases j with
    | zero => exact ⟨rfl, rfl⟩
    | succ j =>
      have := ih (j := j) (by simpa using h)
      rw [show (j + 1) * 2 = j * 2 + 2 by omega]
      exact this
theorem flat2_len (D : List (Int × Int)) : (flat2 D).length = D.length * 2 := by
  induction D with
  | nil => rfl
  | cons x xs ih => simp only [flat2, List.flatMap_cons, List.length_append] at ih ⊢; rw [ih]; simp; omega
/-- A row of pairs of the call's own. -/
def OwnP (B : Nat) (w : World) (v : Value) (D : List (Int × Int)) : Prop := w.ownsRow B 133 2 v D.length (flat2 D) ∧ B ≤ w.heap.size
theorem OwnP.ext {B : Nat} {w w' : World} {v : Value} {D : List (Int × Int)} (h : OwnP B w v D) (e : Ext w w') : OwnP B w' v D := ⟨ownsRow_ext h.1 e, Nat.le_trans h.2 e.size⟩
theorem OwnP.open_ {B : Nat} {w : World} {v : Value} {D : List (Int × Int)} (h : OwnP B w v D) : (D = [] ∧ v = .slice none 0 0) ∨ ∃ g cap cs, v = .slice (some ⟨g, 0, none⟩) D.length cap ∧ B ≤ g ∧ w.heap[g]? = some (.cells cs 133 (0, 0)) ∧ PairsAt cs D := by
  rcases h.1.2 with ⟨h1, h2⟩ | ⟨g, cap, cur, h1, h2, h3, h4, h5, h6, h7⟩
  · exact Or.inl ⟨List.eq_nil_of_length_eq_zero h2, h1⟩
  · refine Or.inr ⟨g, cap, cur, h1, h2, h3, by rw [h6]; omega, fun j hj => ?_⟩
    obtain ⟨a, b⟩ := flat2_at hj
    rw [← h7] at a b
    rw [List.getElem?_take_of_lt (by omega)] at a b
    exact ⟨by simpa using a, by simpa using b⟩
theorem OwnP.lt {B : Nat} {w : World} {v : Value} {D : List (Int × Int)} (h : OwnP B w v D) : ∀ g, v.ownBlock = some g → g < w.heap.size ∧ B ≤ g := fun g hg => ⟨(h.1.lt g hg).2, (h.1.lt g hg).1⟩
/-- A row of numbers of the call's own. -/
def Own1 (B : Nat) (w : World) (v : Value) (D : List Int) : Prop := w.ownsRow B 3 1 v D.length (nums D) ∧ B ≤ w.heap.size
theorem Own1.ext {B : Nat} {w w' : World} {v : Value} {D : List Int} (h : Own1 B w v D) (e : Ext w w') : Own1 B w' v D := ⟨ownsRow_ext h.1 e, Nat.le_trans h.2 e.size⟩
theorem Own1.lt {B : Nat} {w : World} {v : Value} {D : List Int} (h : Own1 B w v D) : ∀ g, v.ownBlock = some g → g < w.heap.size ∧ B ≤ g := fun g hg => ⟨(h.1.lt g hg).2, (h.1.lt g hg).1⟩
theorem Own1.snoc {B : Nat} {w w2 : World} {o : Obj} {row : Option Nat} {v : Value} {D : List Int} {x : Int} (h : w2.ownsRow B 3 1 v (D.length + 1) (nums D ++ (#[Value.int .i64 x] : Array Value).toList)) (hg : (w.alloc o).grownBy w2 row) (hB : B ≤ w.heap.size) : Own1 B w2 v (D ++ [x]) := ⟨by rw [nums_append, List.length_append]; exact h, by have q := hg.size; rw [alloc_size] at q; omega⟩
theorem OwnP.snoc {B : Nat} {w w2 : World} {o : Obj} {row : Option Nat} {v : Value} {D : List (Int × Int)} {x y : Int} (h : w2.ownsRow B 133 2 v (D.length + 1) (flat2 D ++ (#[Value.int .i64 x, .int .i64 y] : Array Value).toList)) (hg : (w.alloc o).grownBy w2 row) (hB : B ≤ w.heap.size) : OwnP B w2 v (D ++ [(x, y)]) := ⟨by rw [flat2_snoc, List.length_append]; exact h, by have q := hg.size; rw [alloc_size] at q; omega⟩
/-- A row stays beside boxes below it when it grows. -/
theorem Lp.grew {w wr w2 : World} {bs : List (Nat × Array Value × TypeId)} {B : Nat} {o : Obj} {v : Value} (h : Lp w wr bs) (hlt : ∀ g, v.ownBlock = some g → g < wr.heap.size ∧ B ≤ g) (hB : w.heap.size ≤ B) (hb : ∀ x, x ∈ bs → x.1 < B) (hg : (wr.alloc o).grownBy w2 v.ownBlock) : Lp w w2 bs :=
  (h.alloc o).grown hg fun k hk => ⟨Nat.le_trans hB (hlt k hk).2, fun x hx => by have := hb x hx; have := (hlt k hk).2; omega⟩
theorem lt1 {B b1 : Nat} {c1 : Array Value} {t1 : TypeId} (h1 : b1 < B) : ∀ x, x ∈ [(b1, c1, t1)] → x.1 < B := by
  intro x hx
  simp only [List.mem_cons, List.not_mem_nil, or_false] at hx
  subst hx; exact h1
theorem lt2 {B b1 b2 : Nat} {c1 c2 : Array Value} {t1 t2 : TypeId} (h1 : b1 < B) (h2 : b2 < B) : ∀ x, x ∈ [(b1, c1, t1), (b2, c2, t2)] → x.1 < B := by
  intro x hx
  simp only [List.mem_cons, List.not_mem_nil, or_false] at hx
  rcases hx with rfl | rfl
  · exact h1
  · exact h2
def pairsR (l : Line) (p : List (List Int)) (i : Nat) (D : List (Int × Int)) : List (Int × Int) := foldF (fun k D => D ++ [(st p i k, (i : Int))]) 0 (l.tr i).legs.length D
def pairsA (l : Line) (p : List (List Int)) : List (Int × Int) := foldF (pairsR l p) 0 l.trains.length []
theorem foldF_range (f : Nat → Int × Int) : ∀ (c i n : Nat) (D : List (Int × Int)), n - i = c → foldF (fun k D => D ++ [f k]) i n D = D ++ (List.range' i (n - i)).map f := by
  intro c
  induction c with
  | zero => intro i n D h; rw [foldF_end _ (by omega), h]; simp
  | succ c ih => intro i n D h; rw [foldF_at _ (by omega), ih _ _ _ (by omega), h, show n - (i + 1) = c by omega, List.range'_succ]; simp
theorem pairsA_rest (l : Line) (p : List (List Int)) : pairsA l p = restL l p (List.replicate l.trains.length 0) := by
  have hrep : ∀ i, (List.replicate l.trains.length 0).getD i 0 = 0 := fun i => by
    simp only [List.getD_eq_getElem?_getD, List.getElem?_replicate]
    split <;> rfl
  have key : ∀ (c i : Nat) (D : List (Int × Int)), l.trains.length - i = c → foldF (pairsR l p) i l.trains.length D = D ++ restN (fun i => rowL p i 0 (l.tr i).legs.length) i (l.trains.length - i) := by
    intro c
    induction c with
    | zero => intro i D h; rw [foldF_end _ (by omega), h]; simp [restN]
    | succ c ih =>
      intro i D h
      rw [foldF_at _ (by omega), ih _ _ (by omega), h, show l.trains.length - (i + 1) = c by omega]
      simp only [restN, pairsR, rowL]
      rw [foldF_range _ _ _ _ _ rfl]; simp
  unfold pairsA restL
  rw [key _ 0 [] rfl]
  simp only [List.nil_append, Nat.sub_zero]
  exact restN_congr fun j _ _ => by rw [hrep]; rfl
theorem rowL_length (p : List (List Int)) (i k c : Nat) : (rowL p i k c).length = c := by simp [rowL]
theorem restN_length (f : Nat → List (Int × Int)) : ∀ (c i : Nat), ((restN f i c).length : Int) = sumF (fun i => ((f i).length : Int)) i (i + c) := by
  intro c
  induction c with
  | zero => intro i; rw [sumF_end _ (by omega)]; rfl
  | succ c ih => intro i; rw [sumF_at _ (by omega)]; simp only [restN, List.length_append, Int.natCast_add]; rw [ih (i + 1), show i + 1 + c = i + (c + 1) by omega]
theorem pairsA_length (l : Line) (p : List (List Int)) : (pairsA l p).length = legsAll l := by
  have hrep : ∀ i, (List.replicate l.trains.length 0).getD i 0 = 0 := fun i => by
    simp only [List.getD_eq_getElem?_getD, List.getElem?_replicate]
    split <;> rfl
  have h1 := legsAll_eq l
  rw [remain_start] at h1
  rw [pairsA_rest]
  unfold restL
  have h2 := restN_length (fun i => rowL p i ((List.replicate l.trains.length 0).getD i 0) ((l.tr i).legs.length - (List.replicate l.trains.length 0).getD i 0)) l.trains.length 0
  rw [Nat.zero_add, sumF_congr (g := fun i => ((l.tr i).legs.length : Int)) (fun j _ _ => by rw [rowL_length, hrep]; simp)] at h2
  omega
theorem pairs_order {l : Line} {p : List (List Int)} (C : Can l p) (hc : canB l p = true) {S : List (Int × Int)} (hp : S.Perm (pairsA l p)) (hs : S.Pairwise leP) : orderA l p = S.map (·.2) := by
  unfold orderA
  rw [if_pos hc]
  have hrep : ∀ i, (List.replicate l.trains.length 0).getD i 0 = 0 := fun i => by
    simp only [List.getD_eq_getElem?_getD, List.getElem?_replicate]
    split <;> rfl
  rw [orderS_sorted C (legsAll l) (List.replicate l.trains.length 0) [] S (by simp) (fun i _ => by rw [hrep]; omega) (by rw [← pairsA_rest]; exact hp) hs (by rw [hp.length_eq, pairsA_length])]
  simp
theorem pairs_bd {l : Line} {p : List (List Int)} (C : Can l p) : ∀ x, x ∈ pairsA l p → Bd2 x := by
  intro x hx
  rw [pairsA_rest] at hx
  obtain ⟨i, k, hi, _, hk, rfl⟩ := mem_restL hx
  have := C.fits.bd hi hk
  have := C.ok.bd.n5
  unfold Bd2
  simp only
  omega
def ordS (d : List (Int × Int)) (k : Nat) : List Int := (d.take k).map (·.2)
theorem ordS_succ {d : List (Int × Int)} {k : Nat} (h : k < d.length) : ordS d (k + 1) = ordS d k ++ [(d.getD k (0, 0)).2] := by
  unfold ordS
  rw [List.take_succ_eq_append_getElem h, List.map_append]
  congr 1
  simp [List.getD_eq_getElem?_getD, h]
theorem ordS_len {d : List (Int × Int)} {k : Nat} (h : k ≤ d.length) : (ordS d k).length = k := by simp [ordS, h]
theorem ins_nil (w : World) (c : Nat) : Calls Try.prog 145 #[.slice none 0 c, .int .i64 0, .int .i64 0, .func (.func 118) #[] #[]] w fun e w' => e = .returned (.tuple #[]) ∧ w' = w := by
  go_enter Try.func145, Try.ntmps145
  go_wp2_with fail
  refine wp_loop_rounds 1 ?_
  rw [rounds_succ]
  go_wp2_with fail
  exact bodyPost_end (v := .tuple #[]) (by simp [results, Try.results145, go_sem]) rfl ⟨rfl, rfl⟩
theorem stable_nil (w : World) (c : Nat) : Calls Try.prog 117 #[.slice none 0 c, .func (.func 118) #[] #[]] w fun e w' => e = .returned (.tuple #[]) ∧ w' = w := by
  have h135 : Calls Try.prog 135 #[.slice none 0 c, .int .i64 0, .func (.func 118) #[] #[]] w fun e w' => e = .returned (.tuple #[]) ∧ w' = w := by
    go_enter Try.func135, Try.ntmps135
    go_wp2_with fail
    refine wp_loop_rounds 1 ?_
    rw [rounds_succ]
    go_wp2_with (go_at_call 145; refine (ins_nil w c).mono ?_; rintro e w' ⟨rfl, rfl⟩)
    refine wp_loop_rounds 1 ?_
    rw [rounds_succ]
    go_wp2_with fail
    exact bodyPost_end (v := .tuple #[]) (by simp [results, Try.results135, go_sem]) rfl ⟨rfl, rfl⟩
  have H := Lib.hid h135
  clear h135
  go_enter Try.func117, Try.ntmps117
  go_wp2_with (go_at_call 135; refine H.out.mono ?_; rintro e w' ⟨rfl, rfl⟩)
  exact bodyPost_end (v := .tuple #[]) (by simp [results, Try.results117, go_sem]) rfl ⟨rfl, rfl⟩
set_option maxRecDepth 100000 in
set_option maxHeartbeats 8000000 in
theorem impl_Order_any {w : World} {l : Line} {p : List (List Int)} {u v : Value} (hl : IsLine w l u) (hp : IsPlan w p v) (hs : l.size ≤ 1048576) (hpn : p.length ≤ 1048576) (hpl : ∀ (i : Nat) (t : List Int), p[i]? = some t → t.length ≤ 1048576) :
    Calls Try.prog 54 #[u, v] w fun e w' => ∃ r N, e = .returned r ∧ N ≤ 5000 ∧ w'.ownsRow w.heap.size 3 1 r N (nums (orderA l p)) ∧ Ext w w' := by
  have HL := Lib.hid (fun (W : World) (e : Ext w W) => hl.ext e)
  have HP := Lib.hid (fun (W : World) (e : Ext w W) => hp.ext e)
  obtain ⟨A0, c0, A2, c2, rfl, h0, h2⟩ := hl
  obtain ⟨A3, c3, rfl, h3⟩ := hp
  have hs0 := Lib.hid hs; clear hs
  cases h : canB l p with
  | false =>
    have hA : Hid (orderA l p = []) := by simp [Hid, orderA, h]
    have h' : canB l p = false := h
    have HF := Lib.hid h'
    clear h h' h0 h2 h3
    go_enter Try.func54, Try.ntmps54
    go_wp2_with (go_at_call 99; refine (can_any (HL.out _ (by repeat (first | (with_reducible assumption) | (with_reducible exact Ext.refl _) | apply Ext.alloc | apply Ext.drewN | apply Ext.drew))) (HP.out _ (by repeat (first | (with_reducible assumption) | (with_reducible exact Ext.refl _) | apply Ext.alloc | apply Ext.drewN | apply Ext.drew))) hs0.out hpn hpl).mono ?_; rw [HF.out]; rintro e w1 ⟨rfl, hE⟩)
    go_ret
    exact ⟨_, 0, rfl, by omega, by rw [hA.out]; exact World.ownsRow_nil _ _ _ _, Ext.trans (by repeat (first | (with_reducible assumption) | (with_reducible exact Ext.refl _) | apply Ext.alloc | apply Ext.drewN | apply Ext.drew)) hE⟩
  | true =>
    have HF := Lib.hid h
    have HC := Lib.hid (canB_can h)
    obtain ⟨b3, o3, br, or', cr, SP⟩ := seeP HC.out.ok HC.out.fits h3
    clear h0 h2 h3 h
    have HQ := Lib.hid SP
    have HB := Lib.hid HC.out.ok.bd
    have n5 := HB.out.n5
    have HPL := Lib.hid hpl; clear hpl
    have HPN := Lib.hid hpn; clear hpn
    rw [HC.out.fits.rows] at HP ⊢
    clear SP
    go_enter Try.func54, Try.ntmps54
    go_wp2_with fail
    refine (can_any (HL.out _ (by repeat (first | (with_reducible assumption) | (with_reducible exact Ext.refl _) | apply Ext.alloc | apply Ext.drewN | apply Ext.drew))) (HP.out _ (by repeat (first | (with_reducible assumption) | (with_reducible exact Ext.refl _) | apply Ext.alloc | apply Ext.drewN | apply Ext.drew))) hs0.out HPN.out HPL.out).mono ?_
    rw [HF.out]
    rintro e w1 ⟨rfl, hE⟩
    have hS := (Lp.start2 w _ _ _ _).trans hE; clear hE
    obtain ⟨k1, k2, k3, k4, k5, k6⟩ := hS.open2
    have hw1 : w.heap.size + 1 < w1.heap.size := k4
    go_wp2_with fail
    go_loopw [5, 20] (fun out j wr => ∃ (a : Nat) (D : List (Int × Int)), a ≤ l.trains.length ∧ j = .int .i64 a ∧ Hid (D.length ≤ 10 * a) ∧ Hid (pairsA l p = foldF (pairsR l p) a l.trains.length D) ∧ Hid (OwnP w1.heap.size wr out D) ∧ Lp w wr [(w.heap.size + 1, #[.slice A3 l.trains.length c3], 42), (w.heap.size, #[.slice A0 l.tracks.length c0, .int .i64 l.gap, .slice A2 l.trains.length c2], 33)]) (fun _ j _ => l.trains.length - (intOf j).toNat)
    case atStart => exact ⟨0, [], Nat.zero_le _, rfl, by simp [Hid], rfl, ⟨World.ownsRow_nil _ _ _ _, by simp⟩, hS⟩
    case round =>
      clear hS k1 k2 k3 k4 k5 k6
      obtain ⟨a, D, haa, rfl, hN, HD, HO, hS⟩ := hrel
      obtain ⟨k1, k2, k3, k4, k5, k6⟩ := hS.open2
      by_cases hla : a < l.trains.length
      · obtain ⟨rfl, hb3⟩ := HQ.out.base (by omega)
        obtain ⟨r0, hbr⟩ := HQ.out.row a hla
        obtain ⟨a10, a11⟩ := HB.out.nl1 a hla
        go_wp2_with fail
        clear k1 k2 k3 k4 k5 k6
        go_loopw [5, 27] (fun out j wr => ∃ (k : Nat) (D : List (Int × Int)), k ≤ (l.tr a).legs.length ∧ j = .int .i64 k ∧ Hid (D.length ≤ 10 * a + k) ∧ Hid (pairsA l p = foldF (pairsR l p) (a + 1) l.trains.length (foldF (fun k D => D ++ [(st p a k, (a : Int))]) k (l.tr a).legs.length D)) ∧ Hid (OwnP w1.heap.size wr out D) ∧ Lp w wr [(w.heap.size + 1, #[.slice (some ⟨b3, o3, none⟩) l.trains.length c3], 42), (w.heap.size, #[.slice A0 l.tracks.length c0, .int .i64 l.gap, .slice A2 l.trains.length c2], 33)]) (fun _ j _ => (l.tr a).legs.length - (intOf j).toNat)
        case atStart => exact ⟨0, D, Nat.zero_le _, rfl, by have := hN.out; unfold Hid; omega, by rw [HD.out, foldF_at _ hla]; rfl, HO, hS⟩
        case round =>
          clear hS HD HO hN
          obtain ⟨k, D, hkk, rfl, hN, HD, HO, hS⟩ := hrel
          obtain ⟨k1, k2, k3, k4, k5, k6⟩ := hS.open2
          by_cases hlk : k < (l.tr a).legs.length
          · have s0 := HQ.out.st a k hla hlk
            obtain ⟨z0, z1⟩ := HC.out.fits.bd hla hlk
            have hN' : D.length ≤ 1000000 := by have := hN.out; omega
            go_wp2_with (at_builtin; refine app_any rfl _ _ 132 rfl w1.heap.size 133 2 16 _ Try.underlying132 info133 rfl (by decide) _ _ _ rfl (HO.out.1.alloc _) (by rw [alloc_size]; exact Nat.le_succ_of_le HO.out.2) _ _ #[.int .i64 (st p a k), .int .i64 a] _ rfl (box_new _ _) rfl (two_int _ _) hN' (by decide) _ rfl ?_)
            intro g cap w5 hown hgrow hg hlt
            have HO5 := Lib.hid (OwnP.snoc hown hgrow HO.out.2)
            have hS5 := hS.grew HO.out.lt (by omega) (lt2 (by omega) (by omega)) hgrow
            clear k1 k2 k3 k4 k5 k6 hS HO hown hgrow hg
            go_wp2_with fail
            exact ⟨⟨k + 1, _, by omega, by go_num, by have := hN.out; unfold Hid; simp only [List.length_append, List.length_singleton]; omega, by rw [HD.out, foldF_at _ hlk]; rfl, HO5, hS5⟩, (by simp [intOf]; omega)⟩
          · have HE := Lib.hid (foldF_end (fun k D => D ++ [(st p a k, (a : Int))]) (i := k) (n := (l.tr a).legs.length) (by omega) D)
            go_wp2_with fail
            exact ⟨⟨a + 1, D, by omega, by go_num, by have := hN.out; unfold Hid; omega, by rw [HD.out, HE.out]; rfl, HO, hS⟩, (by simp [intOf]; omega)⟩
      · have HE := Lib.hid (foldF_end (pairsR l p) (i := a) (n := l.trains.length) (by omega) D)
        have HDA : Hid (pairsA l p = D) := by unfold Hid; rw [HD.out, HE.out]
        have hD10 : D.length ≤ 10 := by rw [← HDA.out, pairsA_length, legsAll_N]; exact HC.out.ok.nlegs
        have hXr := hS.ext
        rcases HO.out.open_ with ⟨hD, rfl⟩ | ⟨g, cap, cs, rfl, hgB, hgb, hP⟩
        · have hz : Hid (orderA l p = []) := by
            unfold Hid
            rw [pairs_order HC.out HF.out (S := []) (by rw [HDA.out, hD]) List.Pairwise.nil]; rfl
          clear hD k1 k2 k3 k4 k5 k6
          go_wp2_with (go_at_call 117; refine (stable_nil _ _).mono ?_; rintro e w5 ⟨rfl, rfl⟩)
          refine wp_loop_rounds 1 ?_
          rw [rounds_succ]
          go_wp2_with fail
          go_ret
          exact ⟨_, 0, rfl, by omega, by rw [hz.out]; exact World.ownsRow_nil _ _ _ _, hXr⟩
        · have hsort := Lib.hid (stable117_any (cap := cap) hgb hP hD10 (by rw [← HDA.out]; exact pairs_bd HC.out))
          have hwg : w.heap.size ≤ g := by omega
          clear hP hgb k1 k2 k3 k4 k5 k6 hS HO
          go_wp2_with (go_at_call 117; refine hsort.out.mono ?_; rintro e w5 ⟨rfl, hS5⟩)
          obtain ⟨cs', d', hb5, hP5, hPm, hPw, hM⟩ := hS5
          have hX5 : Ext w w5 := (Lp.marked (bs := []) (Lp.of_ext hXr) hM hwg (fun x hx => by cases hx)).ext
          have hdl := hPm.length_eq
          have hord := Lib.hid (pairs_order HC.out HF.out (by rw [HDA.out]; exact hPm) hPw)
          have HP5 := Lib.hid hP5
          have hlt5 := box_lt hb5
          have hSg : Lp w5 w5 [(g, cs', 133)] := (Lp.nil w5).add hb5
          rw [← hdl]
          rw [← hdl] at hD10
          clear hdl hM hPm hPw hP5 hb5
          go_wp2_with fail
          go_loopw [10, 43] (fun out j wr => ∃ (k : Nat), k ≤ d'.length ∧ j = .int .i64 k ∧ Hid (Own1 w5.heap.size wr out (ordS d' k)) ∧ Lp w5 wr [(g, cs', 133)]) (fun _ j _ => d'.length - (intOf j).toNat)
          case atStart => exact ⟨0, Nat.zero_le _, rfl, ⟨World.ownsRow_nil _ _ _ _, by simp⟩, hSg⟩
          case round =>
            clear hSg
            obtain ⟨k, hkk, rfl, HO, hS⟩ := hrel
            obtain ⟨k1, k2, k3, k4⟩ := hS.open1
            by_cases hlk : k < d'.length
            · obtain ⟨s0, s1⟩ := HP5.out.2 k hlk
              have hN : (ordS d' k).length ≤ 1000000 := by rw [ordS_len hkk]; omega
              obtain ⟨⟨x, y⟩, hxy⟩ : ∃ z : Int × Int, Hid (d'.getD k (0, 0) = z) := ⟨_, rfl⟩
              rw [hxy.out] at s0 s1
              have q0 := (k3 (k * 2)).trans s0
              have q1 := (k3 (k * 2 + 1)).trans s1
              clear k1 k3 s0 s1
              go_wp2_with (at_builtin; refine app_any rfl _ _ 23 rfl w5.heap.size 3 1 8 _ Try.underlying23 info3 rfl (by decide) _ _ _ rfl ((HO.out.1.alloc _).alloc _) (by rw [alloc_size, alloc_size]; exact Nat.le_succ_of_le (Nat.le_succ_of_le HO.out.2)) _ _ #[.int .i64 y] _ rfl (heap_alloc2_new _ _ _) rfl (one_int _) hN (by decide) _ rfl ?_)
              intro g' cap' w6 hown hgrow hg hlt
              have hle6 : w5.heap.size ≤ (wr.alloc (.cells #[.int .i64 x, .int .i64 y] 133)).heap.size := by rw [alloc_size]; exact Nat.le_succ_of_le HO.out.2
              have hO6 := Own1.snoc hown hgrow hle6
              have hS6 := (hS.alloc (.cells #[.int .i64 x, .int .i64 y] 133)).grew (fun g hg => by have := HO.out.lt g hg; rw [alloc_size]; omega) (Nat.le_refl _) (lt1 hlt5) hgrow
              have HO6 : Hid (Own1 w5.heap.size w6 (.slice (some ⟨g', 0, none⟩) ((ordS d' k).length + 1) cap') (ordS d' (k + 1))) := by rw [ordS_succ hlk, hxy.out]; exact hO6
              clear hown hgrow hO6 hS HO hg k2 k4
              go_wp2_with fail
              exact ⟨⟨k + 1, by omega, by go_num, HO6, hS6⟩, (by simp [intOf]; omega)⟩
            · have hfin : Hid (ordS d' k = orderA l p) := by unfold Hid; rw [hord.out]; unfold ordS; rw [show k = d'.length by omega, List.take_length]
              have hN5 : (ordS d' k).length ≤ 5000 := by rw [ordS_len hkk]; omega
              have hXf := hX5.trans hS.ext
              have hXs := hX5.size
              clear k1 k2 k3 k4 hS
              go_wp2_with fail
              go_ret
              exact ⟨_, (ordS d' k).length, rfl, hN5, by rw [← hfin.out]; exact ownsRow_mono HO.out.1 hXs, hXf⟩
end Go.Proofs.Ythhkbfjolmgloaa
