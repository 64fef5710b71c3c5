/- impl.times answers a plain list. Condition: the plan can be.
   impl.Meets answers a plain list. Condition: line and plan hold at most 2^20 values.
   Who meets whom: the first one's number is less, nobody comes behind where they part; a train alone meets nobody. Plain data alone. -/
import Derived.Test.YthhkbfjolmgloaaMHMeets
import Derived.Deep.RegionHeld3
import Derived.Test.YthhkbfjolmgloaaM7L0a
namespace Go.Proofs.Ythhkbfjolmgloaa
open Go.RowKit
set_option linter.unusedVariables false
set_option linter.unusedSimpArgs false
theorem info129 : (Try.prog.info? 129).map (fun i => (i.zero, i.size, i.bytes)) = some (some (.agg #[.int .i64 0, .int .i64 0, .int .i64 0]), 3, 24) := by kernel_rfl
theorem step_append_own {P : Program} {ops : Array Oper} {o : Oper} {a : Act} {w : World} {K : Act → World → Prop} {Q : Exit → Act → World → Prop} {E : Prop} (hgd : o.guard = none) (s x : Operand) (t : TypeId)
    (ho : o.op = .call { callee := .builtin .append, args := #[s, x], argTypes := #[t, t] })
    (base : Nat) (e : TypeId) (i : TypeInfo) (z : Value) (size bytes : Nat) (ht : P.underlying t = some (.slice e)) (hi : P.info? e = some i) (hz : i.zero = some z)
    (hsize : i.size = size) (hby : i.bytes = bytes) (hzs : z.cells.size = size) (hsz : 0 < size)
    (v : Value) (n : Nat) (xs : List Value) (hs : a.eval s = v) (hown : w.ownsRow base e size v n xs)
    (ad : Addr) (m c : Nat) (news : List Value) (hx : a.eval x = .slice (some ad) m c) (hl : news.length = m * size) (hnews : ∀ j u, news[j]? = some u → w.cell? (ad.add j) = some u) (h1 : ∀ u ∈ news, u.oneCell' = true)
    (h63 : n + m ≤ maxLen) (hbytes : (n + m) * bytes ≤ 140737488355328) (hbase : base ≤ w.heap.size)
    (h : ∀ v' w', w'.ownsRow base e size v' (n + m) (xs ++ news) → w.grownBy w' v.ownBlock → K (a.put o.dst v') w') :
    if Region.wanted o (yielded ops a.tmps) = true then Oper.wp P o a w K Q else E := by
  rw [if_pos (by simp [Region.wanted, hgd])]
  exact wp_append_own w s x t ho base e i z size bytes ht hi hz hsize hby hzs hsz v n xs hs hown ad m c news hx hl hnews h1 h63 hbytes hbase fun v' w' q1 q2 _ => h v' w' q1 q2
def Own3 (B : Nat) (w : World) (v : Value) (N : Nat) (D : List Int) : Prop := w.ownsRow B 129 3 v N (nums D) ∧ B ≤ w.heap.size
theorem Own3.ext {B : Nat} {w w' : World} {v : Value} {N : Nat} {D : List Int} (h : Own3 B w v N D) (e : Ext w w') : Own3 B w' v N D := ⟨ownsRow_ext h.1 e, Nat.le_trans h.2 e.size⟩
theorem three_cells {w : World} {a b c : Value} {t : TypeId} : ∀ j u, [a, b, c][j]? = some u → (w.alloc (.cells #[a, b, c] t)).cell? ((⟨w.heap.size, 0, none⟩ : Addr).add j) = some u := by
  intro j u hj
  have h := box_cell (box_new w (.cells #[a, b, c] t)) j
  have e : (⟨w.heap.size, 0, none⟩ : Addr).add j = ⟨w.heap.size, j, none⟩ := by
    simp only [Addr.add, Nat.zero_add]
    by_cases hz : j = 0
    · subst hz; simp
    · simp [hz]
  rw [e, h]
  simpa using hj
theorem ints3 {a b c : Int} : ∀ u ∈ [Value.int .i64 a, .int .i64 b, .int .i64 c], u.oneCell' = true := by
  intro u hu
  simp at hu
  rcases hu with rfl | rfl | rfl <;> rfl
theorem openA4 {w wr : World} {bs : List (Nat × Array Value × TypeId)} {b1 b2 b3 b4 : Nat} {cs1 cs2 cs3 cs4 : Array Value} {t1 t2 t3 t4 : TypeId} (h : Lp w wr ((b1, cs1, t1) :: (b2, cs2, t2) :: (b3, cs3, t3) :: (b4, cs4, t4) :: bs)) : Lp w wr ((b1, cs1, t1) :: (b2, cs2, t2) :: (b3, cs3, t3) :: (b4, cs4, t4) :: bs) ∧ (∀ g o, g < w.heap.size → wr.cell? ⟨g, o, none⟩ = w.cell? ⟨g, o, none⟩) ∧ (∀ g, g < w.heap.size → g < wr.heap.size) ∧ (∀ j, wr.cell? ⟨b1, j, none⟩ = cs1[j]?) ∧ b1 < wr.heap.size ∧ (∀ j, wr.cell? ⟨b2, j, none⟩ = cs2[j]?) ∧ b2 < wr.heap.size ∧ (∀ j, wr.cell? ⟨b3, j, none⟩ = cs3[j]?) ∧ b3 < wr.heap.size ∧ (∀ j, wr.cell? ⟨b4, j, none⟩ = cs4[j]?) ∧ b4 < wr.heap.size := ⟨h, h.open4⟩
theorem Own3.le {B : Nat} {w : World} {v : Value} {N : Nat} {D : List Int} (h : Own3 B w v N D) : B ≤ w.heap.size := h.2
theorem Own3.row {B : Nat} {w : World} {v : Value} {N : Nat} {D : List Int} (h : Own3 B w v N D) : w.ownsRow B 129 3 v N (nums D) := h.1
theorem Own3.lt {B : Nat} {w : World} {v : Value} {N : Nat} {D : List Int} (h : Own3 B w v N D) : ∀ g, v.ownBlock = some g → g < w.heap.size ∧ B ≤ g := fun g hg => ⟨(h.1.lt g hg).2, (h.1.lt g hg).1⟩
def timeStep (l : Line) (p : List (List Int)) (i k : Nat) (acc : List Int) : List Int := acc ++ [whereT l i k, fromT l p i k, tillT l p i k]
def timesD (l : Line) (p : List (List Int)) (i : Nat) : List Int := foldF (timeStep l p i) 0 ((l.tr i).legs.length + 1) []
/-- A row of threes stays beside boxes when it grows. -/
theorem Lp.append3 {w wr w2 : World} {bs : List (Nat × Array Value × TypeId)} {B N : Nat} {o : Obj} {out : Value} {D : List Int} (h : Lp w wr bs) (hO : Own3 B wr out N D) (hB : w.heap.size ≤ B) (hb : ∀ g, out.ownBlock = some g → ∀ x, x ∈ bs → x.1 ≠ g) (hg : (wr.alloc o).grownBy w2 out.ownBlock) : Lp w w2 bs :=
  (h.alloc o).grown hg fun k hk => ⟨Nat.le_trans hB (hO.1.lt k hk).1, fun x hx => hb k hk x hx⟩
theorem times_len {n k : Nat} (hn : n ≤ 10) (hk : k < n) : k + 1 ≤ maxLen := by unfold maxLen; omega
theorem times_bytes {n k : Nat} (hn : n ≤ 10) (hk : k < n) : (k + 1) * 24 ≤ 140737488355328 := by omega
theorem le_alloc {B : Nat} {w : World} {o : Obj} (h : B ≤ w.heap.size) : B ≤ (w.alloc o).heap.size := by rw [alloc_size]; omega
theorem own3_mk {B : Nat} {w w2 : World} {o : Obj} {row : Option Nat} {v : Value} {k : Nat} {D E : List Int} (h : w2.ownsRow B 129 3 v (k + 1) (nums D ++ nums E)) (hg : (w.alloc o).grownBy w2 row) (hB : B ≤ w.heap.size) : Own3 B w2 v (k + 1) (D ++ E) := ⟨by rw [nums_append]; exact h, by have q := hg.size; rw [alloc_size] at q; omega⟩
theorem legs_far {B n b1 b2 b3 : Nat} {c0 c1 c2 c3 : Array Value} {t0 t1 t2 t3 : TypeId} {row : Option Nat} (h : ∀ g, row = some g → g < n ∧ B ≤ g) (h1 : b1 < B) (h2 : b2 < B) (h3 : b3 < B) : ∀ g, row = some g → ∀ x, x ∈ [(n, c0, t0), (b1, c1, t1), (b2, c2, t2), (b3, c3, t3)] → x.1 ≠ g := by
  intro g hg x hx
  obtain ⟨q1, q2⟩ := h g hg
  simp only [List.mem_cons, List.not_mem_nil, or_false] at hx
  rcases hx with rfl | rfl | rfl | rfl
  · simp only; omega
  · simp only; omega
  · simp only; omega
  · simp only; omega
theorem le11_len {k : Nat} (h : k + 1 ≤ 11) : k + 1 ≤ maxLen := by unfold maxLen; omega
theorem le11_bytes {k : Nat} (h : k + 1 ≤ 11) : (k + 1) * 24 ≤ 140737488355328 := by omega
theorem three_far {B n b1 b2 b3 : Nat} {c1 c2 c3 : Array Value} {t1 t2 t3 : TypeId} {row : Option Nat} (h : ∀ g, row = some g → g < n ∧ B ≤ g) (h1 : b1 < B) (h2 : b2 < B) (h3 : b3 < B) : ∀ g, row = some g → ∀ x, x ∈ [(b1, c1, t1), (b2, c2, t2), (b3, c3, t3)] → x.1 ≠ g := by
  intro g hg x hx
  obtain ⟨q1, q2⟩ := h g hg
  simp only [List.mem_cons, List.not_mem_nil, or_false] at hx
  rcases hx with rfl | rfl | rfl
  · simp only; omega
  · simp only; omega
  · simp only; omega
set_option maxRecDepth 100000 in
set_option maxHeartbeats 8000000 in
theorem times_any {w : World} {l : Line} {p : List (List Int)} {u v : Value} (hl : IsLine w l u) (hp : IsPlan w p v) (C : Can l p) {i : Nat} (hi : i < l.trains.length) :
    Calls Try.prog 113 #[u, v, .int .i64 i] w fun e w' => ∃ r, e = .returned r ∧ w'.ownsRow w.heap.size 129 3 r ((l.tr i).legs.length + 1) (nums (timesD l p i)) ∧ Ext w w' := by
  obtain ⟨A0, c0, A2, c2, rfl, h0, h2⟩ := hl
  obtain ⟨A3, c3, rfl, h3⟩ := hp
  obtain ⟨b0, o0, b2, o2, bl, ol, cl, SL⟩ := seeL C.ok h0 h2
  obtain ⟨b3, o3, br, or', cr, SP⟩ := seeP C.ok C.fits h3
  clear h0 h2 h3
  have B := C.ok.bd
  have HC := Lib.hid C
  have HS := Lib.hid SL
  have HQ := Lib.hid SP
  have HB := Lib.hid B
  have HT := Lib.hid (SL.isTrain hi)
  obtain ⟨rfl, hb2⟩ := SL.base2 (by omega)
  obtain ⟨rfl, hb3⟩ := SP.base (by omega)
  obtain ⟨e0, e1, e2, e3, e4, hbl⟩ := SL.train i hi
  obtain ⟨r0, hbr⟩ := SP.row i hi
  have n10 := B.nl1 i hi
  have n5 := B.n5
  have t0 := B.tr i hi
  rw [C.fits.rows]
  clear SL SP B C
  obtain ⟨i0, hi0, hzz⟩ := Option.map_eq_some_iff.1 info129
  simp only [Prod.mk.injEq] at hzz
  obtain ⟨hz0', hz1', hz2'⟩ := hzz
  have hin := Lib.hid hi0
  have hz0 := Lib.hid hz0'
  have hz1 := Lib.hid hz1'
  have hz2 := Lib.hid hz2'
  clear hi0 hz0' hz1' hz2'
  go_enter Try.func113, Try.ntmps113
  go_wp2_with fail
  go_loopw [8, 9, 22] (fun out f j wr => ∃ (k : Nat) (D : List Int), k ≤ (l.tr i).legs.length ∧ j = .int .i64 k ∧ f = .int .i64 (fromT l p i k) ∧ Hid (timesD l p i = foldF (timeStep l p i) k ((l.tr i).legs.length + 1) D) ∧ Hid (Own3 (w.heap.size + 1 + 1 + 1) wr out k D) ∧ Lp w wr [(w.heap.size + 1 + 1, #[.int .i64 (l.tr i).frm, .int .i64 (l.tr i).ready, .int .i64 (l.tr i).due, .int .i64 (l.tr i).weight, .slice (some ⟨bl i, ol i, none⟩) (l.tr i).legs.length (cl i)], 80), (w.heap.size + 1, #[.slice (some ⟨b3, o3, none⟩) l.trains.length c3], 42), (w.heap.size, #[.slice A0 l.tracks.length c0, .int .i64 l.gap, .slice (some ⟨b2, o2, none⟩) l.trains.length c2], 33)]) (fun _ _ j _ => (l.tr i).legs.length - (intOf j).toNat)
  case atStart => exact ⟨0, [], Nat.zero_le _, rfl, rfl, rfl, ⟨World.ownsRow_nil _ _ _ _, by simp⟩, (Lp.start2 w _ _ _ _).newAt _ _ (by simp)⟩
  case round =>
    obtain ⟨k, D, hkk, rfl, rfl, HD, HO, hS⟩ := hrel
    obtain ⟨k1, k2, k3, k4, k5, k6, k7, k8⟩ := hS.open3
    by_cases hlt : k < (l.tr i).legs.length
    · obtain ⟨f0, f1, f2⟩ := HS.out.leg i k hi hlt
      have s0 := HQ.out.st i k hi hlt
      obtain ⟨_, _, y1, y2, _, _⟩ := HB.out.leg i k hi hlt
      obtain ⟨z3, z4⟩ := HC.out.fits.bd hi hlt
      have hne : Hid (¬ k = (l.tr i).legs.length) := by unfold Hid; omega
      go_upto_region 7 with fail
      have hS1 := hS.newAt #[.int .i64 (l.leg i k).to, .int .i64 (l.leg i k).run, .int .i64 (l.leg i k).stay] 84 rfl
      have hob := Lib.hid (HO.out.lt)
      have hwr := HO.out.2
      clear k1 k2 k3 k4 k5 k6 k7 k8
      have hwh : Hid (whereT l i k = (l.tr i).at_ k) := by unfold Hid whereT; rw [if_neg hne.out]
      have hti : Hid (tillT l p i k = st p i k) := by unfold Hid tillT; rw [if_neg hne.out]
      have HT96 : Hid (∀ W, Ext w W → Calls Try.prog 96 #[.agg #[.int .i64 (l.tr i).frm, .int .i64 (l.tr i).ready, .int .i64 (l.tr i).due, .int .i64 (l.tr i).weight, .slice (some ⟨bl i, ol i, none⟩) (l.tr i).legs.length (cl i)], .int .i64 k] W fun e w' => e = .returned (.int .i64 (whereT l i k)) ∧ Ext W w') := fun W e => by rw [hwh.out]; exact from_any (HT.out.ext e) n10.2 hlt
      rw [← hti.out] at s0
      go_cut [8] (fun s wx => Hid (Own3 (w.heap.size + 1 + 1 + 1) wx s (k + 1) (D ++ [whereT l i k, fromT l p i k, tillT l p i k])) ∧ Lp w wx [(wr.heap.size, #[.int .i64 (l.leg i k).to, .int .i64 (l.leg i k).run, .int .i64 (l.leg i k).stay], 84), (w.heap.size + 1 + 1, #[.int .i64 (l.tr i).frm, .int .i64 (l.tr i).ready, .int .i64 (l.tr i).due, .int .i64 (l.tr i).weight, .slice (some ⟨bl i, ol i, none⟩) (l.tr i).legs.length (cl i)], 80), (w.heap.size + 1, #[.slice (some ⟨b3, o3, none⟩) l.trains.length c3], 42), (w.heap.size, #[.slice A0 l.tracks.length c0, .int .i64 l.gap, .slice (some ⟨b2, o2, none⟩) l.trains.length c2], 33)])
      case first =>
        first
        | go_region_held3 (fun W => Lp w W [(wr.heap.size, #[.int .i64 (l.leg i k).to, .int .i64 (l.leg i k).run, .int .i64 (l.leg i k).stay], 84), (w.heap.size + 1 + 1, #[.int .i64 (l.tr i).frm, .int .i64 (l.tr i).ready, .int .i64 (l.tr i).due, .int .i64 (l.tr i).weight, .slice (some ⟨bl i, ol i, none⟩) (l.tr i).legs.length (cl i)], 80), (w.heap.size + 1, #[.slice (some ⟨b3, o3, none⟩) l.trains.length c3], 42), (w.heap.size, #[.slice A0 l.tracks.length c0, .int .i64 l.gap, .slice (some ⟨b2, o2, none⟩) l.trains.length c2], 33)] ∧ (∀ g o, g < w.heap.size → W.cell? ⟨g, o, none⟩ = w.cell? ⟨g, o, none⟩) ∧ (∀ g, g < w.heap.size → g < W.heap.size) ∧ (∀ j, W.cell? ⟨wr.heap.size, j, none⟩ = (#[.int .i64 (l.leg i k).to, .int .i64 (l.leg i k).run, .int .i64 (l.leg i k).stay] : Array Value)[j]?) ∧ wr.heap.size < W.heap.size ∧ (∀ j, W.cell? ⟨w.heap.size + 1 + 1, j, none⟩ = (#[.int .i64 (l.tr i).frm, .int .i64 (l.tr i).ready, .int .i64 (l.tr i).due, .int .i64 (l.tr i).weight, .slice (some ⟨bl i, ol i, none⟩) (l.tr i).legs.length (cl i)] : Array Value)[j]?) ∧ w.heap.size + 1 + 1 < W.heap.size ∧ (∀ j, W.cell? ⟨w.heap.size + 1, j, none⟩ = (#[.slice (some ⟨b3, o3, none⟩) l.trains.length c3] : Array Value)[j]?) ∧ w.heap.size + 1 < W.heap.size ∧ (∀ j, W.cell? ⟨w.heap.size, j, none⟩ = (#[.slice A0 l.tracks.length c0, .int .i64 l.gap, .slice (some ⟨b2, o2, none⟩) l.trains.length c2] : Array Value)[j]?) ∧ w.heap.size < W.heap.size) (first | assumption | exact openA4 hS1.drew | exact openA4 (Lp.alloc (And.left (by assumption)) _) | exact openA4 hS6 | exact openA4 (Lp.trans (And.left (by assumption)) (by assumption))) (first  | (go_at_call 96; have hX := Lp.ext (And.left (by assumption : Lp w _ _ ∧ _)); with_reducible refine (HT96.out _ hX).mono ?_; rintro e w5 ⟨rfl, hE5⟩; have hO5 := Lib.hid (HO.out.ext (Ext.trans (by repeat (first | (with_reducible assumption) | (with_reducible exact Ext.refl _) | apply Ext.alloc | apply Ext.drewN | apply Ext.drew)) hE5)); have hS5 := Lib.hid (Lp.trans hS1 (Ext.trans (by repeat (first | (with_reducible assumption) | (with_reducible exact Ext.refl _) | apply Ext.alloc | apply Ext.drewN | apply Ext.drew)) hE5)); have hg5 := hO5.out.le)  | (refine step_append_own rfl (.tmp 27) (.tmp 41) 126 rfl (w.heap.size + 1 + 1 + 1) 129 i0 (.agg #[.int .i64 0, .int .i64 0, .int .i64 0]) 3 24 Try.underlying126 hin.out hz0.out hz1.out hz2.out rfl (by decide) _ _ _ rfl (hO5.out.row.alloc _) ⟨w5.heap.size, 0, none⟩ 1 1 [.int .i64 (whereT l i k), .int .i64 (fromT l p i k), .int .i64 (tillT l p i k)] rfl rfl three_cells ints3 (times_len n10.2 hlt) (times_bytes n10.2 hlt) (le_alloc hg5) ?_; intro v' w6 hown' hgrow; have hS6 := hS5.out.append3 hO5.out (by omega) (legs_far hob.out (by omega) (by omega) (by omega)) hgrow; have HO6 := Lib.hid (own3_mk (E := [whereT l i k, fromT l p i k, tillT l p i k]) hown' hgrow hg5)))
        | fail
        all_goals
          go_wp2_with fail
          go_meet
          exact ⟨HO6, And.left (by assumption)⟩
      case rest =>
        obtain ⟨HO7, hS7⟩ := hcut
        obtain ⟨k1, k2, k3, k4, k5, k6, k7, k8, k9, k10⟩ := hS7.open4
        rw [← hti.out] at z3 z4
        have hf : Hid (tillT l p i k + (l.leg i k).run = fromT l p i (k + 1)) := by rw [Hid, hti.out]; simp [fromT]
        have hS8 := Lib.hid hS7.tail
        clear hS7 hS1 hS
        go_wp2_with fail
        go_quiet (fail)
        go_wp2_with fail
        exact ⟨⟨k + 1, _, by omega, by go_num, by rw [hf.out], by rw [HD.out, foldF_at _ (by omega : k < (l.tr i).legs.length + 1)]; rfl, HO7.out.ext (by repeat (first | with_reducible exact Ext.refl _ | apply Ext.drewN | apply Ext.drew)), by repeat (first | with_reducible exact hS8.out | apply Lp.drewN | apply Lp.drew)⟩, (by simp [intOf]; omega)⟩
    · have hkl : Hid (k = (l.tr i).legs.length) := by unfold Hid; omega
      have hx : (l.tr i).legs.length - 1 < (l.tr i).legs.length := by omega
      obtain ⟨f0, f1, f2⟩ := HS.out.leg i ((l.tr i).legs.length - 1) hi hx
      have hidx : ((l.tr i).legs.length : Int) - 1 = (((l.tr i).legs.length - 1 : Nat) : Int) := by omega
      have hwh : Hid (whereT l i k = (l.leg i ((l.tr i).legs.length - 1)).to) := by unfold Hid whereT; rw [if_pos hkl.out, hkl.out]
      have hti : Hid (tillT l p i k = fromT l p i k) := by unfold Hid tillT; rw [if_pos hkl.out]
      have hD : Hid (timesD l p i = D ++ [whereT l i k, fromT l p i k, tillT l p i k]) := by rw [Hid, HD.out, hkl.out, foldF_at _ (by omega : (l.tr i).legs.length < (l.tr i).legs.length + 1), foldF_end _ (Nat.le_refl _)]; rfl
      have hwr := HO.out.2
      have hkn : Hid (k + 1 ≤ 11) := by unfold Hid; omega
      go_wp2_with (at_builtin; refine wpList_append_own _ rfl _ _ 126 rfl (w.heap.size + 1 + 1 + 1) 129 i0 (.agg #[.int .i64 0, .int .i64 0, .int .i64 0]) 3 24 Try.underlying126 hin.out hz0.out hz1.out hz2.out rfl (by decide) _ _ _ rfl (HO.out.1.alloc _) ⟨wr.heap.size, 0, none⟩ 1 1 [.int .i64 (l.leg i ((l.tr i).legs.length - 1)).to, .int .i64 (fromT l p i k), .int .i64 (fromT l p i k)] rfl rfl three_cells ints3 (le11_len hkn.out) (le11_bytes hkn.out) (le_alloc hwr) ?_)
      intro v' w6 hown' hgrow _
      have hS6 := hS.append3 HO.out (by omega) (three_far HO.out.lt (by omega) (by omega) (by omega)) hgrow
      have hR : Hid (w6.ownsRow w.heap.size 129 3 v' ((l.tr i).legs.length + 1) (nums (timesD l p i))) := by
        have e : (l.tr i).legs.length + 1 = k + 1 := by have := hkl.out; omega
        rw [Hid, hD.out, nums_append, hwh.out, hti.out, e]
        exact ownsRow_mono (base := w.heap.size + 1 + 1 + 1) hown' (by omega)
      have hX := hS6.ext
      clear hown' hgrow k1 k2 k3 k4 k5 k6 k7 k8 hS hS6
      go_wp2_with fail
      go_ret
      exact ⟨_, rfl, hR.out, hX⟩
end Go.Proofs.Ythhkbfjolmgloaa
namespace Go.Proofs.Ythhkbfjolmgloaa
open Go.RowKit
set_option linter.unusedVariables false
set_option linter.unusedSimpArgs false
theorem foldF_last {α : Type} (f : Nat → α → α) {i n : Nat} (h : i ≤ n) (a : α) : foldF f i (n + 1) a = f n (foldF f i n a) := by
  generalize hd : n - i = d
  induction d generalizing i a with
  | zero =>
    obtain rfl : i = n := by omega
    rw [foldF_at _ (by omega), foldF_end _ (Nat.le_refl _), foldF_end _ (Nat.le_refl _)]
  | succ d ih => rw [foldF_at f (by omega : i < n + 1), foldF_at f (by omega : i < n), ih (by omega) _ (by omega)]
theorem timesD_get (l : Line) (p : List (List Int)) (i : Nat) : ∀ n, (foldF (timeStep l p i) 0 n []).length = n * 3 ∧ ∀ k, k < n → (foldF (timeStep l p i) 0 n [])[k * 3]? = some (whereT l i k) ∧ (foldF (timeStep l p i) 0 n [])[k * 3 + 1]? = some (fromT l p i k) ∧ (foldF (timeStep l p i) 0 n [])[k * 3 + 2]? = some (tillT l p i k) := by
  intro n
  induction n with
  | zero => rw [foldF_end _ (Nat.le_refl _)]; exact ⟨rfl, fun k hk => by omega⟩
  | succ n ih =>
    rw [foldF_last _ (Nat.zero_le _)]
    obtain ⟨h1, h2⟩ := ih
    generalize foldF (timeStep l p i) 0 n [] = D at *
    refine ⟨by simp [timeStep, h1]; omega, fun k hk => ?_⟩
    unfold timeStep
    by_cases e : k = n
    · subst e
      rw [List.getElem?_append_right (by omega), List.getElem?_append_right (by omega), List.getElem?_append_right (by omega), show k * 3 - D.length = 0 by omega, show k * 3 + 1 - D.length = 1 by omega, show k * 3 + 2 - D.length = 2 by omega]
      exact ⟨rfl, rfl, rfl⟩
    · rw [List.getElem?_append_left (by omega), List.getElem?_append_left (by omega), List.getElem?_append_left (by omega)]
      exact h2 k (by omega)
/-- A row of times, opened. -/
theorem times_open {w : World} {base n : Nat} {r : Value} {l : Line} {p : List (List Int)} {i : Nat} (h : w.ownsRow base 129 3 r (n + 1) (nums (foldF (timeStep l p i) 0 (n + 1) []))) : ∃ g cap cur, r = .slice (some ⟨g, 0, none⟩) (n + 1) cap ∧ base ≤ g ∧ w.heap[g]? = some (.cells cur 129 (0, 0)) ∧ ∀ k, k < n + 1 → cur[k * 3]? = some (.int .i64 (whereT l i k)) ∧ cur[k * 3 + 1]? = some (.int .i64 (fromT l p i k)) ∧ cur[k * 3 + 2]? = some (.int .i64 (tillT l p i k)) := by
  rcases h.2 with ⟨_, h0⟩ | ⟨g, cap, cur, h1, h2, h3, h4, h5, h6, h7⟩
  · omega
  · refine ⟨g, cap, cur, h1, h2, h3, fun k hk => ?_⟩
    obtain ⟨_, q⟩ := timesD_get l p i (n + 1)
    obtain ⟨q0, q1, q2⟩ := q k hk
    have key : ∀ j x, j < (n + 1) * 3 → (foldF (timeStep l p i) 0 (n + 1) [])[j]? = some x → cur[j]? = some (.int .i64 x) := by
      intro j x hj hx
      have e1 : (cur.toList.take ((n + 1) * 3))[j]? = (nums (foldF (timeStep l p i) 0 (n + 1) []))[j]? := by rw [h7]
      rw [List.getElem?_take_of_lt hj] at e1
      simp only [nums, List.getElem?_map, hx, Option.map_some] at e1
      simpa using e1
    exact ⟨key _ _ (by omega) q0, key _ _ (by omega) q1, key _ _ (by omega) q2⟩
theorem Lp.append5t {w wr w2 : World} {bs : List (Nat × Array Value × TypeId)} {B N : Nat} {o : Obj} {out : Value} {D : List Int} (h : Lp w wr bs) (hO : Own5 B wr out N D) (hB : w.heap.size ≤ B) (ht : ∀ x, x ∈ bs → x.2.2 ≠ 92) (hg : (wr.alloc o).grownBy w2 out.ownBlock) : Lp w w2 bs := by
  refine (h.alloc o).grown hg fun k hk => ⟨Nat.le_trans hB (hO.1.lt k hk).1, fun x hx e => ?_⟩
  rcases hO.1.2 with ⟨rfl, _⟩ | ⟨g, cap, cur, rfl, h2, h3, _⟩
  · cases hk
  · simp only [Value.ownBlock, Option.some.injEq] at hk
    subst hk
    have q := h.box x hx
    rw [e, h3] at q
    simp only [Option.some.injEq, Obj.cells.injEq] at q
    exact ht x hx q.2.1.symm
theorem types6 {b1 b2 b3 b4 b5 b6 : Nat} {c1 c2 c3 c4 c5 c6 : Array Value} : ∀ x, x ∈ [(b1, c1, (129 : TypeId)), (b2, c2, 129), (b3, c3, 129), (b4, c4, 129), (b5, c5, 42), (b6, c6, 33)] → x.2.2 ≠ 92 := by
  intro x hx
  simp only [List.mem_cons, List.not_mem_nil, or_false] at hx
  rcases hx with rfl | rfl | rfl | rfl | rfl | rfl <;> simp
set_option maxRecDepth 100000 in
set_option maxHeartbeats 8000000 in
theorem impl_Meets_any {w : World} {l : Line} {p : List (List Int)} {u v : Value} (hl : IsLine w l u) (hp : IsPlan w p v) (hs : l.size ≤ 1048576) (hpn : p.length ≤ 1048576) (hpl : ∀ (i : Nat) (t : List Int), p[i]? = some t → t.length ≤ 1048576) :
    Calls Try.prog 47 #[u, v] w fun e w' => ∃ r N, e = .returned r ∧ N ≤ 5000 ∧ w'.ownsRow w.heap.size 92 5 r N (nums (meetsA l p)) ∧ Ext w w' := by
  have HL := Lib.hid (fun (W : World) (e : Ext w W) => hl.ext e)
  have HP := Lib.hid (fun (W : World) (e : Ext w W) => hp.ext e)
  obtain ⟨A0, c0, A2, c2, rfl, h0, h2⟩ := hl
  obtain ⟨A3, c3, rfl, h3⟩ := hp
  cases h : canB l p with
  | false =>
    have hA : Hid (meetsA l p = []) := by simp [Hid, meetsA, h]
    clear h0 h2 h3
    go_enter Try.func47, Try.ntmps47
    go_wp2_with fail
    refine (can_any (HL.out _ (by repeat (first | (with_reducible assumption) | (with_reducible exact Ext.refl _) | apply Ext.alloc | apply Ext.drewN | apply Ext.drew))) (HP.out _ (by repeat (first | (with_reducible assumption) | (with_reducible exact Ext.refl _) | apply Ext.alloc | apply Ext.drewN | apply Ext.drew))) hs hpn hpl).mono ?_
    rintro e w1 ⟨rfl, hE⟩
    rw [h]
    have hS := (Lp.start2 w _ _ _ _).trans hE; clear hE
    obtain ⟨k1, k2, k3, k4, k5, k6⟩ := hS.open2
    go_wp2_with fail
    go_ret
    exact ⟨_, 0, rfl, by omega, by rw [hA.out]; exact World.ownsRow_nil _ _ _ _, hS.ext⟩
  | true =>
    have hA : Hid (meetsA l p = meetsD l p) := by simp [Hid, meetsA, h]
    have HC := Lib.hid (canB_can h)
    obtain ⟨b0, o0, b2, o2, bl, ol, cl, SL⟩ := seeL HC.out.ok h0 h2
    clear h0 h2 h3
    have HS := Lib.hid SL
    have HB := Lib.hid HC.out.ok.bd
    have n5 := HB.out.n5
    rw [HC.out.fits.rows] at HP ⊢
    clear SL
    obtain ⟨i0, hi0, hzz⟩ := Option.map_eq_some_iff.1 info92
    simp only [Prod.mk.injEq] at hzz
    obtain ⟨hz0', hz1', hz2'⟩ := hzz
    have hin := Lib.hid hi0
    have hz0 := Lib.hid hz0'
    have hz1 := Lib.hid hz1'
    have hz2 := Lib.hid hz2'
    clear hi0 hz0' hz1' hz2'
    go_enter Try.func47, Try.ntmps47
    go_wp2_with fail
    refine (can_any (HL.out _ (by repeat (first | (with_reducible assumption) | (with_reducible exact Ext.refl _) | apply Ext.alloc | apply Ext.drewN | apply Ext.drew))) (HP.out _ (by repeat (first | (with_reducible assumption) | (with_reducible exact Ext.refl _) | apply Ext.alloc | apply Ext.drewN | apply Ext.drew))) hs hpn hpl).mono ?_
    rintro e w1 ⟨rfl, hE⟩
    rw [h]
    clear h
    have hS := (Lp.start2 w _ _ _ _).trans hE; clear hE
    obtain ⟨k1, k2, k3, k4, k5, k6⟩ := hS.open2
    have hw1 : w.heap.size + 1 < w1.heap.size := k4
    go_wp2_with fail
    go_loopw [5, 21] (fun out j wr => ∃ (a N : Nat) (D : List Int), a ≤ l.trains.length ∧ j = .int .i64 a ∧ N ≤ 1000 * a ∧ Hid (meetsD l p = foldF (meetB l p) a l.trains.length D) ∧ Hid (Own5 w1.heap.size wr out N D) ∧ Lp w wr [(w.heap.size + 1, #[.slice A3 l.trains.length c3], 42), (w.heap.size, #[.slice A0 l.tracks.length c0, .int .i64 l.gap, .slice A2 l.trains.length c2], 33)]) (fun _ j _ => l.trains.length - (intOf j).toNat)
    case atStart => exact ⟨0, 0, [], Nat.zero_le _, rfl, by omega, rfl, ⟨World.ownsRow_nil _ _ _ _, Nat.le_refl _⟩, hS⟩
    case round =>
      clear hS k1 k2 k3 k4 k5 k6
      obtain ⟨a, N, D, haa, rfl, hN, HD, HO, hS⟩ := hrel
      obtain ⟨k1, k2, k3, k4, k5, k6⟩ := hS.open2
      by_cases hla : a < l.trains.length
      · obtain ⟨rfl, hb2⟩ := HS.out.base2 (by omega)
        obtain ⟨a10, a11⟩ := HB.out.nl1 a hla
        go_wp2_with fail
        clear k1 k2 k3 k4 k5 k6
        go_loopw [5, 7] (fun out j wr => ∃ (b N : Nat) (D : List Int), b ≤ l.trains.length ∧ a + 1 ≤ b ∧ j = .int .i64 b ∧ N ≤ 1000 * a + 150 * b ∧ Hid (meetsD l p = foldF (meetB l p) (a + 1) l.trains.length (foldF (meetK l p a) b l.trains.length D)) ∧ Hid (Own5 w1.heap.size wr out N D) ∧ Lp w wr [(w.heap.size + 1, #[.slice A3 l.trains.length c3], 42), (w.heap.size, #[.slice A0 l.tracks.length c0, .int .i64 l.gap, .slice (some ⟨b2, o2, none⟩) l.trains.length c2], 33)]) (fun _ j _ => l.trains.length - (intOf j).toNat)
        case atStart => exact ⟨a + 1, N, D, by omega, Nat.le_refl _, by go_num, by omega, by rw [HD.out, foldF_at _ hla]; rfl, HO, hS⟩
        case round =>
          clear hS HD HO hN
          obtain ⟨b, N, D, hbb, hab, rfl, hN, HD, HO, hS⟩ := hrel
          obtain ⟨k1, k2, k3, k4, k5, k6⟩ := hS.open2
          by_cases hlb : b < l.trains.length
          · obtain ⟨b10, b11⟩ := HB.out.nl1 b hlb
            have hX0 := hS.ext
            go_wp2_with fail
            refine (times_any (HL.out _ (by repeat (first | (with_reducible exact hS.ext) | (with_reducible assumption) | (with_reducible exact Ext.refl _) | with_reducible apply Ext.alloc | with_reducible apply Ext.drewN | with_reducible apply Ext.drew | with_reducible refine Ext.setCell ?_ (by simp only []; omega) _))) (HP.out _ (by repeat (first | (with_reducible exact hS.ext) | (with_reducible assumption) | (with_reducible exact Ext.refl _) | with_reducible apply Ext.alloc | with_reducible apply Ext.drewN | with_reducible apply Ext.drew | with_reducible refine Ext.setCell ?_ (by simp only []; omega) _))) HC.out hla).mono ?_
            rintro e w3 ⟨r1, rfl, hr1, hE3⟩
            obtain ⟨g1, cap1, cur1, rfl, hg1, hb1, hc1⟩ := times_open hr1
            have HC1 := Lib.hid hc1
            have hT : Lp w w3 [(g1, cur1, 129), (w.heap.size + 1, #[.slice A3 l.trains.length c3], 42), (w.heap.size, #[.slice A0 l.tracks.length c0, .int .i64 l.gap, .slice (some ⟨b2, o2, none⟩) l.trains.length c2], 33)] := (hS.trans hE3).add hb1
            have HO3 := Lib.hid (HO.out.ext hE3)
            clear k1 k2 k3 k4 k5 k6 hS HO hE3 hX0 hr1 hb1 hc1
            have hS := hT; clear hT
            obtain ⟨k1, k2, k3, k4, k5, k6, k7, k8⟩ := hS.open3
            go_wp2_with fail
            clear k1 k2 k3 k4 k5 k6 k7 k8
            go_loopw [5, 38] (fun out j wr => ∃ (k N : Nat) (D : List Int), k ≤ (l.tr a).legs.length + 1 ∧ j = .int .i64 k ∧ N ≤ 1000 * a + 150 * b + 12 * k ∧ Hid (meetsD l p = foldF (meetB l p) (a + 1) l.trains.length (foldF (meetK l p a) (b + 1) l.trains.length (foldF (meetM l p a b) k ((l.tr a).legs.length + 1) D))) ∧ Hid (Own5 w1.heap.size wr out N D) ∧ Lp w wr [(g1, cur1, 129), (w.heap.size + 1, #[.slice A3 l.trains.length c3], 42), (w.heap.size, #[.slice A0 l.tracks.length c0, .int .i64 l.gap, .slice (some ⟨b2, o2, none⟩) l.trains.length c2], 33)]) (fun _ j _ => (l.tr a).legs.length + 1 - (intOf j).toNat)
            case atStart => exact ⟨0, N, D, Nat.zero_le _, rfl, by omega, by rw [HD.out, foldF_at _ hlb]; rfl, HO3, hS⟩
            case round =>
              clear hS HD HO3 hN
              obtain ⟨k, N, D, hkk, rfl, hN, HD, HO, hS⟩ := hrel
              obtain ⟨k1, k2, k3, k4, k5, k6, k7, k8⟩ := hS.open3
              by_cases hlk : k < (l.tr a).legs.length + 1
              · obtain ⟨x0, x1, x2⟩ := HC1.out k hlk
                go_wp2_with fail
                have hS1 := hS.newAt #[.int .i64 (whereT l a k), .int .i64 (fromT l p a k), .int .i64 (tillT l p a k)] 129 rfl
                have hX1 := hS1.ext
                refine (times_any (HL.out _ hX1) (HP.out _ hX1) HC.out hlb).mono ?_
                rintro e w4 ⟨r2, rfl, hr2, hE4⟩
                obtain ⟨g2, cap2, cur2, rfl, hg2, hb2', hc2⟩ := times_open hr2
                have HC2 := Lib.hid hc2
                obtain ⟨gx, hgx⟩ : ∃ gx, wr.heap.size = gx := ⟨_, rfl⟩
                rw [hgx] at hS1 ⊢
                have hT : Lp w w4 [(g2, cur2, 129), (gx, #[.int .i64 (whereT l a k), .int .i64 (fromT l p a k), .int .i64 (tillT l p a k)], 129), (g1, cur1, 129), (w.heap.size + 1, #[.slice A3 l.trains.length c3], 42), (w.heap.size, #[.slice A0 l.tracks.length c0, .int .i64 l.gap, .slice (some ⟨b2, o2, none⟩) l.trains.length c2], 33)] := (hS1.trans hE4).add hb2'
                have HO4 := Lib.hid ((HO.out.ext (by repeat (first | (with_reducible assumption) | (with_reducible exact Ext.refl _) | apply Ext.alloc | apply Ext.drewN | apply Ext.drew))).ext hE4)
                clear k1 k2 k3 k4 k5 k6 k7 k8 hS hS1 hX1 HO hE4 hr2 hb2' hc2 x0 x1 x2
                have hS := hT; clear hT
                obtain ⟨k1, k2, k3, k4, k5, k6, k7, k8, k9, k10, k11, k12⟩ := hS.open5
                go_wp2_with fail
                clear k1 k2 k3 k4 k5 k6 k7 k8 k9 k10 k11 k12
                go_loopw [5, 47] (fun out j wi => ∃ (m N : Nat) (D : List Int), m ≤ (l.tr b).legs.length + 1 ∧ j = .int .i64 m ∧ N ≤ 1000 * a + 150 * b + 12 * k + m ∧ Hid (meetsD l p = foldF (meetB l p) (a + 1) l.trains.length (foldF (meetK l p a) (b + 1) l.trains.length (foldF (meetM l p a b) (k + 1) ((l.tr a).legs.length + 1) (foldF (meetStep l p a b k) m ((l.tr b).legs.length + 1) D)))) ∧ Hid (Own5 w1.heap.size wi out N D) ∧ Lp w wi [(g2, cur2, 129), (gx, #[.int .i64 (whereT l a k), .int .i64 (fromT l p a k), .int .i64 (tillT l p a k)], 129), (g1, cur1, 129), (w.heap.size + 1, #[.slice A3 l.trains.length c3], 42), (w.heap.size, #[.slice A0 l.tracks.length c0, .int .i64 l.gap, .slice (some ⟨b2, o2, none⟩) l.trains.length c2], 33)]) (fun _ j _ => (l.tr b).legs.length + 1 - (intOf j).toNat)
                case atStart => exact ⟨0, N, D, Nat.zero_le _, rfl, by omega, by rw [HD.out, foldF_at _ hlk]; rfl, HO4, hS⟩
                case round =>
                  clear hS HD HO4 hN
                  obtain ⟨m, N, D, hmm, rfl, hN, HD, HO, hS⟩ := hrel
                  obtain ⟨k1, k2, k3, k4, k5, k6, k7, k8, k9, k10, k11, k12⟩ := hS.open5
                  by_cases hlm : m < (l.tr b).legs.length + 1
                  · obtain ⟨y0, y1, y2⟩ := HC2.out m hlm
                    go_upto_region 16 with fail
                    obtain ⟨gy, hgy⟩ : ∃ gy, wr.heap.size = gy := ⟨_, rfl⟩
                    have hS1 := hS.newAt #[.int .i64 (whereT l b m), .int .i64 (fromT l p b m), .int .i64 (tillT l p b m)] 129 hgy
                    rw [hgy]
                    go_cut [12, 13] (fun f g wx => f = .int .i64 (max (fromT l p a k) (fromT l p b m)) ∧ g = .int .i64 (min (tillT l p a k) (tillT l p b m)) ∧ Hid (Own5 w1.heap.size wx u5 N D) ∧ Lp w wx [(gy, #[.int .i64 (whereT l b m), .int .i64 (fromT l p b m), .int .i64 (tillT l p b m)], 129), (g2, cur2, 129), (gx, #[.int .i64 (whereT l a k), .int .i64 (fromT l p a k), .int .i64 (tillT l p a k)], 129), (g1, cur1, 129), (w.heap.size + 1, #[.slice A3 l.trains.length c3], 42), (w.heap.size, #[.slice A0 l.tracks.length c0, .int .i64 l.gap, .slice (some ⟨b2, o2, none⟩) l.trains.length c2], 33)])
                    case first =>
                      obtain ⟨p1, p2, p3, p4, p5, p6, p7, p8⟩ := hS1.open3
                      by_cases q1 : fromT l p a k < fromT l p b m
                      all_goals
                        by_cases q2 : tillT l p b m < tillT l p a k
                        all_goals
                          go_region
                          all_goals
                            go_wp2_with fail
                            go_meet
                            exact ⟨i64_eq (by omega), i64_eq (by omega), HO.out.ext (by repeat (first | (with_reducible assumption) | (with_reducible exact Ext.refl _) | apply Ext.alloc | apply Ext.drewN | apply Ext.drew)), by repeat (first | with_reducible exact hS1 | apply Lp.drewN | apply Lp.drew)⟩
                    case rest =>
                      obtain ⟨rfl, rfl, HO5, hS5⟩ := hcut
                      clear k1 k2 k3 k4 k5 k6 k7 k8 k9 k10 k11 k12 y0 y1 y2 hS1 hS HO
                      have hS := hS5; clear hS5
                      obtain ⟨k1, k2, k3, k4, k5, k6, k7, k8⟩ := hS.open3
                      by_cases q3 : whereT l a k = whereT l b m
                      · by_cases q4 : max (fromT l p a k) (fromT l p b m) ≤ min (tillT l p a k) (tillT l p b m)
                        · have hv : Hid (meetStep l p a b k m D = D ++ [(a : Int), (b : Int), whereT l a k, max (fromT l p a k) (fromT l p b m), min (tillT l p a k) (tillT l p b m)]) := by unfold Hid meetStep; rw [if_pos ⟨q3, q4⟩]
                          have q3' : (whereT l a k == whereT l b m) = true := by simp [q3]
                          clear q3
                          have hle := HO5.out.2
                          go_wp2_with (at_builtin; refine wpList_append_own _ rfl _ _ 63 rfl w1.heap.size 92 i0 (.agg #[.int .i64 0, .int .i64 0, .int .i64 0, .int .i64 0, .int .i64 0]) 5 40 Try.underlying63 hin.out hz0.out hz1.out hz2.out rfl (by decide) _ _ _ rfl (HO5.out.1.alloc _) ⟨wc.heap.size, 0, none⟩ 1 1 [.int .i64 a, .int .i64 b, .int .i64 (whereT l a k), .int .i64 (max (fromT l p a k) (fromT l p b m)), .int .i64 (min (tillT l p a k) (tillT l p b m))] rfl rfl five_cells ?c2 ?c3 ?c4 ?c5 ?_)
                          case c2 => intro u hu; simp at hu; rcases hu with rfl | rfl | rfl | rfl | rfl <;> rfl
                          case c3 => unfold maxLen; omega
                          case c4 => omega
                          case c5 => simp; omega
                          · intro v' w5 hown' hgrow _
                            have hS5 := hS.append5t HO5.out (by omega) types6 hgrow
                            have HO6 : Hid (Own5 w1.heap.size w5 v' (N + 1) (D ++ [(a : Int), (b : Int), whereT l a k, max (fromT l p a k) (fromT l p b m), min (tillT l p a k) (tillT l p b m)])) := ⟨by rw [nums_append]; exact hown', by have q1 := hgrow.size; simp only [alloc_size] at q1; omega⟩
                            have hS6 := Lib.hid hS5.tail
                            clear hown' hgrow k1 k2 k3 k4 k5 k6 k7 k8 hS hS5
                            go_wp2_with fail
                            exact ⟨⟨m + 1, N + 1, _, by omega, by go_num, by omega, by rw [HD.out, foldF_at _ hlm, hv.out]; rfl, HO6, hS6.out⟩, (by simp [intOf]; omega)⟩
                        · have hv : Hid (meetStep l p a b k m D = D) := by unfold Hid meetStep; rw [if_neg (fun h => q4 h.2)]
                          have q3' : (whereT l a k == whereT l b m) = true := by simp [q3]
                          clear q3
                          go_wp2_with fail
                          exact ⟨⟨m + 1, N, D, by omega, by go_num, by omega, by rw [HD.out, foldF_at _ hlm, hv.out]; rfl, HO5, hS.tail⟩, (by simp [intOf]; omega)⟩
                      · have hv : Hid (meetStep l p a b k m D = D) := by unfold Hid meetStep; rw [if_neg (fun h => q3 h.1)]
                        have q3' : (whereT l a k == whereT l b m) = false := by simp [q3]
                        clear q3
                        go_wp2_with fail
                        exact ⟨⟨m + 1, N, D, by omega, by go_num, by omega, by rw [HD.out, foldF_at _ hlm, hv.out]; rfl, HO5, hS.tail⟩, (by simp [intOf]; omega)⟩
                  · have HE := Lib.hid (foldF_end (meetStep l p a b k) (i := m) (n := (l.tr b).legs.length + 1) (by omega) D)
                    go_wp2_with fail
                    exact ⟨⟨k + 1, N, D, by omega, by go_num, by omega, by rw [HD.out, HE.out]; rfl, HO, hS.tail.tail⟩, (by simp [intOf]; omega)⟩
              · have HE := Lib.hid (foldF_end (meetM l p a b) (i := k) (n := (l.tr a).legs.length + 1) (by omega) D)
                go_wp2_with fail
                exact ⟨⟨b + 1, N, D, by omega, by omega, by go_num, by omega, by rw [HD.out, HE.out]; rfl, HO, hS.tail⟩, (by simp [intOf]; omega)⟩
          · have HE := Lib.hid (foldF_end (meetK l p a) (i := b) (n := l.trains.length) (by omega) D)
            go_wp2_with fail
            exact ⟨⟨a + 1, N, D, by omega, by go_num, by omega, by rw [HD.out, HE.out]; rfl, HO, hS⟩, (by simp [intOf]; omega)⟩
      · have HE := Lib.hid (foldF_end (meetB l p) (i := a) (n := l.trains.length) (by omega) D)
        have hX := hS.ext
        go_wp2_with fail
        go_ret
        exact ⟨_, N, rfl, by omega, by rw [hA.out, HD.out, HE.out]; exact ownsRow_mono HO.out.1 (by omega), hX⟩
end Go.Proofs.Ythhkbfjolmgloaa
namespace Go.Proofs.Ythhkbfjolmgloaa
open Go.RowKit
set_option linter.unusedVariables false
set_option linter.unusedSimpArgs false
structure Fives (D : List Int) : Prop where
  five : D.length % 5 = 0
  ok : ∀ j, 5 * j < D.length → D.getD (5 * j) 0 < D.getD (5 * j + 1) 0 ∧ D.getD (5 * j + 3) 0 ≤ D.getD (5 * j + 4) 0
theorem Fives.nil : Fives [] := ⟨rfl, fun j h => by simp at h⟩
theorem Fives.add {D : List Int} (h : Fives D) {a b s f t : Int} (h1 : a < b) (h2 : f ≤ t) : Fives (D ++ [a, b, s, f, t]) := by
  have h5 := h.five
  refine ⟨by simp; omega, fun j hj => ?_⟩
  simp only [List.length_append, List.length_cons, List.length_nil] at hj
  have hget : ∀ i, i < D.length → (D ++ [a, b, s, f, t]).getD i 0 = D.getD i 0 := fun i hi => by
    simp only [List.getD_eq_getElem?_getD]; rw [List.getElem?_append_left hi]
  have hnew : ∀ i, (D ++ [a, b, s, f, t]).getD (D.length + i) 0 = [a, b, s, f, t].getD i 0 := fun i => by
    simp only [List.getD_eq_getElem?_getD]; rw [List.getElem?_append_right (by omega)]; congr 2; omega
  by_cases e : 5 * j < D.length
  · rw [hget _ (by omega), hget _ (by omega), hget _ (by omega), hget _ (by omega)]
    exact h.ok j e
  · have ej : 5 * j = D.length := by omega
    rw [ej, hnew 1, hnew 3, hnew 4]
    have := hnew 0
    rw [Nat.add_zero] at this
    rw [this]
    exact ⟨h1, h2⟩
theorem meetsA_fives (l : Line) (p : List (List Int)) : Fives (meetsA l p) := by
  unfold meetsA
  by_cases c : canB l p
  · rw [if_pos c]
    unfold meetsD
    refine foldF_inv (P := Fives) (fun a D _ ha hD => ?_) Fives.nil
    unfold meetB
    refine foldF_inv (P := Fives) (fun b D hb _ hD => ?_) hD
    unfold meetK
    refine foldF_inv (P := Fives) (fun k D _ _ hD => ?_) hD
    unfold meetM
    refine foldF_inv (P := Fives) (fun m D _ _ hD => ?_) hD
    unfold meetStep
    by_cases c2 : whereT l a k = whereT l b m ∧ max (fromT l p a k) (fromT l p b m) ≤ min (tillT l p a k) (tillT l p b m)
    · rw [if_pos c2]
      exact hD.add (by omega) c2.2
    · rw [if_neg c2]; exact hD
  · rw [if_neg c]; exact Fives.nil
theorem meetsA_one {l : Line} {p : List (List Int)} (h : l.trains.length = 1) : meetsA l p = [] := by
  unfold meetsA
  by_cases c : canB l p
  · rw [if_pos c]
    unfold meetsD
    rw [h, foldF_at _ (by omega), foldF_end _ (by omega)]
    unfold meetB
    rw [h, foldF_end _ (by omega)]
  · rw [if_neg c]
end Go.Proofs.Ythhkbfjolmgloaa
