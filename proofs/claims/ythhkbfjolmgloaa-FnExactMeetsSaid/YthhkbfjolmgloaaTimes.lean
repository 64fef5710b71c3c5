/- impl.times answers a plain list. Condition: the plan can be. -/
import Derived.Test.YthhkbfjolmgloaaMeets
import Derived.Deep.RegionHeld3
namespace Go.Proofs.Ythhkbfjolmgloaa
open Go.RowKit
set_option linter.unusedVariables false
set_option linter.unusedSimpArgs false
theorem info129 : (Try.prog.info? 129).map (fun i => (i.zero, i.size, i.bytes)) = some (some (.agg #[.int .i64 0, .int .i64 0, .int .i64 0]), 3, 24) := by kernel_rfl
theorem step_append_own {P : Program} {ops : Array Oper} {o : Oper} {a : Act} {w : World} {K : Act → World → Prop} {Q : Exit → Act → World → Prop} {E : Prop} (hgd : o.guard = none) (s x : Operand) (t : TypeId)
    (ho : o.op = .call { callee := .builtin .append, args := #[s, x], argTypes := #[t, t] })
    (base : Nat) (e : TypeId) (i : TypeInfo) (z : Value) (size bytes : Nat) (ht : P.underlying t = some (.slice e)) (hi : P.info? e = some i) (hz : i.zero = some z)
    (hsize : i.size = size) (hby : i.bytes = bytes) (hzs : z.cells.size = size) (hsz : 0 < size)
    (v : Value) (n : Nat) (xs : List Value) (hs : a.eval s = v) (hown : w.ownsRow base e size v n xs)
    (ad : Addr) (m c : Nat) (news : List Value) (hx : a.eval x = .slice (some ad) m c) (hl : news.length = m * size) (hnews : ∀ j u, news[j]? = some u → w.cell? (ad.add j) = some u) (h1 : ∀ u ∈ news, u.oneCell' = true)
    (h63 : n + m ≤ maxLen) (hbytes : (n + m) * bytes ≤ 140737488355328) (hbase : base ≤ w.heap.size)
    (h : ∀ v' w', w'.ownsRow base e size v' (n + m) (xs ++ news) → w.grownBy w' v.ownBlock → K (a.put o.dst v') w') :
    if Region.wanted o (yielded ops a.tmps) = true then Oper.wp P o a w K Q else E := by
  rw [if_pos (by simp [Region.wanted, hgd])]
  exact wp_append_own w s x t ho base e i z size bytes ht hi hz hsize hby hzs hsz v n xs hs hown ad m c news hx hl hnews h1 h63 hbytes hbase fun v' w' q1 q2 _ => h v' w' q1 q2
def Own3 (B : Nat) (w : World) (v : Value) (N : Nat) (D : List Int) : Prop := w.ownsRow B 129 3 v N (nums D) ∧ B ≤ w.heap.size
theorem Own3.ext {B : Nat} {w w' : World} {v : Value} {N : Nat} {D : List Int} (h : Own3 B w v N D) (e : Ext w w') : Own3 B w' v N D := ⟨ownsRow_ext h.1 e, Nat.le_trans h.2 e.size⟩
theorem three_cells {w : World} {a b c : Value} {t : TypeId} : ∀ j u, [a, b, c][j]? = some u → (w.alloc (.cells #[a, b, c] t)).cell? ((⟨w.heap.size, 0, none⟩ : Addr).add j) = some u := by
  intro j u hj
  have h := box_cell (box_new w (.cells #[a, b, c] t)) j
  have e : (⟨w.heap.size, 0, none⟩ : Addr).add j = ⟨w.heap.size, j, none⟩ := by
    simp only [Addr.add, Nat.zero_add]
    by_cases hz : j = 0
    · subst hz; simp
    · simp [hz]
  rw [e, h]
  simpa using hj
theorem ints3 {a b c : Int} : ∀ u ∈ [Value.int .i64 a, .int .i64 b, .int .i64 c], u.oneCell' = true := by
  intro u hu
  simp at hu
  rcases hu with rfl | rfl | rfl <;> rfl
theorem openA4 {w wr : World} {bs : List (Nat × Array Value × TypeId)} {b1 b2 b3 b4 : Nat} {cs1 cs2 cs3 cs4 : Array Value} {t1 t2 t3 t4 : TypeId} (h : Lp w wr ((b1, cs1, t1) :: (b2, cs2, t2) :: (b3, cs3, t3) :: (b4, cs4, t4) :: bs)) : Lp w wr ((b1, cs1, t1) :: (b2, cs2, t2) :: (b3, cs3, t3) :: (b4, cs4, t4) :: bs) ∧ (∀ g o, g < w.heap.size → wr.cell? ⟨g, o, none⟩ = w.cell? ⟨g, o, none⟩) ∧ (∀ g, g < w.heap.size → g < wr.heap.size) ∧ (∀ j, wr.cell? ⟨b1, j, none⟩ = cs1[j]?) ∧ b1 < wr.heap.size ∧ (∀ j, wr.cell? ⟨b2, j, none⟩ = cs2[j]?) ∧ b2 < wr.heap.size ∧ (∀ j, wr.cell? ⟨b3, j, none⟩ = cs3[j]?) ∧ b3 < wr.heap.size ∧ (∀ j, wr.cell? ⟨b4, j, none⟩ = cs4[j]?) ∧ b4 < wr.heap.size := ⟨h, h.open4⟩
theorem Own3.le {B : Nat} {w : World} {v : Value} {N : Nat} {D : List Int} (h : Own3 B w v N D) : B ≤ w.heap.size := h.2
theorem Own3.row {B : Nat} {w : World} {v : Value} {N : Nat} {D : List Int} (h : Own3 B w v N D) : w.ownsRow B 129 3 v N (nums D) := h.1
theorem Own3.lt {B : Nat} {w : World} {v : Value} {N : Nat} {D : List Int} (h : Own3 B w v N D) : ∀ g, v.ownBlock = some g → g < w.heap.size ∧ B ≤ g := fun g hg => ⟨(h.1.lt g hg).2, (h.1.lt g hg).1⟩
def timeStep (l : Line) (p : List (List Int)) (i k : Nat) (acc : List Int) : List Int := acc ++ [whereT l i k, fromT l p i k, tillT l p i k]
def timesD (l : Line) (p : List (List Int)) (i : Nat) : List Int := foldF (timeStep l p i) 0 ((l.tr i).legs.length + 1) []
/-- A row of threes stays beside boxes when it grows. -/
theorem Lp.append3 {w wr w2 : World} {bs : List (Nat × Array Value × TypeId)} {B N : Nat} {o : Obj} {out : Value} {D : List Int} (h : Lp w wr bs) (hO : Own3 B wr out N D) (hB : w.heap.size ≤ B) (hb : ∀ g, out.ownBlock = some g → ∀ x, x ∈ bs → x.1 ≠ g) (hg : (wr.alloc o).grownBy w2 out.ownBlock) : Lp w w2 bs :=
  (h.alloc o).grown hg fun k hk => ⟨Nat.le_trans hB (hO.1.lt k hk).1, fun x hx => hb k hk x hx⟩
theorem times_len {n k : Nat} (hn : n ≤ 10) (hk : k < n) : k + 1 ≤ maxLen := by unfold maxLen; omega
theorem times_bytes {n k : Nat} (hn : n ≤ 10) (hk : k < n) : (k + 1) * 24 ≤ 140737488355328 := by omega
theorem le_alloc {B : Nat} {w : World} {o : Obj} (h : B ≤ w.heap.size) : B ≤ (w.alloc o).heap.size := by rw [alloc_size]; omega
theorem own3_mk {B : Nat} {w w2 : World} {o : Obj} {row : Option Nat} {v : Value} {k : Nat} {D E : List Int} (h : w2.ownsRow B 129 3 v (k + 1) (nums D ++ nums E)) (hg : (w.alloc o).grownBy w2 row) (hB : B ≤ w.heap.size) : Own3 B w2 v (k + 1) (D ++ E) := ⟨by rw [nums_append]; exact h, by have q := hg.size; rw [alloc_size] at q; omega⟩
theorem legs_far {B n b1 b2 b3 : Nat} {c0 c1 c2 c3 : Array Value} {t0 t1 t2 t3 : TypeId} {row : Option Nat} (h : ∀ g, row = some g → g < n ∧ B ≤ g) (h1 : b1 < B) (h2 : b2 < B) (h3 : b3 < B) : ∀ g, row = some g → ∀ x, x ∈ [(n, c0, t0), (b1, c1, t1), (b2, c2, t2), (b3, c3, t3)] → x.1 ≠ g := by
  intro g hg x hx
  obtain ⟨q1, q2⟩ := h g hg
  simp only [List.mem_cons, List.not_mem_nil, or_false] at hx
  rcases hx with rfl | rfl | rfl | rfl
  · simp only; omega
  · simp only; omega
  · simp only; omega
  · simp only; omega
theorem le11_len {k : Nat} (h : k + 1 ≤ 11) : k + 1 ≤ maxLen := by unfold maxLen; omega
theorem le11_bytes {k : Nat} (h : k + 1 ≤ 11) : (k + 1) * 24 ≤ 140737488355328 := by omega
theorem three_far {B n b1 b2 b3 : Nat} {c1 c2 c3 : Array Value} {t1 t2 t3 : TypeId} {row : Option Nat} (h : ∀ g, row = some g → g < n ∧ B ≤ g) (h1 : b1 < B) (h2 : b2 < B) (h3 : b3 < B) : ∀ g, row = some g → ∀ x, x ∈ [(b1, c1, t1), (b2, c2, t2), (b3, c3, t3)] → x.1 ≠ g := by
  intro g hg x hx
  obtain ⟨q1, q2⟩ := h g hg
  simp only [List.mem_cons, List.not_mem_nil, or_false] at hx
  rcases hx with rfl | rfl | rfl
  · simp only; omega
  · simp only; omega
  · simp only; omega
set_option maxRecDepth 100000 in
set_option maxHeartbeats 8000000 in
theorem times_any {w : World} {l : Line} {p : List (List Int)} {u v : Value} (hl : IsLine w l u) (hp : IsPlan w p v) (C : Can l p) {i : Nat} (hi : i < l.trains.length) :
    Calls Try.prog 113 #[u, v, .int .i64 i] w fun e w' => ∃ r, e = .returned r ∧ w'.ownsRow w.heap.size 129 3 r ((l.tr i).legs.length + 1) (nums (timesD l p i)) ∧ Ext w w' := by
  obtain ⟨A0, c0, A2, c2, rfl, h0, h2⟩ := hl
  obtain ⟨A3, c3, rfl, h3⟩ := hp
  obtain ⟨b0, o0, b2, o2, bl, ol, cl, SL⟩ := seeL C.ok h0 h2
  obtain ⟨b3, o3, br, or', cr, SP⟩ := seeP C.ok C.fits h3
  clear h0 h2 h3
  have B := C.ok.bd
  have HC := Lib.hid C
  have HS := Lib.hid SL
  have HQ := Lib.hid SP
  have HB := Lib.hid B
  have HT := Lib.hid (SL.isTrain hi)
  obtain ⟨rfl, hb2⟩ := SL.base2 (by omega)
  obtain ⟨rfl, hb3⟩ := SP.base (by omega)
  obtain ⟨e0, e1, e2, e3, e4, hbl⟩ := SL.train i hi
  obtain ⟨r0, hbr⟩ := SP.row i hi
  have n10 := B.nl1 i hi
  have n5 := B.n5
  have t0 := B.tr i hi
  rw [C.fits.rows]
  clear SL SP B C
  obtain ⟨i0, hi0, hzz⟩ := Option.map_eq_some_iff.1 info129
  simp only [Prod.mk.injEq] at hzz
  obtain ⟨hz0', hz1', hz2'⟩ := hzz
  have hin := Lib.hid hi0
  have hz0 := Lib.hid hz0'
  have hz1 := Lib.hid hz1'
  have hz2 := Lib.hid hz2'
  clear hi0 hz0' hz1' hz2'
  go_enter Try.func113, Try.ntmps113
  go_wp2_with fail
  go_loopw [8, 9, 22] (fun out f j wr => ∃ (k : Nat) (D : List Int), k ≤ (l.tr i).legs.length ∧ j = .int .i64 k ∧ f = .int .i64 (fromT l p i k) ∧ Hid (timesD l p i = foldF (timeStep l p i) k ((l.tr i).legs.length + 1) D) ∧ Hid (Own3 (w.heap.size + 1 + 1 + 1) wr out k D) ∧ Lp w wr [(w.heap.size + 1 + 1, #[.int .i64 (l.tr i).frm, .int .i64 (l.tr i).ready, .int .i64 (l.tr i).due, .int .i64 (l.tr i).weight, .slice (some ⟨bl i, ol i, none⟩) (l.tr i).legs.length (cl i)], 80), (w.heap.size + 1, #[.slice (some ⟨b3, o3, none⟩) l.trains.length c3], 42), (w.heap.size, #[.slice A0 l.tracks.length c0, .int .i64 l.gap, .slice (some ⟨b2, o2, none⟩) l.trains.length c2], 33)]) (fun _ _ j _ => (l.tr i).legs.length - (intOf j).toNat)
  case atStart => exact ⟨0, [], Nat.zero_le _, rfl, rfl, rfl, ⟨World.ownsRow_nil _ _ _ _, by simp⟩, (Lp.start2 w _ _ _ _).newAt _ _ (by simp)⟩
  case round =>
    obtain ⟨k, D, hkk, rfl, rfl, HD, HO, hS⟩ := hrel
    obtain ⟨k1, k2, k3, k4, k5, k6, k7, k8⟩ := hS.open3
    by_cases hlt : k < (l.tr i).legs.length
    · obtain ⟨f0, f1, f2⟩ := HS.out.leg i k hi hlt
      have s0 := HQ.out.st i k hi hlt
      obtain ⟨_, _, y1, y2, _, _⟩ := HB.out.leg i k hi hlt
      obtain ⟨z3, z4⟩ := HC.out.fits.bd hi hlt
      have hne : Hid (¬ k = (l.tr i).legs.length) := by unfold Hid; omega
      go_upto_region 7 with fail
      have hS1 := hS.newAt #[.int .i64 (l.leg i k).to, .int .i64 (l.leg i k).run, .int .i64 (l.leg i k).stay] 84 rfl
      have hob := Lib.hid (HO.out.lt)
      have hwr := HO.out.2
      clear k1 k2 k3 k4 k5 k6 k7 k8
      have hwh : Hid (whereT l i k = (l.tr i).at_ k) := by unfold Hid whereT; rw [if_neg hne.out]
      have hti : Hid (tillT l p i k = st p i k) := by unfold Hid tillT; rw [if_neg hne.out]
      have HT96 : Hid (∀ W, Ext w W → Calls Try.prog 96 #[.agg #[.int .i64 (l.tr i).frm, .int .i64 (l.tr i).ready, .int .i64 (l.tr i).due, .int .i64 (l.tr i).weight, .slice (some ⟨bl i, ol i, none⟩) (l.tr i).legs.length (cl i)], .int .i64 k] W fun e w' => e = .returned (.int .i64 (whereT l i k)) ∧ Ext W w') := fun W e => by rw [hwh.out]; exact from_any (HT.out.ext e) n10.2 hlt
      rw [← hti.out] at s0
      go_cut [8] (fun s wx => Hid (Own3 (w.heap.size + 1 + 1 + 1) wx s (k + 1) (D ++ [whereT l i k, fromT l p i k, tillT l p i k])) ∧ Lp w wx [(wr.heap.size, #[.int .i64 (l.leg i k).to, .int .i64 (l.leg i k).run, .int .i64 (l.leg i k).stay], 84), (w.heap.size + 1 + 1, #[.int .i64 (l.tr i).frm, .int .i64 (l.tr i).ready, .int .i64 (l.tr i).due, .int .i64 (l.tr i).weight, .slice (some ⟨bl i, ol i, none⟩) (l.tr i).legs.length (cl i)], 80), (w.heap.size + 1, #[.slice (some ⟨b3, o3, none⟩) l.trains.length c3], 42), (w.heap.size, #[.slice A0 l.tracks.length c0, .int .i64 l.gap, .slice (some ⟨b2, o2, none⟩) l.trains.length c2], 33)])
      case first =>
        first
        | go_region_held3 (fun W => Lp w W [(wr.heap.size, #[.int .i64 (l.leg i k).to, .int .i64 (l.leg i k).run, .int .i64 (l.leg i k).stay], 84), (w.heap.size + 1 + 1, #[.int .i64 (l.tr i).frm, .int .i64 (l.tr i).ready, .int .i64 (l.tr i).due, .int .i64 (l.tr i).weight, .slice (some ⟨bl i, ol i, none⟩) (l.tr i).legs.length (cl i)], 80), (w.heap.size + 1, #[.slice (some ⟨b3, o3, none⟩) l.trains.length c3], 42), (w.heap.size, #[.slice A0 l.tracks.length c0, .int .i64 l.gap, .slice (some ⟨b2, o2, none⟩) l.trains.length c2], 33)] ∧ (∀ g o, g < w.heap.size → W.cell? ⟨g, o, none⟩ = w.cell? ⟨g, o, none⟩) ∧ (∀ g, g < w.heap.size → g < W.heap.size) ∧ (∀ j, W.cell? ⟨wr.heap.size, j, none⟩ = (#[.int .i64 (l.leg i k).to, .int .i64 (l.leg i k).run, .int .i64 (l.leg i k).stay] : Array Value)[j]?) ∧ wr.heap.size < W.heap.size ∧ (∀ j, W.cell? ⟨w.heap.size + 1 + 1, j, none⟩ = (#[.int .i64 (l.tr i).frm, .int .i64 (l.tr i).ready, .int .i64 (l.tr i).due, .int .i64 (l.tr i).weight, .slice (some ⟨bl i, ol i, none⟩) (l.tr i).legs.length (cl i)] : Array Value)[j]?) ∧ w.heap.size + 1 + 1 < W.heap.size ∧ (∀ j, W.cell? ⟨w.heap.size + 1, j, none⟩ = (#[.slice (some ⟨b3, o3, none⟩) l.trains.length c3] : Array Value)[j]?) ∧ w.heap.size + 1 < W.heap.size ∧ (∀ j, W.cell? ⟨w.heap.size, j, none⟩ = (#[.slice A0 l.tracks.length c0, .int .i64 l.gap, .slice (some ⟨b2, o2, none⟩) l.trains.length c2] : Array Value)[j]?) ∧ w.heap.size < W.heap.size) (first | assumption | exact openA4 hS1.drew | exact openA4 (Lp.alloc (And.left (by assumption)) _) | exact openA4 hS6 | exact openA4 (Lp.trans (And.left (by assumption)) (by assumption))) (first  | (go_at_call 96; have hX := Lp.ext (And.left (by assumption : Lp w _ _ ∧ _)); with_reducible refine (HT96.out _ hX).mono ?_; rintro e w5 ⟨rfl, hE5⟩; have hO5 := Lib.hid (HO.out.ext (Ext.trans (by repeat (first | (with_reducible assumption) | (with_reducible exact Ext.refl _) | apply Ext.alloc | apply Ext.drewN | apply Ext.drew)) hE5)); have hS5 := Lib.hid (Lp.trans hS1 (Ext.trans (by repeat (first | (with_reducible assumption) | (with_reducible exact Ext.refl _) | apply Ext.alloc | apply Ext.drewN | apply Ext.drew)) hE5)); have hg5 := hO5.out.le)  | (refine step_append_own rfl (.tmp 27) (.tmp 41) 126 rfl (w.heap.size + 1 + 1 + 1) 129 i0 (.agg #[.int .i64 0, .int .i64 0, .int .i64 0]) 3 24 Try.underlying126 hin.out hz0.out hz1.out hz2.out rfl (by decide) _ _ _ rfl (hO5.out.row.alloc _) ⟨w5.heap.size, 0, none⟩ 1 1 [.int .i64 (whereT l i k), .int .i64 (fromT l p i k), .int .i64 (tillT l p i k)] rfl rfl three_cells ints3 (times_len n10.2 hlt) (times_bytes n10.2 hlt) (le_alloc hg5) ?_; intro v' w6 hown' hgrow; have hS6 := hS5.out.append3 hO5.out (by omega) (legs_far hob.out (by omega) (by omega) (by omega)) hgrow; have HO6 := Lib.hid (own3_mk (E := [whereT l i k, fromT l p i k, tillT l p i k]) hown' hgrow hg5)))
        | fail
        all_goals
          go_wp2_with fail
          go_meet
          exact ⟨HO6, And.left (by assumption)⟩
      case rest =>
        obtain ⟨HO7, hS7⟩ := hcut
        obtain ⟨k1, k2, k3, k4, k5, k6, k7, k8, k9, k10⟩ := hS7.open4
        rw [← hti.out] at z3 z4
        have hf : Hid (tillT l p i k + (l.leg i k).run = fromT l p i (k + 1)) := by rw [Hid, hti.out]; simp [fromT]
        have hS8 := Lib.hid hS7.tail
        clear hS7 hS1 hS
        go_wp2_with fail
        go_quiet (fail)
        go_wp2_with fail
        exact ⟨⟨k + 1, _, by omega, by go_num, by rw [hf.out], by rw [HD.out, foldF_at _ (by omega : k < (l.tr i).legs.length + 1)]; rfl, HO7.out.ext (by repeat (first | with_reducible exact Ext.refl _ | apply Ext.drewN | apply Ext.drew)), by repeat (first | with_reducible exact hS8.out | apply Lp.drewN | apply Lp.drew)⟩, (by simp [intOf]; omega)⟩
    · have hkl : Hid (k = (l.tr i).legs.length) := by unfold Hid; omega
      have hx : (l.tr i).legs.length - 1 < (l.tr i).legs.length := by omega
      obtain ⟨f0, f1, f2⟩ := HS.out.leg i ((l.tr i).legs.length - 1) hi hx
      have hidx : ((l.tr i).legs.length : Int) - 1 = (((l.tr i).legs.length - 1 : Nat) : Int) := by omega
      have hwh : Hid (whereT l i k = (l.leg i ((l.tr i).legs.length - 1)).to) := by unfold Hid whereT; rw [if_pos hkl.out, hkl.out]
      have hti : Hid (tillT l p i k = fromT l p i k) := by unfold Hid tillT; rw [if_pos hkl.out]
      have hD : Hid (timesD l p i = D ++ [whereT l i k, fromT l p i k, tillT l p i k]) := by rw [Hid, HD.out, hkl.out, foldF_at _ (by omega : (l.tr i).legs.length < (l.tr i).legs.length + 1), foldF_end _ (Nat.le_refl _)]; rfl
      have hwr := HO.out.2
      have hkn : Hid (k + 1 ≤ 11) := by unfold Hid; omega
      go_wp2_with (at_builtin; refine wpList_append_own _ rfl _ _ 126 rfl (w.heap.size + 1 + 1 + 1) 129 i0 (.agg #[.int .i64 0, .int .i64 0, .int .i64 0]) 3 24 Try.underlying126 hin.out hz0.out hz1.out hz2.out rfl (by decide) _ _ _ rfl (HO.out.1.alloc _) ⟨wr.heap.size, 0, none⟩ 1 1 [.int .i64 (l.leg i ((l.tr i).legs.length - 1)).to, .int .i64 (fromT l p i k), .int .i64 (fromT l p i k)] rfl rfl three_cells ints3 (le11_len hkn.out) (le11_bytes hkn.out) (le_alloc hwr) ?_)
      intro v' w6 hown' hgrow _
      have hS6 := hS.append3 HO.out (by omega) (three_far HO.out.lt (by omega) (by omega) (by omega)) hgrow
      have hR : Hid (w6.ownsRow w.heap.size 129 3 v' ((l.tr i).legs.length + 1) (nums (timesD l p i))) := by
        have e : (l.tr i).legs.length + 1 = k + 1 := by have := hkl.out; omega
        rw [Hid, hD.out, nums_append, hwh.out, hti.out, e]
        exact ownsRow_mono (base := w.heap.size + 1 + 1 + 1) hown' (by omega)
      have hX := hS6.ext
      clear hown' hgrow k1 k2 k3 k4 k5 k6 k7 k8 hS hS6
      go_wp2_with fail
      go_ret
      exact ⟨_, rfl, hR.out, hX⟩
end Go.Proofs.Ythhkbfjolmgloaa
