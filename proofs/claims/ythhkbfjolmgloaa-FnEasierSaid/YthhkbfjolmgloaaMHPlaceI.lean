/- impl.Place answers the plain plan of an order. Condition: line and order hold at most 2^20 values. -/
import Derived.Test.YthhkbfjolmgloaaMHPlaceX
import Derived.Test.YthhkbfjolmgloaaMHNextI
import Derived.BigQuiet
import Derived.Deep.QuietTactic
namespace Go.Proofs.Ythhkbfjolmgloaa
open Go.RowKit
set_option linter.unusedVariables false
set_option linter.unusedSimpArgs false
theorem flat_nils (n : Nat) : (List.replicate n (Value.slice none 0 0).cells.toList).flatten = List.replicate n (Value.slice none 0 0) := by
  rw [show (Value.slice none 0 0).cells.toList = [Value.slice none 0 0] from rfl]
  induction n with
  | zero => rfl
  | succ n ih => rw [List.replicate_succ, List.flatten_cons, ih, List.replicate_succ]; rfl
theorem owns_fresh {w : World} {B e g n : Nat} {xs : List Value} (hB : B ≤ g) (h : w.heap[g]? = some (.cells xs.toArray e (0, 0))) (hn : xs.length = n) (hm : n ≤ 1048576) : w.ownsRow B e 1 (.slice (some ⟨g, 0, none⟩) n n) n xs :=
  ⟨by omega, Or.inr ⟨g, n, xs.toArray, rfl, hB, h, Nat.le_refl _, by simp [maxLen]; omega, by simp [hn], by simp [← hn]⟩⟩
/-- impl's placer, made: nothing is placed. -/
theorem plc_made {w w1 : World} {l : Line} {A0 : Option Addr} {c0 : Nat} {A2 : Option Addr} {c2 : Nat} (hl : IsLine w1 l (.agg #[.slice A0 l.tracks.length c0, .int .i64 l.gap, .slice A2 l.trains.length c2])) (n5 : l.trains.length ≤ 5) (hE : Ext w1 w) :
    ∃ AR cR gr, Plc ((w.alloc (.cells (Array.replicate l.trains.length (Value.slice none 0 0)) 23)).alloc (.cells #[.slice A0 l.tracks.length c0, .int .i64 l.gap, .slice A2 l.trains.length c2, .slice (some ⟨w.heap.size, 0, none⟩) l.trains.length l.trains.length, .int .i64 0] 112)).drew w1.heap.size 112 l (List.replicate l.trains.length []) 0 (w.heap.size + 1) A0 c0 A2 c2 AR cR gr (fun _ => .slice none 0 0) := by
  have hs := hE.size
  rw [show (Array.replicate l.trains.length (Value.slice none 0 0)) = (List.replicate l.trains.length (Value.slice none 0 0)).toArray from by simp]
  obtain ⟨AR, cR, gr, _, h⟩ := plc_start (w' := ((w.alloc (.cells (List.replicate l.trains.length (Value.slice none 0 0)).toArray 23)).alloc (.cells #[.slice A0 l.tracks.length c0, .int .i64 l.gap, .slice A2 l.trains.length c2, .slice (some ⟨w.heap.size, 0, none⟩) l.trains.length l.trains.length, .int .i64 0] 112)).drew) (T := 112) (B := w1.heap.size) (gp := w.heap.size + 1) hl ((hE.alloc _).alloc _).drew (by omega) (Nat.le_refl _) (heap_alloc2_new _ _ _) (ownsRow_ext (owns_fresh (by omega) (box_old (box_new _ _) _) (by simp) (by omega)) (Ext.refl _).drew) (fun g h => by rw [ownBlock_slice] at h; simp only [Option.some.injEq] at h; omega)
  exact ⟨AR, cR, gr, h⟩
theorem in_q {x a b : Int} {c : Bool} (h : inB x a b = c) (w : World) : Calls Try.prog 79 #[.int .i64 x, .int .i64 a, .int .i64 b] w fun e w' => e = .returned (.bool c) ∧ w' = w := (in_any x a b w).mono (by rintro e w' ⟨h1, h2⟩; exact ⟨by rw [← h]; exact h1, h2.symm⟩)
theorem stepV_none {l : Line} {p : List (List Int)} {last : Int} {i : Nat} (h : stepT l p last i = none) : stepV (stepT l p last i) = -1 := by rw [h]; rfl
theorem stepV_some {l : Line} {p : List (List Int)} {last t : Int} {i : Nat} (h : stepT l p last i = some t) : stepV (stepT l p last i) = t := by rw [h]; rfl
set_option maxRecDepth 100000 in
set_option maxHeartbeats 8000000 in
theorem impl_Place_any {w : World} {l : Line} {order : List Int} {u : Value} {Ao : Option Addr} (co : Nat) (hl : IsLine w l u) (hs : l.size ≤ 1048576) (ho : RdInt w Ao order) (hn : order.length ≤ 1048576) :
    Calls Try.prog 59 #[u, .slice Ao order.length co] w fun e w' => PlacedIs w.heap.size (placeA l order) e w' ∧ Ext w w' := by
  have HL := Lib.hid (fun (W : World) (e : Ext w W) => hl.ext e)
  obtain ⟨A0, c0, A2, c2, rfl, h0, h2⟩ := hl
  have hs0 := Lib.hid hs; clear hs
  by_cases hr : right l = true ∧ order.length ≤ 10
  · obtain ⟨hr, h10⟩ := hr
    have HR := Lib.hid hr
    have O := right_iff.1 hr
    have HO := Lib.hid O
    have n5 := O.bd.n5
    have HQ := Lib.hid ho
    obtain ⟨b0, o0, b2, o2, bl, ol, cl, SL⟩ := seeL O h0 h2
    have HSL := Lib.hid SL
    clear hr O h0 h2 ho SL
    have hmk := make_any 40 23 _ 1 24 Try.underlying40 info23 rfl l.trains.length (by omega) (by omega)
    rw [flat_nils] at hmk
    go_enter Try.func59, Try.ntmps59
    go_wp2_with fail
    refine (right_any (HL.out _ (by repeat (first | (with_reducible assumption) | (with_reducible exact Ext.refl _) | apply Ext.alloc | apply Ext.drewN | apply Ext.drew))) hs0.out).mono ?_
    rw [HR.out]
    rintro e w1 ⟨rfl, hE⟩
    have hS := (((Lp.nil w).newAt (g := w.heap.size) #[.slice A0 l.tracks.length c0, .int .i64 l.gap, .slice A2 l.trains.length c2] 33 rfl).newAt (g := w.heap.size + 1) #[.int .i64 0, .int .i64 0, .slice none 0 0] 73 (by rw [alloc_size])).trans hE
    have hd10 : decide ((10 : Int) < (order.length : Int)) = false := by simp; omega
    obtain ⟨k1, k2, k3, k4, k5, k6⟩ := hS.open2
    have hX1 := hS.ext
    clear hE
    go_upto_region 3 with fail
    go_cut [5] (fun s wx => ∃ gp AR cR gr, s = .pointer (some ⟨gp, 0, none⟩) ∧ Hid (Plc wx w1.heap.size 112 l (List.replicate l.trains.length []) 0 gp A0 c0 A2 c2 AR cR gr (fun _ => .slice none 0 0)) ∧ Lp w wx [(w.heap.size + 1, #[.int .i64 0, .int .i64 0, .slice none 0 0], 73), (w.heap.size, #[.slice A0 l.tracks.length c0, .int .i64 l.gap, .slice A2 l.trains.length c2], 33)])
    case first =>
      go_region
      all_goals (
        go_wp2_with fail
        go_meet
        obtain ⟨AR, cR, gr, hP⟩ := plc_made (HL.out w1 hX1) n5 (Ext.refl w1)
        exact ⟨_, AR, cR, gr, rfl, hP, (by repeat (first | (with_reducible exact hS) | apply Lp.alloc | apply Lp.drewN | apply Lp.drew))⟩)
    case rest =>
      obtain ⟨gp, AR, cR, gr, rfl, HP0, hT⟩ := hcut
      have hw1 := hS.open2.2.2.2.1
      have hB := hS.ext.size
      clear hS k1 k2 k3 k4 k5 k6 hX1 hmk
      have hS := hT; clear hT
      go_wp2_with fail
      go_loopw [29] (fun j wr => ∃ (k : Nat) (p : List (List Int)) (last : Int) (vs : Nat → Value), k ≤ order.length ∧ j = .int .i64 k ∧ Hid (Plc wr w1.heap.size 112 l p last gp A0 c0 A2 c2 AR cR gr vs) ∧ Hid (Placing l order k p last) ∧ Lp w wr [(w.heap.size + 1, #[.int .i64 0, .int .i64 0, .slice none 0 0], 73), (w.heap.size, #[.slice A0 l.tracks.length c0, .int .i64 l.gap, .slice A2 l.trains.length c2], 33)]) (fun j _ => order.length - (intOf j).toNat)
      case atStart => exact ⟨0, _, _, _, Nat.zero_le _, rfl, HP0.out, Placing.start l order, hS⟩
      case round =>
        clear hS HP0
        obtain ⟨k, p, last, vs, hk, rfl, HP, HG, hS⟩ := hrel
        have hll := HG.out.last_le
        obtain ⟨k1, k2, k3, k4, k5, k6⟩ := hS.open2
        by_cases hlk : k < order.length
        · obtain ⟨b, off, rfl, hb⟩ := HQ.out.base hlk
          obtain ⟨x, hx⟩ := hid_of_lt hlk
          have hc := HQ.out.at_ hx.out
          have fr := box_frozen (hS.box (w.heap.size + 1, #[.int .i64 0, .int .i64 0, .slice none 0 0], 73) (by simp))
          have hwl : IntKind.i64.wrap ((l.trains.length : Int) - 1) = (l.trains.length : Int) - 1 := IntWalk.i64_in _ (by omega)
          by_cases hin : 0 ≤ x ∧ x ≤ (l.trains.length : Int) - 1
          · obtain ⟨i, hxi⟩ : ∃ i : Nat, x = (i : Int) := ⟨x.toNat, by omega⟩
            subst hxi
            have hi : i < l.trains.length := by omega
            have hinb : inB (i : Int) 0 ((l.trains.length : Int) - 1) = true := inB_true.2 hin
            obtain ⟨rfl, hb2⟩ := HSL.out.base2 (by omega)
            have HIN := Lib.hid (fun W => in_q hinb W)
            obtain ⟨e0, e1, e2, e3, e4, hbl⟩ := HSL.out.train i hi
            obtain ⟨Ai, ci, r0, hbi⟩ := HP.out.rd.row i hi
            have p3 := HP.out.rd.b3
            have hgp := HP.out.rd.lt
            obtain ⟨rfl, hgr⟩ := HP.out.rd.base (by omega)
            have hlen := HG.out.good.len i hi
            have hlen' : rl p i ≤ (l.tr i).legs.length := hlen
            have n10 := HO.out.bd.nl1 i hi
            have hvi : Hid (vs i = .slice Ai (rl p i) ci) := HP.out.row_val hi r0
            clear hbi hbl hlen
            by_cases hf : rl p i < (l.tr i).legs.length
            · have hq : ((rl p i : Int) == ((l.tr i).legs.length : Int)) = false := by simp; omega
              have HF := Lib.hid hf
              go_upto_region 7 with fail
              go_quiet ((go_at_call 79; exact Calls.quiet_of_same (HIN.out _)))
              have hR := HP.out.rd
              have HNX := Lib.hid (fun (W : World) (e : Ext wr W) => pnext_any (hR.ext e) HO.out HG.out.good (by omega) hi hf)
              rcases hst : stepT l p last i with _ | t
              · have hsv := stepV_none hst
                rw [hsv] at HNX
                have hstE := Lib.hid (HG.out.stop HR.out h10 (placeS_three hx.out ⟨by omega, hi, hf⟩ hst) (by decide))
                clear hR hst
                go_wp2_with fail
                refine (HNX.out _ (by repeat (first | (with_reducible assumption) | (with_reducible exact Ext.refl _) | apply Ext.alloc | apply Ext.drewN | apply Ext.drew))).mono ?_
                rintro e w5 ⟨rfl, hE5⟩
                have hT := hS.trans (Ext.trans (by repeat (first | (with_reducible assumption) | (with_reducible exact Ext.refl _) | apply Ext.alloc | apply Ext.drewN | apply Ext.drew)) hE5)
                clear k1 k2 k3 k4 k5 k6 fr hS hE5
                obtain ⟨k1, k2, k3, k4, k5, k6⟩ := hT.open2
                have fr := box_frozen (hT.box (w.heap.size + 1, #[.int .i64 0, .int .i64 0, .slice none 0 0], 73) (by simp))
                have hXf := fun (x y z : Value) => (hT.set3 (x := x) (y := y) (z := z) (by omega)).ext
                go_wp2_with fail
                exact bodyPost_ret (v := placedV 3 k (.slice none 0 0)) (by simp [results, Try.results59, go_sem, placedV, k1, k2, k3, k4, k5, k6, fr]) rfl ⟨placed_stop hstE.out, hXf _ _ _⟩
              · have hsv := stepV_some hst
                rw [hsv] at HNX
                have hG5 := Lib.hid (HG.out.step HO.out h10 hx.out ⟨by omega, hi, hf⟩ hst)
                have ht0 : 0 ≤ t := by have := stepT_ok HO.out HG.out.good hi hf (by omega) hst; have := HG.out.good.last0; omega
                clear hR hst
                go_wp2_with fail
                refine (HNX.out _ (by repeat (first | (with_reducible assumption) | (with_reducible exact Ext.refl _) | apply Ext.alloc | apply Ext.drewN | apply Ext.drew))).mono ?_
                rintro e w5 ⟨rfl, hE5⟩
                have hXw : Ext wr w5 := Ext.trans (by repeat (first | (with_reducible assumption) | (with_reducible exact Ext.refl _) | apply Ext.alloc | apply Ext.drewN | apply Ext.drew)) hE5
                have hT := hS.trans hXw
                have HSo := Lib.hid hS
                obtain ⟨wo, rfl⟩ : ∃ wo, wo = wr := ⟨_, rfl⟩
                clear k1 k2 k3 k4 k5 k6 fr hE5 r0 p3 hgp hgr
                obtain ⟨k1, k2, k3, k4, k5, k6⟩ := hT.open2
                obtain ⟨z1, z2, z3, z4, z5⟩ := plc_facts HP.out hi hXw
                have hd0 : decide (t < 0) = false := by simp; omega
                go_upto_region 12 with fail
                clear z1 z2 z3 z4 z5
                have HE0 : Hid (Ext wo w5.drew) := hXw.drew
                have hBd : w1.heap.size ≤ (w5.drew.alloc (.cells #[.int .i64 t] 3)).heap.size := by rw [alloc_size]; have := HP.out.lo_le; have := HE0.out.size; omega
                have hN10 : rl p i ≤ 1000000 := by omega
                have hne := HP.out.ne
                have HO1 := Lib.hid (ownsRow_ext (HP.out.own i hi) (HE0.out.alloc (.cells #[.int .i64 t] 3)))
                rw [hvi.out] at HO1
                obtain ⟨y1, y2, y3, y4, y5⟩ := plc_facts HP.out hi HE0.out
                obtain ⟨u1, u2, u3, u4, u5⟩ := plc_facts HP.out hi (HE0.out.alloc (.cells #[.int .i64 t] 3))
                rw [hvi.out] at y3 u3
                have u6 : (w5.alloc (.cells #[.int .i64 t] 3)).cell? ⟨gr, i, none⟩ = some (.slice Ai (rl p i) ci) := u3
                have hb0 := stepT_mk ⟨y1, y2, y4, y5⟩
                have hb1 := stepT_mk ⟨u1, u2, u4, u5⟩
                have HT5 := Lib.hid hT
                clear y1 y2 y4 y5 u1 u2 u4 u5 k1 k2 k3 k4 k5 k6 hS hT
                go_cut [83] (fun s wx => ∃ g cap w6, Hid (NextFin 112 w1.heap.size l p last gp A0 c0 (some ⟨b2, o2, none⟩) c2 (some ⟨gr, 0, none⟩) cR gr vs i t wo w6 g cap) ∧ wx = w6.setCell ⟨gr, i, none⟩ (.slice (some ⟨g, 0, none⟩) (rl p i + 1) cap))
                case first =>
                  refine wp_region_held_drew (S := StepT gp gr i (.slice (some ⟨gr, 0, none⟩) l.trains.length cR)) (by kernel_rfl) hb0 (fun _ => ?_)
                  refine wpAnyH_take (i := 0) (oi := _) (v := ?_) rfl (by kernel_rfl) (by kernel_rfl) (by kernel_rfl) (fun _ _ _ h => h) (Or.inl ⟨by rfl, ?_⟩) (by assumption) ?_
                  rotate_left 1
                  · intro w hSw
                    obtain ⟨hs1, hs2, hs3, hs4⟩ := hSw
                    go_simp
                    try with_reducible rfl
                  try simp only [Act.put, List.setIfInBounds_toArray, List.set_cons_zero, List.set_cons_succ]
                  refine wpAnyH_take (i := 1) (oi := _) (v := ?_) rfl (by kernel_rfl) (by kernel_rfl) (by kernel_rfl) (fun _ _ _ h => h) (Or.inl ⟨by rfl, ?_⟩) (by assumption) ?_
                  rotate_left 1
                  · intro w hSw
                    obtain ⟨hs1, hs2, hs3, hs4⟩ := hSw
                    go_simp
                    try with_reducible rfl
                  try simp only [Act.put, List.setIfInBounds_toArray, List.set_cons_zero, List.set_cons_succ]
                  refine wpAnyH_take (i := 2) (oi := _) (v := ?_) rfl (by kernel_rfl) (by kernel_rfl) (by kernel_rfl) (fun _ _ _ h => h) (Or.inl ⟨by rfl, ?_⟩) (by assumption) ?_
                  rotate_left 1
                  · intro w hSw
                    obtain ⟨hs1, hs2, hs3, hs4⟩ := hSw
                    go_simp
                    try with_reducible rfl
                  try simp only [Act.put, List.setIfInBounds_toArray, List.set_cons_zero, List.set_cons_succ]
                  refine wpAnyH_take (i := 3) (oi := _) (v := ?_) rfl (by kernel_rfl) (by kernel_rfl) (by kernel_rfl) (fun _ _ _ h => h) (Or.inl ⟨by rfl, ?_⟩) (by assumption) ?_
                  rotate_left 1
                  · intro w hSw
                    obtain ⟨hs1, hs2, hs3, hs4⟩ := hSw
                    go_simp
                    try with_reducible rfl
                  try simp only [Act.put, List.setIfInBounds_toArray, List.set_cons_zero, List.set_cons_succ]
                  refine wpAnyH_take (i := 4) (oi := _) (v := ?_) rfl (by kernel_rfl) (by kernel_rfl) (by kernel_rfl) (fun _ _ _ h => h) (Or.inl ⟨by rfl, ?_⟩) (by assumption) ?_
                  rotate_left 1
                  · intro w hSw
                    obtain ⟨hs1, hs2, hs3, hs4⟩ := hSw
                    go_simp
                    try with_reducible rfl
                  try simp only [Act.put, List.setIfInBounds_toArray, List.set_cons_zero, List.set_cons_succ]
                  refine wpAnyH_take (i := 5) (oi := _) (v := ?_) rfl (by kernel_rfl) (by kernel_rfl) (by kernel_rfl) (fun _ _ _ h => h) (Or.inl ⟨by rfl, ?_⟩) (by assumption) ?_
                  rotate_left 1
                  · intro w hSw
                    obtain ⟨hs1, hs2, hs3, hs4⟩ := hSw
                    go_simp
                    try with_reducible rfl
                  try simp only [Act.put, List.setIfInBounds_toArray, List.set_cons_zero, List.set_cons_succ]
                  refine wpAnyH_take (i := 6) (oi := _) (v := ?_) rfl (by kernel_rfl) (by kernel_rfl) (by kernel_rfl) (fun _ _ _ h => h) (Or.inl ⟨by rfl, ?_⟩) (by assumption) ?_
                  rotate_left 1
                  · intro w hSw
                    obtain ⟨hs1, hs2, hs3, hs4⟩ := hSw
                    go_simp
                    try with_reducible rfl
                  try simp only [Act.put, List.setIfInBounds_toArray, List.set_cons_zero, List.set_cons_succ]
                  refine wpAnyH_take (i := 7) (oi := _) (v := ?_) rfl (by kernel_rfl) (by kernel_rfl) (by kernel_rfl) (fun _ _ _ h => h) (Or.inl ⟨by rfl, ?_⟩) (by assumption) ?_
                  rotate_left 1
                  · intro w hSw
                    obtain ⟨hs1, hs2, hs3, hs4⟩ := hSw
                    go_simp
                    try with_reducible rfl
                  try simp only [Act.put, List.setIfInBounds_toArray, List.set_cons_zero, List.set_cons_succ]
                  refine wpAnyH_take (i := 8) (oi := _) (v := ?_) rfl (by kernel_rfl) (by kernel_rfl) (by kernel_rfl) (fun _ _ _ h => h) (Or.inl ⟨by rfl, ?_⟩) (by assumption) ?_
                  rotate_left 1
                  · intro w hSw
                    obtain ⟨hs1, hs2, hs3, hs4⟩ := hSw
                    go_simp
                    try with_reducible rfl
                  try simp only [Act.put, List.setIfInBounds_toArray, List.set_cons_zero, List.set_cons_succ]
                  refine wpAnyH_take (i := 9) (oi := _) (v := ?_) rfl (by kernel_rfl) (by kernel_rfl) (by kernel_rfl) (fun _ _ _ h => h) (Or.inl ⟨by rfl, ?_⟩) (by assumption) ?_
                  rotate_left 1
                  · intro w hSw
                    obtain ⟨hs1, hs2, hs3, hs4⟩ := hSw
                    go_simp
                    try with_reducible rfl
                  try simp only [Act.put, List.setIfInBounds_toArray, List.set_cons_zero, List.set_cons_succ]
                  refine wpAnyH_take (i := 10) (oi := _) (v := ?_) rfl (by kernel_rfl) (by kernel_rfl) (by kernel_rfl) (fun _ _ _ h => h) (Or.inl ⟨by rfl, ?_⟩) (by assumption) ?_
                  rotate_left 1
                  · intro w hSw
                    obtain ⟨hs1, hs2, hs3, hs4⟩ := hSw
                    go_simp
                    try with_reducible rfl
                  try simp only [Act.put, List.setIfInBounds_toArray, List.set_cons_zero, List.set_cons_succ]
                  refine wpAnyH_take (i := 12) (oi := _) (v := ?_) rfl (by kernel_rfl) (by kernel_rfl) (by kernel_rfl) (fun _ _ _ h => h) (Or.inl ⟨by rfl, ?_⟩) (by assumption) ?_
                  rotate_left 1
                  · intro w hSw
                    obtain ⟨hs1, hs2, hs3, hs4⟩ := hSw
                    go_simp
                    try with_reducible rfl
                  try simp only [Act.put, List.setIfInBounds_toArray, List.set_cons_zero, List.set_cons_succ]
                  refine wpAnyH_ready (rs := [11, 13]) (by kernel_rfl) (by simp) ?_
                  refine AllReadyH.cons rfl (fun K hK => ?_) ?_
                  · go_simp
                    refine hK.out _ _ hb0 (fun _ => ?_)
                    clear hK K
                    refine wpAnyH_ready (rs := [13]) (by kernel_rfl) (by simp) ?_
                    refine AllReadyH.cons rfl (fun K hK => ?_) AllReadyH.nil
                    go_simp
                    refine hK.out _ _ hb1 (fun _ => ?_)
                    clear hK K
                    refine wpAnyH_ready (rs := [14]) (by kernel_rfl) (by simp) ?_
                    refine AllReadyH.cons rfl (fun K hK => ?_) AllReadyH.nil
                    refine app_step rfl (.tmp 79) (.tmp 81) 23 rfl w1.heap.size 3 1 8 _ Try.underlying23 info3 rfl (by decide) _ _ _ rfl HO1.out hBd _ _ #[.int .i64 t] _ rfl (box_new _ _) rfl (one_int _) hN10 (by decide) _ rfl ?_
                    intro g cap w6 hown hgrow hg hlt6
                    have hgrow2 : (w5.drew.alloc (.cells #[.int .i64 t] 3)).grownBy w6 (vs i).ownBlock := gb_of hgrow rfl hvi.out.symm
                    have hg2 : (vs i).ownBlock = some g ∨ g = (w5.drew.alloc (.cells #[.int .i64 t] 3)).heap.size := ob_of (W := w5.drew.alloc (.cells #[.int .i64 t] 3)) hg rfl hvi.out.symm
                    obtain ⟨j1, j2, j3, j4, j5⟩ := plc_facts6 HP.out hi HE0.out hgrow2
                    have hb6 := stepT_mk ⟨j1, j2, j4, j5⟩
                    have hb7 := stepT_set (u := .slice (some ⟨g, 0, none⟩) (rl p i + 1) cap) hb6 hne
                    have HST := Lib.hid (nextFin_mk (x := t) HP.out hi HE0.out hown hgrow2 hg2)
                    clear hown hgrow hg hgrow2 hg2
                    refine hK.out _ _ hb6 (fun _ => ?_)
                    clear hK K
                    refine wpAnyH_take (i := 15) (oi := _) (v := ?_) rfl (by kernel_rfl) (by kernel_rfl) (by kernel_rfl) (fun _ _ _ h => h) (Or.inl ⟨by rfl, ?_⟩) (by assumption) ?_
                    rotate_left 1
                    · intro w hSw
                      obtain ⟨hs1, hs2, hs3, hs4⟩ := hSw
                      go_simp
                      try with_reducible rfl
                    try simp only [Act.put, List.setIfInBounds_toArray, List.set_cons_zero, List.set_cons_succ]
                    refine wpAnyH_ready (rs := [16]) (by kernel_rfl) (by simp) ?_
                    refine AllReadyH.cons rfl (fun K hK => ?_) AllReadyH.nil
                    go_simp
                    refine hK.out _ _ hb7 (fun _ => ?_)
                    clear hK K
                    refine wpAnyH_done (by kernel_rfl) ?_ _
                    go_wp2_with fail
                    go_meet
                    exact ⟨_, _, _, HST, rfl⟩
                  refine AllReadyH.cons rfl (fun K hK => ?_) AllReadyH.nil
                  go_simp
                  refine hK.out _ _ hb1 (fun _ => ?_)
                  clear hK K
                  refine wpAnyH_ready (rs := [11]) (by kernel_rfl) (by simp) ?_
                  refine AllReadyH.cons rfl (fun K hK => ?_) AllReadyH.nil
                  go_simp
                  refine hK.out _ _ hb1 (fun _ => ?_)
                  clear hK K
                  refine wpAnyH_ready (rs := [14]) (by kernel_rfl) (by simp) ?_
                  refine AllReadyH.cons rfl (fun K hK => ?_) AllReadyH.nil
                  refine app_step rfl (.tmp 79) (.tmp 81) 23 rfl w1.heap.size 3 1 8 _ Try.underlying23 info3 rfl (by decide) _ _ _ rfl HO1.out hBd _ _ #[.int .i64 t] _ rfl (box_new _ _) rfl (one_int _) hN10 (by decide) _ rfl ?_
                  intro g cap w6 hown hgrow hg hlt6
                  have hgrow2 : (w5.drew.alloc (.cells #[.int .i64 t] 3)).grownBy w6 (vs i).ownBlock := gb_of hgrow rfl hvi.out.symm
                  have hg2 : (vs i).ownBlock = some g ∨ g = (w5.drew.alloc (.cells #[.int .i64 t] 3)).heap.size := ob_of (W := w5.drew.alloc (.cells #[.int .i64 t] 3)) hg rfl hvi.out.symm
                  obtain ⟨j1, j2, j3, j4, j5⟩ := plc_facts6 HP.out hi HE0.out hgrow2
                  have hb6 := stepT_mk ⟨j1, j2, j4, j5⟩
                  have hb7 := stepT_set (u := .slice (some ⟨g, 0, none⟩) (rl p i + 1) cap) hb6 hne
                  have HST := Lib.hid (nextFin_mk (x := t) HP.out hi HE0.out hown hgrow2 hg2)
                  clear hown hgrow hg hgrow2 hg2
                  refine hK.out _ _ hb6 (fun _ => ?_)
                  clear hK K
                  refine wpAnyH_take (i := 15) (oi := _) (v := ?_) rfl (by kernel_rfl) (by kernel_rfl) (by kernel_rfl) (fun _ _ _ h => h) (Or.inl ⟨by rfl, ?_⟩) (by assumption) ?_
                  rotate_left 1
                  · intro w hSw
                    obtain ⟨hs1, hs2, hs3, hs4⟩ := hSw
                    go_simp
                    try with_reducible rfl
                  try simp only [Act.put, List.setIfInBounds_toArray, List.set_cons_zero, List.set_cons_succ]
                  refine wpAnyH_ready (rs := [16]) (by kernel_rfl) (by simp) ?_
                  refine AllReadyH.cons rfl (fun K hK => ?_) AllReadyH.nil
                  go_simp
                  refine hK.out _ _ hb7 (fun _ => ?_)
                  clear hK K
                  refine wpAnyH_done (by kernel_rfl) ?_ _
                  go_wp2_with fail
                  go_meet
                  exact ⟨_, _, _, HST, rfl⟩
                case rest =>
                  obtain ⟨g, cap, w6, HST, rfl⟩ := hcut
                  obtain ⟨c6p, f6p, l6p⟩ := HST.out.cells
                  clear y3 u3 u6
                  obtain ⟨hP5, hC5, _⟩ := HST.out.post
                  have HP5 := Lib.hid hP5
                  have hTT := HSo.out.below (hC5.below (fun g hg => by
                    rcases hg with rfl | rfl | h
                    · exact HP.out.lop
                    · exact HP.out.lor
                    · exact ((HP.out.own i hi).lt g h).1) HP.out.lo_le) (by omega) (lt2 (by omega) (by omega))
                  clear hP5 hC5
                  go_wp2_with fail
                  exact ⟨⟨k + 1, _, _, _, by omega, by go_num, HP5.out, hG5.out, hTT⟩, (by simp [intOf]; omega)⟩
            · have hq : ((rl p i : Int) == ((l.tr i).legs.length : Int)) = true := by simp; omega
              have hstE := Lib.hid (HG.out.stop HR.out h10 (placeS_two hx.out (fun h => hf h.2.2)) (by decide))
              go_upto_region 7 with fail
              go_quiet ((go_at_call 79; exact Calls.quiet_of_same (HIN.out _)))
              have hXf := fun (x y z : Value) (n : Nat) => ((hS.drewN n).set3 (x := x) (y := y) (z := z) (by omega)).ext
              go_wp2_with fail
              exact bodyPost_ret (v := placedV 2 k (.slice none 0 0)) (by simp [results, Try.results59, go_sem, placedV, k1, k2, k3, k4, k5, k6, fr]) rfl ⟨placed_stop hstE.out, hXf _ _ _ _⟩
          · have hinb : inB x 0 ((l.trains.length : Int) - 1) = false := inB_false.2 hin
            have HIN := Lib.hid (fun W => in_q hinb W)
            have hstE := Lib.hid (HG.out.stop HR.out h10 (placeS_two hx.out (fun h => hin ⟨h.1, by omega⟩)) (by decide))
            go_upto_region 7 with fail
            go_quiet ((go_at_call 79; exact Calls.quiet_of_same (HIN.out _)))
            have hXf := fun (x y z : Value) (n : Nat) => ((hS.drewN n).set3 (x := x) (y := y) (z := z) (by omega)).ext
            go_wp2_with fail
            exact bodyPost_ret (v := placedV 2 k (.slice none 0 0)) (by simp [results, Try.results59, go_sem, placedV, k1, k2, k3, k4, k5, k6, fr]) rfl ⟨placed_stop hstE.out, hXf _ _ _ _⟩
        · obtain rfl : k = order.length := by omega
          have hdone := Lib.hid (HG.out.done HR.out h10)
          have hful := Lib.hid HG.out.full
          have HPL := Lib.hid HP.out.rows
          obtain ⟨wo, rfl⟩ : ∃ wo, wo = wr := ⟨_, rfl⟩
          have hwo : w.heap.size + 1 < wo.heap.size := k4
          have hww : w1.heap.size ≤ wo.heap.size := HP.out.lo_le
          go_wp2_with fail
          clear k1 k2 k3 k4 k5 k6
          go_loopw [92] (fun j wr => ∃ (m : Nat), m ≤ l.trains.length ∧ j = .int .i64 m ∧ Hid (∀ i, i < m → rl p i = (l.tr i).legs.length) ∧ Hid (Ext wo wr) ∧ Lp w wr [(w.heap.size + 1, #[.int .i64 0, .int .i64 0, .slice none 0 0], 73), (w.heap.size, #[.slice A0 l.tracks.length c0, .int .i64 l.gap, .slice A2 l.trains.length c2], 33)]) (fun j _ => l.trains.length - (intOf j).toNat)
          case atStart => exact ⟨0, Nat.zero_le _, rfl, fun i hi => absurd hi (by omega), Ext.refl _, hS⟩
          case round =>
            clear hS
            obtain ⟨m, hm, rfl, HFU, HEX, hS⟩ := hrel
            obtain ⟨k1, k2, k3, k4, k5, k6⟩ := hS.open2
            by_cases hlm : m < l.trains.length
            · obtain ⟨e0, e1, e2, e3, e4, hbl⟩ := HSL.out.train m hlm
              obtain ⟨rfl, hb2⟩ := HSL.out.base2 (by omega)
              have hlen := HG.out.good.len m hlm
              have hlen' : rl p m ≤ (l.tr m).legs.length := hlen
              have n10 := HO.out.bd.nl1 m hlm
              clear hbl hlen
              go_upto_region 18 with fail
              have hS1 := hS.newAt #[.int .i64 (l.tr m).frm, .int .i64 (l.tr m).ready, .int .i64 (l.tr m).due, .int .i64 (l.tr m).weight, .slice (some ⟨bl m, ol m, none⟩) (l.tr m).legs.length (cl m)] 80 rfl
              have HE1 : Hid (Ext wo (wr.alloc (.cells #[.int .i64 (l.tr m).frm, .int .i64 (l.tr m).ready, .int .i64 (l.tr m).due, .int .i64 (l.tr m).weight, .slice (some ⟨bl m, ol m, none⟩) (l.tr m).legs.length (cl m)] 80))) := HEX.out.alloc _
              clear k1 k2 k3 k4 k5 k6
              have hbx : wr.heap.size = wr.heap.size := rfl
              generalize wr.alloc (.cells #[.int .i64 (l.tr m).frm, .int .i64 (l.tr m).ready, .int .i64 (l.tr m).due, .int .i64 (l.tr m).weight, .slice (some ⟨bl m, ol m, none⟩) (l.tr m).legs.length (cl m)] 80) = wa at hS1 HE1 ⊢
              obtain ⟨k1, k2, k3, k4, k5, k6, k7, k8⟩ := hS1.open3
              have R1 := HP.out.rd.ext HE1.out
              obtain ⟨Ai, ci, r0, hbi⟩ := R1.row m hlm
              have p3 := R1.b3
              have hgp := R1.lt
              obtain ⟨rfl, hgr⟩ := R1.base (by omega)
              clear hbi R1
              by_cases hf : rl p m < (l.tr m).legs.length
              · have hq : decide ((rl p m : Int) < ((l.tr m).legs.length : Int)) = true := by simp; omega
                have hlen : ¬ order.length = legsAll l := fun h => by have := hful.out.1 h m hlm; have e : (p.getD m []).length = rl p m := rfl; omega
                have hst : Hid (placeA l order = (((4, (order.length : Int)), []) : PlR)) := by unfold Hid; rw [hdone.out, if_neg hlen]
                clear hlen
                go_quiet (fail)
                have fr := box_frozen (hS1.box (w.heap.size + 1, #[.int .i64 0, .int .i64 0, .slice none 0 0], 73) (by simp))
                have hXf := fun (x y z : Value) (n : Nat) => (((hS1.tail).drewN n).set3 (x := x) (y := y) (z := z) (by omega)).ext
                go_wp2_with fail
                exact bodyPost_ret (v := placedV 4 (order.length : Int) (.slice none 0 0)) (by simp [results, Try.results59, go_sem, placedV, k1, k2, k3, k4, k5, k6, k7, k8, fr]) rfl ⟨placed_stop hst.out, hXf _ _ _ _⟩
              · have hq : decide ((rl p m : Int) < ((l.tr m).legs.length : Int)) = false := by simp; omega
                have HF1 : Hid (∀ i, i < m + 1 → rl p i = (l.tr i).legs.length) := fun i hi => by
                  by_cases e : i = m
                  · subst e; omega
                  · exact HFU.out i (by omega)
                have hS := hS1.tail
                go_quiet (fail)
                go_wp2_with fail
                exact ⟨⟨m + 1, by omega, by go_num, HF1.out, HE1.out.drewN _, (by repeat (first | (with_reducible exact hS) | apply Lp.alloc | apply Lp.drewN | apply Lp.drew))⟩, (by simp [intOf]; omega)⟩
            · obtain rfl : m = l.trains.length := by omega
              have hlen : order.length = legsAll l := hful.out.2 (fun i hi => HFU.out i hi)
              have hst : Hid (placeA l order = (((0, 0), p) : PlR)) := by unfold Hid; rw [hdone.out, if_pos hlen]
              have HLE := Lib.hid hlen; clear hlen
              have R1 := HP.out.rd.ext HEX.out
              have p3 := R1.b3
              have hgp := R1.lt
              have HP5 := Lib.hid (HP.out.prows.ext HEX.out)
              clear R1
              have fr := box_frozen (hS.box (w.heap.size + 1, #[.int .i64 0, .int .i64 0, .slice none 0 0], 73) (by simp))
              have hXf := fun (x y z : Value) => (hS.set3 (x := x) (y := y) (z := z) (by omega)).ext
              go_wp2_with fail
              exact bodyPost_ret (v := placedV 0 0 (.slice AR l.trains.length cR)) (by simp [results, Try.results59, go_sem, placedV, k1, k2, k3, k4, k5, k6, fr]) rfl ⟨⟨AR, cR, gr, vs, by rw [hst.out]; simp only []; rw [HPL.out], by rw [hst.out]; exact (((HP5.out.set_far (by omega) _ _).set_far (by omega) _ _).set_far (by omega) _ _).mono (by omega)⟩, hXf _ _ _⟩
  · have hst : Hid (placeA l order = (((1, 0), []) : PlR)) := placeA_one hr
    have hrb : right l = true ∧ ¬ order.length ≤ 10 ∨ right l = false := by
      by_cases e : right l = true
      · exact Or.inl ⟨e, fun h => hr ⟨e, h⟩⟩
      · exact Or.inr (by simpa using e)
    clear hr h0 h2 ho
    rcases hrb with ⟨hrt, h10⟩ | hrf
    · have HR := Lib.hid hrt
      have hd10 : decide ((10 : Int) < (order.length : Int)) = true := by simp; omega
      clear hrt
      go_enter Try.func59, Try.ntmps59
      go_wp2_with fail
      refine (right_any (HL.out _ (by repeat (first | (with_reducible assumption) | (with_reducible exact Ext.refl _) | apply Ext.alloc | apply Ext.drewN | apply Ext.drew))) hs0.out).mono ?_
      rw [HR.out]
      rintro e w1 ⟨rfl, hE⟩
      have hS := (((Lp.nil w).newAt (g := w.heap.size) #[.slice A0 l.tracks.length c0, .int .i64 l.gap, .slice A2 l.trains.length c2] 33 rfl).newAt (g := w.heap.size + 1) #[.int .i64 0, .int .i64 0, .slice none 0 0] 73 (by rw [alloc_size])).trans hE
      obtain ⟨k1, k2, k3, k4, k5, k6⟩ := hS.open2
      have fr := box_frozen (hS.box (w.heap.size + 1, #[.int .i64 0, .int .i64 0, .slice none 0 0], 73) (by simp))
      have hXf := fun (x y z : Value) => (hS.set3 (x := x) (y := y) (z := z) (by omega)).ext
      go_wp2_with fail
      exact bodyPost_ret (v := placedV 1 0 (.slice none 0 0)) (by simp [results, Try.results59, go_sem, placedV, k1, k2, k3, k4, k5, k6, fr]) rfl ⟨placed_stop hst.out, hXf _ _ _⟩
    · have HR := Lib.hid hrf
      clear hrf
      go_enter Try.func59, Try.ntmps59
      go_wp2_with fail
      refine (right_any (HL.out _ (by repeat (first | (with_reducible assumption) | (with_reducible exact Ext.refl _) | apply Ext.alloc | apply Ext.drewN | apply Ext.drew))) hs0.out).mono ?_
      rw [HR.out]
      rintro e w1 ⟨rfl, hE⟩
      have hS := (((Lp.nil w).newAt (g := w.heap.size) #[.slice A0 l.tracks.length c0, .int .i64 l.gap, .slice A2 l.trains.length c2] 33 rfl).newAt (g := w.heap.size + 1) #[.int .i64 0, .int .i64 0, .slice none 0 0] 73 (by rw [alloc_size])).trans hE
      obtain ⟨k1, k2, k3, k4, k5, k6⟩ := hS.open2
      have fr := box_frozen (hS.box (w.heap.size + 1, #[.int .i64 0, .int .i64 0, .slice none 0 0], 73) (by simp))
      have hXf := fun (x y z : Value) => (hS.set3 (x := x) (y := y) (z := z) (by omega)).ext
      go_wp2_with fail
      exact bodyPost_ret (v := placedV 1 0 (.slice none 0 0)) (by simp [results, Try.results59, go_sem, placedV, k1, k2, k3, k4, k5, k6, fr]) rfl ⟨placed_stop hst.out, hXf _ _ _⟩
end Go.Proofs.Ythhkbfjolmgloaa
