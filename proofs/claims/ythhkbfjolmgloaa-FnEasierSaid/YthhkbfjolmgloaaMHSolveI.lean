/- impl.Solve answers the best of all plans that can be. Condition: the line holds at most 2^20 values. -/
import Derived.Test.YthhkbfjolmgloaaMHSolveD
import Derived.Test.YthhkbfjolmgloaaMHSolveE
import Derived.Test.YthhkbfjolmgloaaML17a
namespace Go.Proofs.Ythhkbfjolmgloaa
open Go.RowKit Go.Deep
set_option linter.unusedVariables false
set_option linter.unusedSimpArgs false
theorem lookI_any {l : Line} {B gl gq gb gf gp gr : Nat} {A0 : Option Addr} {c0 : Nat} {A2 : Option Addr} {c2 : Nat} {AR : Option Addr} {cR : Nat} (O : Ok l) (hgb : B ≤ gb) : ∀ n : Nat, LookI l B gl gq gb gf gp gr A0 c0 A2 c2 AR cR n := by
  intro n
  induction n with
  | zero =>
    intro w p last vs acc X P F G hn h10 hl hA
    by_cases hov : over (floorS l p 0) acc = true
    · exact step87_over O hgb X P F G hn h10 hl hA hov
    · exact step87_end O hgb X P F G hn h10 hl hA (by simpa using hov)
  | succ n ih =>
    intro w p last vs acc X P F G hn h10 hl hA
    by_cases hov : over (floorS l p 0) acc = true
    · exact step87_over O hgb X P F G hn h10 hl hA hov
    · exact step87_more O hgb ih X P F G hn h10 hl hA (by simpa using hov)
/-- impl's placer, wherever its parts were made: nothing is placed. -/
theorem plc_fresh {w W : World} {l : Line} {A0 : Option Addr} {c0 : Nat} {A2 : Option Addr} {c2 gp gr : Nat} (hl : ∀ W', Below w.heap.size W W' → IsLine W' l (.agg #[.slice A0 l.tracks.length c0, .int .i64 l.gap, .slice A2 l.trains.length c2])) (n5 : l.trains.length ≤ 5)
    (hp : W.heap[gp]? = some (.cells #[.slice A0 l.tracks.length c0, .int .i64 l.gap, .slice A2 l.trains.length c2, .slice (some ⟨gr, 0, none⟩) l.trains.length l.trains.length, .int .i64 0] 112 (0, 0))) (hr : W.heap[gr]? = some (.cells (Array.replicate l.trains.length (Value.slice none 0 0)) 23 (0, 0))) (h1 : w.heap.size ≤ gp) (h2 : w.heap.size ≤ gr) (hne : gp ≠ gr) :
    Plc W w.heap.size 112 l (List.replicate l.trains.length []) 0 gp A0 c0 A2 c2 (some ⟨gr, 0, none⟩) l.trains.length gr (fun _ => .slice none 0 0) :=
  ⟨hl, hp, fun _ => ⟨rfl, _, hr, fun i hi => by simp [hi]⟩, fun i _ => by rw [rl_replicate, getD_replicate_nil]; exact World.ownsRow_nil _ _ _ _, (fun i j g _ _ _ h => by cases h), (fun i g _ h => by cases h), by simp, h1, h2, hne⟩
theorem alloc3 (w : World) (a b c : Obj) : (((w.alloc a).alloc b).alloc c).drew.heap[w.heap.size]? = some a ∧ (((w.alloc a).alloc b).alloc c).drew.heap[w.heap.size + 1]? = some b ∧ (((w.alloc a).alloc b).alloc c).drew.heap[w.heap.size + 1 + 1]? = some c := by
  have h1 : (((w.alloc a).alloc b).alloc c).heap[w.heap.size]? = some a := box_old (box_old (box_new w a) b) c
  have h2 : (((w.alloc a).alloc b).alloc c).heap[w.heap.size + 1]? = some b := box_old (heap_alloc2_new w a b) c
  have h3 : (((w.alloc a).alloc b).alloc c).heap[w.heap.size + 1 + 1]? = some c := heap_alloc2_new (w.alloc a) b c |> fun h => by rwa [alloc_size] at h
  exact ⟨h1, h2, h3⟩
theorem box_newAt {w : World} {o : Obj} {g : Nat} (h : w.heap.size = g) : (w.alloc o).heap[g]? = some o := by subst h; exact box_new w o
set_option maxRecDepth 100000 in
set_option maxHeartbeats 8000000 in
theorem impl_Solve_any {w : World} {l : Line} {u : Value} (hl : IsLine w l u) (hs : l.size ≤ 1048576) :
    Calls Try.prog 29 #[u] w fun e w' => BestIs w.heap.size (solveR l) e w' ∧ Ext w w' := by
  have HL := Lib.hid (fun (W : World) (e : Ext w W) => hl.ext e)
  obtain ⟨A0, c0, A2, c2, rfl, h0, h2⟩ := hl
  have hs0 := Lib.hid hs; clear hs
  by_cases hr : right l = true
  · have HR := Lib.hid hr
    have O := right_iff.1 hr
    have HO := Lib.hid O
    have n5 := O.bd.n5
    have hten := legsAll_ten O
    have hsol : Hid (solveR l = lookS l (fun _ => 0) (legsAll l) (List.replicate l.trains.length []) 0 none) := by
      unfold Hid solveR
      rw [if_pos hr]
      exact solve_same O O.sum10 (fl := id) (fl' := fun _ => 0) (fun x _ => Int.le_refl x) (fun x hx => hx)
    have hmk := make_any 40 23 _ 1 24 Try.underlying40 info23 rfl l.trains.length (by omega) (by omega)
    rw [flat_nils] at hmk
    clear hr O h0 h2
    go_enter Try.func29, Try.ntmps29
    go_wp2_with fail
    refine (right_any (HL.out _ (by repeat (first | (with_reducible assumption) | (with_reducible exact Ext.refl _) | apply Ext.alloc | apply Ext.drewN | apply Ext.drew))) hs0.out).mono ?_
    rw [HR.out]
    rintro e w1 ⟨rfl, hE⟩
    have hS := (((Lp.nil w).newAt (g := w.heap.size) #[.slice A0 l.tracks.length c0, .int .i64 l.gap, .slice A2 l.trains.length c2] 33 rfl).newAt (g := w.heap.size + 1) #[.bool false, .int .i64 0, .slice none 0 0] 44 (by rw [alloc_size])).trans hE
    obtain ⟨k1, k2, k3, k4, k5, k6⟩ := hS.open2
    clear hE
    go_upto_region 4 with fail
    have hS1 := hS.newAt (g := w1.heap.size) #[.bool false, .int .i64 0, .slice none 0 0] 44 rfl
    generalize w1.alloc (.cells #[.bool false, .int .i64 0, .slice none 0 0] 44) = wa at hS1 ⊢
    have hws := k4
    have hw0 := hS.ext.size
    clear hS k1 k2 k3 k4 k5 k6
    obtain ⟨m1, m2, m3, m4, m5, m6, m7, m8⟩ := hS1.open3
    go_cut [4] (fun s wx => ∃ gq gp gr, s = .pointer (some ⟨gq, 0, none⟩) ∧ wx.heap[gq]? = some (.cells #[.pointer (some ⟨gp, 0, none⟩)] 110 (0, 0)) ∧ wx.heap[gp]? = some (.cells #[.slice A0 l.tracks.length c0, .int .i64 l.gap, .slice A2 l.trains.length c2, .slice (some ⟨gr, 0, none⟩) l.trains.length l.trains.length, .int .i64 0] 112 (0, 0)) ∧ wx.heap[gr]? = some (.cells (Array.replicate l.trains.length (Value.slice none 0 0)) 23 (0, 0)) ∧ (wa.heap.size ≤ gp ∧ wa.heap.size ≤ gr ∧ wa.heap.size ≤ gq ∧ gp ≠ gr ∧ gq ≠ gp ∧ gq ≠ gr) ∧ Ext wa wx)
    case first =>
      go_region
      all_goals (
        go_wp2_with fail
        go_meet
        first
          | exact ⟨_, wa.heap.size + 1, wa.heap.size, rfl, (alloc3 wa _ _ _).2.2, (alloc3 wa _ _ _).2.1, (alloc3 wa _ _ _).1, by omega, (by repeat (first | (with_reducible assumption) | (with_reducible exact Ext.refl _) | apply Ext.alloc | apply Ext.drewN | apply Ext.drew))⟩
          | exact ⟨_, wa.heap.size + 1 + 1, wa.heap.size, rfl, (alloc3 wa _ _ _).2.1, (alloc3 wa _ _ _).2.2, (alloc3 wa _ _ _).1, by omega, (by repeat (first | (with_reducible assumption) | (with_reducible exact Ext.refl _) | apply Ext.alloc | apply Ext.drewN | apply Ext.drew))⟩
          | exact ⟨_, wa.heap.size + 1 + 1, wa.heap.size + 1, rfl, (alloc3 wa _ _ _).1, (alloc3 wa _ _ _).2.2, (alloc3 wa _ _ _).2.1, by omega, (by repeat (first | (with_reducible assumption) | (with_reducible exact Ext.refl _) | apply Ext.alloc | apply Ext.drewN | apply Ext.drew))⟩)
    case rest =>
      obtain ⟨gq, gp, gr, rfl, bq, bp, br, hdis, hE4⟩ := hcut
      have hL4 := hS1.trans hE4
      clear m1 m2 m3 m4 m5 m6 m7 m8 hmk
      have hmf : ∀ W : World, (Instr.makeFunc (.func 87) #[] #[.pointer (some ⟨w.heap.size, 0, none⟩), .pointer (some ⟨gq, 0, none⟩), .pointer (some ⟨w1.heap.size, 0, none⟩), .pointer (some ⟨wc.heap.size, 0, none⟩)]).run Try.prog W = .ok (.func (.func 87) #[] #[.pointer (some ⟨w.heap.size, 0, none⟩), .pointer (some ⟨gq, 0, none⟩), .pointer (some ⟨w1.heap.size, 0, none⟩), .pointer (some ⟨wc.heap.size, 0, none⟩)]) W := fun _ => rfl
      have hsf := fun (a : Addr) (c : Array Value) (w : World) => run_store Try.prog w a (.func (.func 87) #[] c) .plain rfl
      go_upto_region 7 with fail
      have hL5 := hL4.newAt (g := wc.heap.size) #[.func (.func 87) #[] #[.pointer (some ⟨w.heap.size, 0, none⟩), .pointer (some ⟨gq, 0, none⟩), .pointer (some ⟨w1.heap.size, 0, none⟩), .pointer (some ⟨wc.heap.size, 0, none⟩)]] 1 rfl
      have e5 : Ext wc (wc.alloc (.cells #[.func (.func 87) #[] #[.pointer (some ⟨w.heap.size, 0, none⟩), .pointer (some ⟨gq, 0, none⟩), .pointer (some ⟨w1.heap.size, 0, none⟩), .pointer (some ⟨wc.heap.size, 0, none⟩)]] 1)) := (Ext.refl wc).alloc _
      generalize wc.alloc (.cells #[.func (.func 87) #[] #[.pointer (some ⟨w.heap.size, 0, none⟩), .pointer (some ⟨gq, 0, none⟩), .pointer (some ⟨w1.heap.size, 0, none⟩), .pointer (some ⟨wc.heap.size, 0, none⟩)]] 1) = w5 at hL5 e5 ⊢
      have hwa : w1.heap.size < wa.heap.size := box_lt (hS1.box (w1.heap.size, #[.bool false, .int .i64 0, .slice none 0 0], 44) (by simp))
      have lq := box_lt bq
      have lp := box_lt bp
      have lr := box_lt br
      have hbg := hL5.box (w1.heap.size, #[.bool false, .int .i64 0, .slice none 0 0], 44) (by simp)
      have hbf := hL5.box (wc.heap.size, #[.func (.func 87) #[] #[.pointer (some ⟨w.heap.size, 0, none⟩), .pointer (some ⟨gq, 0, none⟩), .pointer (some ⟨w1.heap.size, 0, none⟩), .pointer (some ⟨wc.heap.size, 0, none⟩)]], 1) (by simp)
      have HX : Hid (SrBx w5 l A0 c0 A2 c2 w.heap.size gq w1.heap.size wc.heap.size gp gr) := ⟨hL5.box (w.heap.size, #[.slice A0 l.tracks.length c0, .int .i64 l.gap, .slice A2 l.trains.length c2], 33) (by simp), e5.box bq, hbf, by omega, by omega, by omega, by omega⟩
      have HP : Hid (Plc w5 w1.heap.size 112 l (List.replicate l.trains.length []) 0 gp A0 c0 A2 c2 (some ⟨gr, 0, none⟩) l.trains.length gr (fun _ => .slice none 0 0)) := plc_fresh (w := w1) (fun W' hW => HL.out _ (Below.trans hL5.ext (Below.mono hW hw0))) n5 (e5.box bp) (e5.box br) (by omega) (by omega) (by omega)
      have HCL := Lib.hid (lookI_any (A0 := A0) (c0 := c0) (A2 := A2) (c2 := c2) (AR := some ⟨gr, 0, none⟩) (cR := l.trains.length) HO.out (Nat.le_refl w1.heap.size) (legsAll l) w5 _ 0 _ none HX.out HP.out (fun i g _ h => by cases h) (Good.start l) (legsAll_eq l) hten (by omega) ⟨false, 0, none, 0, 0, hbg, rfl, rfl, rfl, rfl, rfl⟩)
      have v1 := box_cell hbf 0
      have v2 := box_lt hbf
      have HBG := Lib.hid hbg
      clear hbg hbf bq bp br hE4 hL4 hS1 e5
      go_wp2_with fail
      refine HCL.out.mono ?_
      rintro e w6 ⟨⟨v6, rfl⟩, vs6, hP6, _, hB6, hC6⟩
      have hS6 : ∀ g, SrS w1.heap.size gp gr l.trains.length (fun _ => Value.slice none 0 0) g → g = w1.heap.size ∨ g = gp ∨ g = gr := by
        rintro g (e | e | e | ⟨i, _, e⟩)
        · exact Or.inl e
        · exact Or.inr (Or.inl e)
        · exact Or.inr (Or.inr e)
        · cases e
      have hX6 : Ext w w6 := Below.trans hL5.ext (hC6.below (fun g h => by have := hS6 g h; omega) hL5.ext.size)
      have hT : Lp w w6 [(w.heap.size + 1, #[.bool false, .int .i64 0, .slice none 0 0], 44), (w.heap.size, #[.slice A0 l.tracks.length c0, .int .i64 l.gap, .slice A2 l.trains.length c2], 33)] := ⟨hX6, fun x hx => by
        simp only [List.mem_cons, List.not_mem_nil, or_false] at hx
        rcases hx with rfl | rfl
        · exact hC6.box (hL5.box (w.heap.size + 1, #[.bool false, .int .i64 0, .slice none 0 0], 44) (by simp)) (fun h => by have := hS6 _ h; omega)
        · exact hC6.box (hL5.box (w.heap.size, #[.slice A0 l.tracks.length c0, .int .i64 l.gap, .slice A2 l.trains.length c2], 33) (by simp)) (fun h => by have := hS6 _ h; omega)⟩
      obtain ⟨acc, hacc⟩ : ∃ acc, Hid (lookS l (fun _ => 0) (legsAll l) (List.replicate l.trains.length []) 0 none = acc) := ⟨_, rfl⟩
      rw [hacc.out] at hB6
      have hres : Hid (solveR l = acc) := by unfold Hid; rw [hsol.out, hacc.out]
      obtain ⟨k1, k2, k3, k4, k5, k6⟩ := hT.open2
      have fr := box_frozen (hT.box (w.heap.size + 1, #[.bool false, .int .i64 0, .slice none 0 0], 44) (by simp))
      obtain ⟨ok, c, AP, n, cP, hb6, hm⟩ := hB6
      have s0 := box_cell hb6 0
      have s1 := box_cell hb6 1
      have s2 := box_cell hb6 2
      have hgs := box_lt hb6
      have hXf := fun (x y z : Value) => (hT.set3 (x := x) (y := y) (z := z) (by omega)).ext
      clear hb6 hP6 hC6 v1 v2
      go_wp2_with fail
      refine bodyPost_ret (v := bestV ok c (.slice AP n cP)) (by simp [results, Try.results29, go_sem, bestV, k1, k2, k3, k4, k5, k6, fr]) rfl ⟨?_, hXf _ _ _⟩
      cases acc with
      | none =>
        obtain ⟨rfl, rfl, rfl, rfl, rfl⟩ := hm
        exact best_none hres.out
      | some cb =>
        obtain ⟨c', b⟩ := cb
        obtain ⟨rfl, rfl, rfl, _, grb, vsb, hPb, hn1, hn2⟩ := hm
        exact best_some hres.out ((((hPb.set_far (by omega) _ _).set_far (by omega) _ _).set_far (by omega) _ _).mono (by omega))
  · have hrf : right l = false := by simpa using hr
    have HR := Lib.hid hrf
    have hsol : Hid (solveR l = none) := by unfold Hid solveR; rw [if_neg hr]
    clear hrf hr h0 h2
    go_enter Try.func29, Try.ntmps29
    go_wp2_with fail
    refine (right_any (HL.out _ (by repeat (first | (with_reducible assumption) | (with_reducible exact Ext.refl _) | apply Ext.alloc | apply Ext.drewN | apply Ext.drew))) hs0.out).mono ?_
    rw [HR.out]
    rintro e w1 ⟨rfl, hE⟩
    have hS := (((Lp.nil w).newAt (g := w.heap.size) #[.slice A0 l.tracks.length c0, .int .i64 l.gap, .slice A2 l.trains.length c2] 33 rfl).newAt (g := w.heap.size + 1) #[.bool false, .int .i64 0, .slice none 0 0] 44 (by rw [alloc_size])).trans hE
    obtain ⟨k1, k2, k3, k4, k5, k6⟩ := hS.open2
    have fr := box_frozen (hS.box (w.heap.size + 1, #[.bool false, .int .i64 0, .slice none 0 0], 44) (by simp))
    have hXf := fun (x y z : Value) => (hS.set3 (x := x) (y := y) (z := z) (by omega)).ext
    go_wp2_with fail
    exact bodyPost_ret (v := bestV false 0 (.slice none 0 0)) (by simp [results, Try.results29, go_sem, bestV, k1, k2, k3, k4, k5, k6, fr]) rfl ⟨best_none hsol.out, hXf _ _ _⟩
end Go.Proofs.Ythhkbfjolmgloaa
