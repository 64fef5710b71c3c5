/- spec.l5Cur.next and pick answer the plain choices of a code. Condition: few were read so far; at most 200 to choose from.
   How an argument of bytes, read as data, lies in memory. No condition. -/
import Derived.Test.YthhkbfjolmgloaaM2L9a
import Derived.Test.YthhkbfjolmgloaaML13a
import Derived.IntWalk
import Derived.BigQuiet
import Derived.Deep.QuietTactic
import Derived.StillTailTactics
import Derived.Deep.DeepCutAuto
import Derived.Deep.RegionHeld3
import Derived.Test.YthhkbfjolmgloaaML0a
namespace Go.Proofs.Ythhkbfjolmgloaa
open Go.RowKit
set_option linter.unusedVariables false
set_option linter.unusedSimpArgs false
def AtByte (w : World) (b o : Nat) (x : Int) : Prop := w.cell? ⟨b, o, none⟩ = some (.int .u8 x)
abbrev RdByte (w : World) (A : Option Addr) (xs : List Int) : Prop := Rd AtByte w A xs 1
theorem RdByte.at_ {w : World} {b off : Nat} {xs : List Int} (h : RdByte w (some ⟨b, off, none⟩) xs) {j : Nat} {x : Int} (hx : xs[j]? = some x) : w.cell? ⟨b, off + j, none⟩ = some (.int .u8 x) := by
  have := Rd.at_ h hx
  rwa [Nat.mul_one] at this
theorem RdByte.ext {w w' : World} {A : Option Addr} {xs : List Int} (h : RdByte w A xs) (e : Ext w w') : RdByte w' A xs := Rd.ext (fun b o x hb h => (e.cells.1 b o hb).trans h) h e
/-- A reader of choices, in its box. -/
def CurIs (w : World) (gc : Nat) (code : List Int) (A : Option Addr) (cA : Nat) (c : Cu) : Prop := w.heap[gc]? = some (.cells #[.slice A code.length cA, .int .i64 c.pos, .int .u64 c.seed] 101 (0, 0))
theorem cur_set12 {w : World} {gc : Nat} {code : List Int} {A : Option Addr} {cA : Nat} {c : Cu} (h : CurIs w gc code A cA c) (n : Nat) (y : Int) : CurIs (((w.drewN n).setCell ⟨gc, 1, none⟩ (.int .i64 ((c.pos : Int) + 1))).setCell ⟨gc, 2, none⟩ (.int .u64 y)) gc code A cA ⟨c.pos + 1, y⟩ ∧ Chg (fun g => g = gc) w (((w.drewN n).setCell ⟨gc, 1, none⟩ (.int .i64 ((c.pos : Int) + 1))).setCell ⟨gc, 2, none⟩ (.int .u64 y)) := by
  have h' : (w.drewN n).heap[gc]? = some (.cells #[.slice A code.length cA, .int .i64 c.pos, .int .u64 c.seed] 101 (0, 0)) := h
  refine ⟨?_, ((Chg.of_ext (S := fun g => g = gc) ((Ext.refl w).drewN n)).setCell (Or.inl rfl) _ _).setCell (Or.inl rfl) _ _⟩
  unfold CurIs
  rw [box_set (box_set h' _ _) _ _]
  rfl
theorem cur_set21 {w : World} {gc : Nat} {code : List Int} {A : Option Addr} {cA : Nat} {c : Cu} (h : CurIs w gc code A cA c) (n : Nat) (y : Int) : CurIs (((w.drewN n).setCell ⟨gc, 2, none⟩ (.int .u64 y)).setCell ⟨gc, 1, none⟩ (.int .i64 ((c.pos : Int) + 1))) gc code A cA ⟨c.pos + 1, y⟩ ∧ Chg (fun g => g = gc) w (((w.drewN n).setCell ⟨gc, 2, none⟩ (.int .u64 y)).setCell ⟨gc, 1, none⟩ (.int .i64 ((c.pos : Int) + 1))) := by
  have h' : (w.drewN n).heap[gc]? = some (.cells #[.slice A code.length cA, .int .i64 c.pos, .int .u64 c.seed] 101 (0, 0)) := h
  refine ⟨?_, ((Chg.of_ext (S := fun g => g = gc) ((Ext.refl w).drewN n)).setCell (Or.inl rfl) _ _).setCell (Or.inl rfl) _ _⟩
  unfold CurIs
  rw [box_set (box_set h' _ _) _ _]
  rfl
set_option maxRecDepth 100000 in
set_option maxHeartbeats 8000000 in
theorem next_byte {w : World} {gc : Nat} {code : List Int} {A : Option Addr} {cA : Nat} {c : Cu} (h : CurIs w gc code A cA c) (hB : RdByte w A code) (By : Bytes code) (hne : ∀ b o, A = some ⟨b, o, none⟩ → b ≠ gc) (hp : c.pos ≤ 1000000) (hn : code.length ≤ 1048576) :
    Calls Try.prog 138 #[.pointer (some ⟨gc, 0, none⟩)] w fun e w' => e = .returned (.int .i64 (c.byte code)) ∧ CurIs w' gc code A cA (c.then_ code) ∧ Chg (fun g => g = gc) w w' := by
  have HC := Lib.hid h
  have c0 := box_cell h 0
  have c1 := box_cell h 1
  have c2 := box_cell h 2
  have fr := box_frozen h
  have hgc := box_lt h
  clear h
  by_cases hlt : c.pos < code.length
  · obtain ⟨x, hx⟩ := some_of_lt hlt
    obtain ⟨b, off, rfl, hb⟩ := hB.base hlt
    have hc := hB.at_ hx
    have hbg := hne b off rfl
    have hbb := By _ _ hx
    have hd : decide ((c.pos : Int) < (code.length : Int)) = true := by simp; omega
    have hby : Hid (c.byte code = x) := by unfold Hid Cu.byte; rw [if_pos hlt, getD_some hx]
    have hth : Hid (c.then_ code = ⟨c.pos + 1, IntKind.u64.wrap (IntKind.u64.wrap (IntKind.u64.wrap (c.seed * 6364136223846793005) + x) + 1442695040888963407)⟩) := by unfold Hid Cu.then_; rw [if_pos hlt, getD_some hx]
    clear hB By hne hx
    go_enter Try.func138, Try.ntmps138
    go_wp2_with fail
    go_quiet (fail)
    go_wp2_with fail
    go_quiet (fail)
    go_wp2_with fail
    go_ret
    exact ⟨ret_i64 hby.out.symm, by rw [hth.out]; exact (cur_set12 HC.out _ _).1, (cur_set12 HC.out _ _).2⟩
  · have hd : decide ((c.pos : Int) < (code.length : Int)) = false := by simp; omega
    obtain ⟨y, hy⟩ : ∃ y, y = IntKind.u64.wrap (IntKind.u64.wrap (c.seed * 6364136223846793005) + 1442695040888963407) := ⟨_, rfl⟩
    have hbd := Cu.byte_bd By c
    obtain ⟨x, hx⟩ : ∃ x, x = bits BinOp.and IntKind.u64 (y / 1099511627776) 255 := ⟨_, rfl⟩
    have hby : Hid (c.byte code = x) := by unfold Hid Cu.byte; rw [if_neg hlt, hx, hy]
    have hth : Hid (c.then_ code = ⟨c.pos + 1, y⟩) := by unfold Hid Cu.then_; rw [if_neg hlt, hy]
    rw [hby.out] at hbd
    have hwx : wrap64 x = x := IntWalk.wrap64_in x (by omega)
    have hval : wrap64 (bits BinOp.and IntKind.u64 (y / 1099511627776) 255) = c.byte code := by rw [← hx, hwx, hby.out]
    rw [hy] at hval hth
    have hval := Lib.hid hval
    clear hB By hne hx hy
    go_enter Try.func138, Try.ntmps138
    go_wp2_with fail
    go_quiet (fail)
    go_wp2_with fail
    go_ret
    exact ⟨ret_i64 hval.out, by rw [hth.out]; exact (cur_set21 HC.out _ _).1, (cur_set21 HC.out _ _).2⟩
set_option maxRecDepth 100000 in
set_option maxHeartbeats 8000000 in
theorem pick_any {w : World} {gc : Nat} {code : List Int} {A : Option Addr} {cA : Nat} {c : Cu} (h : CurIs w gc code A cA c) (hB : RdByte w A code) (By : Bytes code) (hne : ∀ b o, A = some ⟨b, o, none⟩ → b ≠ gc) (hp : c.pos ≤ 1000000) (hn : code.length ≤ 1048576) {n : Int} (h2 : n ≤ 200) :
    Calls Try.prog 123 #[.pointer (some ⟨gc, 0, none⟩), .int .i64 n] w fun e w' => e = .returned (.int .i64 (pickC code n c).1) ∧ CurIs w' gc code A cA (pickC code n c).2 ∧ Chg (fun g => g = gc) w w' := by
  by_cases h1 : n ≤ 1
  · have hd : decide (n ≤ 1) = true := by simp [h1]
    have hr : Hid (pickC code n c = (0, c)) := by unfold Hid pickC; rw [if_pos h1]
    have HC := Lib.hid h
    clear h hB By hne h1
    go_enter Try.func123, Try.ntmps123
    go_wp2_with fail
    go_ret
    exact ⟨by rw [hr.out]; rfl, by rw [hr.out]; exact HC.out, Chg.of_ext (by repeat (first | (with_reducible assumption) | (with_reducible exact Ext.refl _) | apply Ext.alloc | apply Ext.drewN | apply Ext.drew))⟩
  · have hd : decide (n ≤ 1) = false := by simp; omega
    have hd2 : decide (200 < n) = false := by simp; omega
    have HN := Lib.hid (next_byte h hB By hne hp hn)
    have hb := Cu.byte_bd By c
    have hr : Hid (pickC code n c = (c.byte code % n, c.then_ code)) := by unfold Hid pickC; rw [if_neg h1]
    obtain ⟨x, hx⟩ : ∃ x, Hid (c.byte code = x) := ⟨_, rfl⟩
    rw [hx.out] at hb HN hr
    clear h hB By hne
    go_enter Try.func123, Try.ntmps123
    go_wp2_with fail
    refine HN.out.mono ?_
    rintro e w1 ⟨rfl, hC1, hC2⟩
    have HC1 := Lib.hid hC1
    have HC2 := Lib.hid hC2
    clear hC1 hC2
    go_wp2_with fail
    go_ret
    exact ⟨by rw [hr.out]; rfl, by rw [hr.out]; exact HC1.out, HC2.out⟩
end Go.Proofs.Ythhkbfjolmgloaa
namespace Go.Proofs.Ythhkbfjolmgloaa
open Go.RowKit Go.ChangeShapes Go.WideShapes Go.Deep
set_option linter.unusedVariables false
set_option linter.unusedSimpArgs false
section
variable {H : Type} {enc : TypeId × Value → H} {W : World} {sp : Nat → Bool} {held : Bool}
theorem cellsOf5 : Try.prog.cellsOf 5 = 1 := by kernel_rfl
theorem trod_bytes {fuel : Nat} {cs : List Value} {x : DataW H × List MemPlace} (h : DataW.trod enc Try.prog W 0 sp held fuel 38 cs = some x) :
    ∃ (A : Option Addr) (c : Nat) (xs : List Int), cs = [.slice A xs.length c] ∧ RdByte W A xs ∧ xs.length ≤ 9223372036854775807 ∧ ∀ (j : Nat) (y : Int), xs[j]? = some y → 0 ≤ y ∧ y ≤ 255 := by
  refine trod_row Try.underlying38 cellsOf5 (by omega) (fun b o n cs y hb hc hl hy => ?_) h
  obtain ⟨x, rfl, _, hw⟩ := DataW.trod_int Try.underlying5 hy
  exact ⟨x, hc 0 (by omega), bounds_u8 hw⟩
set_option maxRecDepth 100000 in
set_option maxHeartbeats 1000000 in
theorem okWide_in {b0 : Nat} {A : Option Addr} {n c : Nat} (hv : Value.okWide Try.prog W .any b0 38 (.slice A n c)) : ∀ b o, A = some ⟨b, o, none⟩ → b < W.heap.size := by
  intro b o e
  subst e
  simp only [Value.okWide, Try.underlying38, Cell.okWide, Cell.ok] at hv
  obtain ⟨_, _, h⟩ := hv
  obtain ⟨_, _, row, cells, h, _⟩ := h
  unfold World.shape? at h
  by_cases hb : b < W.heap.size
  · exact hb
  · rw [Array.getElem?_eq_none (show W.heap.size ≤ b by omega)] at h
    simp at h
set_option maxRecDepth 100000 in
set_option maxHeartbeats 1000000 in
/-- Bytes among the arguments. -/
theorem open_bytes_arg {b0 : Nat} {v : Value} {d : DataW H} {p : List MemPlace} (hv : Value.okWide Try.prog W .any b0 38 v) (h : DataW.Trod enc Try.prog W 0 sp held 38 v d p) :
    ∃ (A : Option Addr) (c : Nat) (xs : List Int), v = .slice A xs.length c ∧ RdByte W A xs ∧ (∀ b o, A = some ⟨b, o, none⟩ → b < W.heap.size) ∧ Bytes xs ∧ xs.length ≤ 9223372036854775807 := by
  obtain ⟨a, n, c, rfl⟩ := okWide_slice Try.underlying38 hv
  obtain ⟨fuel, hf⟩ := h
  obtain ⟨A, c', xs, hq, hR, hl, hB⟩ := trod_bytes (cs := [.slice a n c]) hf
  simp only [List.cons.injEq, Value.slice.injEq, and_true] at hq
  obtain ⟨rfl, rfl, rfl⟩ := hq
  exact ⟨_, _, xs, rfl, hR, okWide_in hv, hB, hl⟩
end
end Go.Proofs.Ythhkbfjolmgloaa
