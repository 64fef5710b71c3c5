/- What reading answers is short: a line's lists hold at most 4000 values; laws.eqTold answers true at equal data. Condition of the second: the lists are of Go length. -/
import Derived.Test.YthhkbfjolmgloaaDoorHeld
import Derived.Test.YthhkbfjolmgloaaDoorSpec
import Derived.Test.YthhkbfjolmgloaaDoorEq
namespace Go.Proofs.YthhkbfjolmgloaaDoor
open Go.RowKit Go.Deep
set_option linter.unusedVariables false
set_option linter.unusedSimpArgs false
theorem cutL_len {c : UInt8} : ∀ {l a b : Bs}, cutL c l = some (a, b) → a.length + 1 + b.length ≤ l.length ∧ a.length ≤ l.length
  | [], a, b, h => by cases h
  | x :: r, a, b, h => by
    by_cases e : x = c
    · simp only [cutL, if_pos e, Option.some.injEq, Prod.mk.injEq] at h
      rw [← h.1, ← h.2]; simp
      omega
    · simp only [cutL, if_neg e] at h
      cases hr : cutL c r with
      | none => rw [hr] at h; simp at h
      | some p =>
        obtain ⟨p1, p2⟩ := p
        have ih := cutL_len hr
        rw [hr] at h
        simp at h
        obtain ⟨h1, h2⟩ := h
        subst h1 h2
        simp only [List.length_cons]
        omega
/-- A result of reading whose rows are the call's own. -/
def Told2 (B : Nat) (w : World) (t : (Int × Int) × Line) (v : Value) : Prop := ∃ a b vl, v = .agg #[.int .i64 t.1.1, .int .i64 t.1.2, a, .int .i64 t.2.gap, b] ∧ OwnA B w t.2 a b vl
theorem told2_no {B : Nat} {w : World} {t : (Int × Int) × Line} {a b : Int} (h : t = ((a, b), noLine)) : Told2 B w t (.agg #[.int .i64 a, .int .i64 b, .slice none 0 0, .int .i64 0, .slice none 0 0]) := by
  subst h
  exact ⟨_, _, fun _ => .slice none 0 0, rfl, World.ownsRow_nil _ _ _ _, TrI.nil _ _ _, fun i k g hi => by simp [noLine] at hi⟩
theorem Told2.is {B : Nat} {w : World} {t : (Int × Int) × Line} {v : Value} (h : Told2 B w t v) : ToldIs w t v := by
  obtain ⟨a, b, vl, rfl, hO⟩ := h
  exact ⟨a, _, b, rfl, hO.ownL.rd⟩
theorem readG_sz : ∀ {f : Nat} {l l' : Line} {n N : Nat} {t : Bs}, Sz N l → readG f l n t = .inr l' → Sz (N + t.length) l'
  | 0, l, l', n, N, t, hz, h => by rw [readG] at h; cases h
  | f + 1, l, l', n, N, t, hz, h => by
    by_cases he : t.length = 0 ∧ 2 ≤ n
    · rw [readG_stop he] at h
      cases h
      exact ⟨hz.1, by have := hz.2; omega⟩
    · cases hc : cutL 10 t with
      | none => rw [readG_cut he hc] at h; cases h
      | some p =>
        obtain ⟨a, b⟩ := p
        cases ht : takeL l a n with
        | none => rw [readG_bad he hc ht] at h; cases h
        | some l1 =>
          rw [readG_go he hc ht] at h
          have ih := readG_sz (takeL_sz hz ht) h
          have hl := cutL_len hc
          exact ⟨ih.1, by have := ih.2; omega⟩
theorem told_few (t : Bs) : Few (toldL t).2 := by
  have h0 : Few noLine := ⟨by simp [noLine], by simp [noLine], fun i => by simp [noLine]; exact Nat.zero_le _⟩
  unfold toldL
  by_cases hb : 4000 < t.length
  · rw [if_pos hb]; exact h0
  · rw [if_neg hb]
    cases hr : readG (t.length + 1) noLine 0 t with
    | inl k => exact h0
    | inr l =>
      have hz := readG_sz (N := 0) ⟨by simp [noLine], by simp [noLine, legsN]⟩ hr
      have hs := hz.sm (by omega)
      unfold endL
      simp only
      by_cases hf : (fault l).1 = 0
      · rw [if_pos hf]; exact ⟨by have := hz.1; simp only; omega, hs.1, hs.2⟩
      · rw [if_neg hf]; exact h0
theorem Few.room {l : Line} (h : Few l) : l.Room := ⟨by have := h.1; omega, by have := h.2.1; omega, fun i t ht => by have := h.2.2 i; rw [getD_some ht] at this; omega⟩
set_option maxRecDepth 100000 in
set_option maxHeartbeats 8000000 in
theorem eqTold_same {w : World} {t : (Int × Int) × Line} {u v : Value} (hu : ToldIs w t u) (hv : ToldIs w t v) (R : t.2.Room) : Calls Tryd.prog 6 #[u, v] w fun e w' => e = .returned (.bool true) ∧ Ext w w' := by
  obtain ⟨⟨x, y⟩, l⟩ := t
  obtain ⟨a, g, b, rfl, h⟩ := hu
  obtain ⟨a', g', b', rfl, h'⟩ := hv
  have H := Lib.hid h
  have H' := Lib.hid h'
  have HR := Lib.hid R
  obtain ⟨A0, c0, A2, c2, he, _, _⟩ := h
  simp only [Value.agg.injEq, Array.mk.injEq, List.cons.injEq, and_true] at he
  obtain ⟨rfl, rfl, rfl⟩ := he
  obtain ⟨A0', c0', A2', c2', he, _, _⟩ := h'
  simp only [Value.agg.injEq, Array.mk.injEq, List.cons.injEq, and_true] at he
  obtain ⟨rfl, rfl, rfl⟩ := he
  have hx : (x != x) = false := by simp
  have hy : (y != y) = false := by simp
  clear R
  go_enter Tryd.func6, Tryd.ntmps6
  go_wp2_with fail
  refine (eqLine_same (H.out.ext (by repeat (first | (with_reducible assumption) | (with_reducible exact Ext.refl _) | apply Ext.alloc | apply Ext.drewN | apply Ext.drew))) (H'.out.ext (by repeat (first | (with_reducible assumption) | (with_reducible exact Ext.refl _) | apply Ext.alloc | apply Ext.drewN | apply Ext.drew))) HR.out).mono ?_
  rintro e w1 ⟨rfl, hE⟩
  have hX : Hid (Ext w w1) := Ext.trans (by repeat (first | (with_reducible assumption) | (with_reducible exact Ext.refl _) | apply Ext.alloc | apply Ext.drewN | apply Ext.drew)) hE
  clear hE
  go_wp2_with fail
  go_ret
  exact ⟨rfl, hX.out⟩
end Go.Proofs.YthhkbfjolmgloaaDoor
