/- The plain reader of a line's text: words, numbers, patterns, lines. No program, no condition. -/
import Derived.Test.YthhkbfjolmgloaaDoorLineOk
namespace Go.Proofs.YthhkbfjolmgloaaDoor
open Go.RowKit
set_option linter.unusedVariables false
set_option linter.unusedSimpArgs false
abbrev Bs := List UInt8
/-- Up to the first such byte, and what stands behind it. -/
def cutL (c : UInt8) : Bs → Option (Bs × Bs)
  | [] => none
  | b :: r => if b = c then some ([], r) else (cutL c r).map fun xy => (b :: xy.1, xy.2)
theorem cutL_at {c : UInt8} : ∀ {l : Bs} {m : Nat}, (∀ j, j < m → l[j]? ≠ some c) → l[m]? = some c → cutL c l = some (l.take m, l.drop (m + 1))
  | [], m, _, h => by simp at h
  | b :: r, 0, _, h => by
    simp only [List.getElem?_cons_zero, Option.some.injEq] at h
    simp [cutL, h]
  | b :: r, m + 1, hn, h => by
    simp only [List.getElem?_cons_succ] at h
    have hb : ¬ b = c := fun e => hn 0 (by omega) (by simp [e])
    have ih := cutL_at (l := r) (m := m) (fun j hj => by have := hn (j + 1) (by omega); simpa using this) h
    simp [cutL, hb, ih]
theorem cutL_none {c : UInt8} : ∀ {l : Bs}, (∀ j, j < l.length → l[j]? ≠ some c) → cutL c l = none
  | [], _ => rfl
  | b :: r, hn => by
    have hb : ¬ b = c := fun e => hn 0 (by simp) (by simp [e])
    have ih := cutL_none (l := r) (fun j hj => by have := hn (j + 1) (by simp; omega); simpa using this)
    simp [cutL, hb, ih]
/-- The pieces between such bytes. -/
def splitL (c : UInt8) : Bs → List Bs
  | [] => [[]]
  | b :: r => if b = c then [] :: splitL c r else match splitL c r with
    | [] => [[b]]
    | x :: xs => (b :: x) :: xs
theorem splitL_ne (c : UInt8) : ∀ l : Bs, ∃ x xs, splitL c l = x :: xs
  | [] => ⟨_, _, rfl⟩
  | b :: r => by
    obtain ⟨x, xs, h⟩ := splitL_ne c r
    by_cases e : b = c
    · exact ⟨[], splitL c r, by simp [splitL, e]⟩
    · exact ⟨b :: x, xs, by simp [splitL, e, h]⟩
theorem splitL_len (c : UInt8) : ∀ l : Bs, (splitL c l).length ≤ l.length + 1
  | [] => by simp [splitL]
  | b :: r => by
    have ih := splitL_len c r
    obtain ⟨x, xs, h⟩ := splitL_ne c r
    by_cases e : b = c
    · simp [splitL, e]; exact ih
    · rw [h] at ih; simp only [splitL, if_neg e, h, List.length_cons] at ih ⊢; omega
/-- What has been read so far stands ahead of the first piece. -/
def gluL (w : Bs) : List Bs → List Bs
  | [] => [w]
  | x :: xs => (w ++ x) :: xs
theorem gluL_end (c : UInt8) (w : Bs) : gluL w (splitL c []) = [w] := by simp [splitL, gluL]
theorem gluL_sep {c b : UInt8} {r : Bs} (w : Bs) (h : b = c) : gluL w (splitL c (b :: r)) = w :: gluL [] (splitL c r) := by
  obtain ⟨x, xs, e⟩ := splitL_ne c r
  simp [splitL, h, gluL, e]
theorem gluL_more {c b : UInt8} {r : Bs} (w : Bs) (h : ¬ b = c) : gluL w (splitL c (b :: r)) = gluL (w ++ [b]) (splitL c r) := by
  obtain ⟨x, xs, e⟩ := splitL_ne c r
  simp [splitL, h, gluL, e]
theorem gluL_nil (c : UInt8) (l : Bs) : gluL [] (splitL c l) = splitL c l := by
  obtain ⟨x, xs, e⟩ := splitL_ne c l
  simp [gluL, e]
theorem splitL_cut {c : UInt8} : ∀ (l : Bs), splitL c l = match cutL c l with
    | none => [l]
    | some (x, r) => x :: splitL c r
  | [] => rfl
  | b :: r => by
    have ih := splitL_cut (c := c) r
    by_cases e : b = c
    · simp [splitL, cutL, e]
    · cases h : cutL c r with
      | none => rw [h] at ih; simp only [splitL, cutL, if_neg e, h, ih, Option.map_none]
      | some xy =>
        obtain ⟨x, y⟩ := xy
        rw [h] at ih
        simp only [splitL, cutL, if_neg e, h, ih, Option.map_some]
/-! ### Numbers -/
def digitB (b : UInt8) : Bool := decide (48 ≤ b.toNat ∧ b.toNat ≤ 57)
def valL : Int → Bs → Int
  | n, [] => n
  | n, b :: r => valL (10 * n + ((b.toNat : Int) - 48)) r
theorem valL_append : ∀ (n : Int) (a b : Bs), valL n (a ++ b) = valL (valL n a) b
  | n, [], b => rfl
  | n, x :: a, b => by simp only [List.cons_append, valL]; exact valL_append _ a b
def numL (l : Bs) : Option Int := if l.all digitB = true ∧ 1 ≤ l.length ∧ l.length ≤ 7 ∧ ¬ (1 < l.length ∧ l[0]? = some 48) then some (valL 0 l) else none
theorem valL_bd : ∀ (l : Bs) (n : Int), l.all digitB = true → 0 ≤ n → 0 ≤ valL n l ∧ valL n l ≤ (n + 1) * 10 ^ l.length - 1
  | [], n, _, h0 => by simp [valL]; omega
  | b :: r, n, h, h0 => by
    simp only [List.all_cons, Bool.and_eq_true] at h
    obtain ⟨hb, hr⟩ := h
    simp only [digitB, decide_eq_true_eq] at hb
    obtain ⟨i1, i2⟩ := valL_bd r (10 * n + ((b.toNat : Int) - 48)) hr (by omega)
    simp only [valL, List.length_cons]
    refine ⟨i1, Int.le_trans i2 ?_⟩
    have hp : (0 : Int) < 10 ^ r.length := Int.pow_pos (by omega)
    have h1 : (10 * n + ((b.toNat : Int) - 48) + 1) * 10 ^ r.length ≤ (10 * n + 10) * 10 ^ r.length := Int.mul_le_mul_of_nonneg_right (by omega) (by omega)
    have h2 : (10 * n + 10) * 10 ^ r.length = (n + 1) * 10 ^ (r.length + 1) := by
      rw [Int.pow_succ, Int.mul_comm (10 ^ r.length) 10, ← Int.mul_assoc]
      congr 1
      omega
    omega
theorem numL_bd {l : Bs} {n : Int} (h : numL l = some n) : 0 ≤ n ∧ n ≤ 9999999 := by
  unfold numL at h
  by_cases c : l.all digitB = true ∧ 1 ≤ l.length ∧ l.length ≤ 7 ∧ ¬ (1 < l.length ∧ l[0]? = some 48)
  · rw [if_pos c] at h
    simp only [Option.some.injEq] at h
    obtain ⟨h1, h2⟩ := valL_bd l 0 c.1 (Int.le_refl 0)
    subst h
    refine ⟨h1, Int.le_trans h2 ?_⟩
    have hl := c.2.2.1
    have : (10 : Int) ^ l.length ≤ 10 ^ 7 := by
      have hc : l.length = 0 ∨ l.length = 1 ∨ l.length = 2 ∨ l.length = 3 ∨ l.length = 4 ∨ l.length = 5 ∨ l.length = 6 ∨ l.length = 7 := by omega
      rcases hc with e | e | e | e | e | e | e | e <;> rw [e] <;> decide
    have h7 : (10 : Int) ^ 7 = 10000000 := by decide
    omega
  · rw [if_neg c] at h; cases h
/-! ### Patterns: a word, or a number -/
def numsL : List Bs → List (Option Bs) → Option (List Int)
  | [], [] => some []
  | w :: ws, some x :: ls => if w = x then numsL ws ls else none
  | w :: ws, none :: ls => match numL w with
    | none => none
    | some n => (numsL ws ls).map fun ns => n :: ns
  | _, _ => none
theorem numsL_len : ∀ {ws : List Bs} {ls : List (Option Bs)}, ws.length ≠ ls.length → numsL ws ls = none
  | [], [], h => absurd rfl h
  | [], some x :: ls, _ => rfl
  | [], none :: ls, _ => rfl
  | w :: ws, [], _ => rfl
  | w :: ws, some x :: ls, h => by
    have ih := numsL_len (ws := ws) (ls := ls) (by simpa using h)
    simp [numsL, ih]
  | w :: ws, none :: ls, h => by
    have ih := numsL_len (ws := ws) (ls := ls) (by simpa using h)
    simp only [numsL, ih]
    cases numL w <;> rfl
def bTracks : Bs := [116, 114, 97, 99, 107, 115]
def bGap : Bs := [103, 97, 112]
def bTrain : Bs := [116, 114, 97, 105, 110]
def bReady : Bs := [114, 101, 97, 100, 121]
def bDue : Bs := [100, 117, 101]
def bWeight : Bs := [119, 101, 105, 103, 104, 116]
def bLeg : Bs := [108, 101, 103]
def bRun : Bs := [114, 117, 110]
def bStay : Bs := [115, 116, 97, 121]
def likeP (names : List Bs) : List (Option Bs) := (names.map fun x => [some x, none]).flatten
/-- A leg more, at the last train. -/
def addLeg (ts : List Train) (x : Leg) : List Train := ts.set (ts.length - 1) { ts.getD (ts.length - 1) default with legs := (ts.getD (ts.length - 1) default).legs ++ [x] }
def takeL (st : Line) (s : Bs) (k : Nat) : Option Line :=
  if k = 0 then (if 40 < (splitL 32 s).length then none else (numsL (splitL 32 s) (some bTracks :: List.replicate (max 1 ((splitL 32 s).length - 1)) none)).map fun ns => { st with tracks := ns })
  else if k = 1 then (numsL (splitL 32 s) (likeP [bGap])).map fun ns => { st with gap := ns.getD 0 0 }
  else if (splitL 32 s).getD 0 [] = bTrain then (numsL (splitL 32 s) (likeP [bTrain, bReady, bDue, bWeight])).map fun ns => { st with trains := st.trains ++ [⟨ns.getD 0 0, ns.getD 1 0, ns.getD 2 0, ns.getD 3 0, []⟩] }
  else match numsL (splitL 32 s) (likeP [bLeg, bRun, bStay]) with
    | none => none
    | some ns => if st.trains.length = 0 then none else some { st with trains := addLeg st.trains ⟨ns.getD 0 0, ns.getD 1 0, ns.getD 2 0⟩ }
/-- The lines one by one: the number of the wrong one, or the line that was read. -/
def readG : Nat → Line → Nat → Bs → Nat ⊕ Line
  | 0, _, k, _ => .inl (k + 1)
  | f + 1, st, k, t => if t.length = 0 ∧ 2 ≤ k then .inr st else match cutL 10 t with
    | none => .inl (k + 1)
    | some (s, r) => match takeL st s k with
      | none => .inl (k + 1)
      | some st' => readG f st' (k + 1) r
def noLine : Line := ⟨[], 0, []⟩
def endL : Nat ⊕ Line → (Int × Int) × Line
  | .inl n => ((1, n), noLine)
  | .inr l => if (fault l).1 = 0 then ((0, 0), l) else ((2 + (fault l).1, 0), noLine)
def toldL (t : Bs) : (Int × Int) × Line := if 4000 < t.length then ((2, 0), noLine) else endL (readG (t.length + 1) noLine 0 t)
end Go.Proofs.YthhkbfjolmgloaaDoor
