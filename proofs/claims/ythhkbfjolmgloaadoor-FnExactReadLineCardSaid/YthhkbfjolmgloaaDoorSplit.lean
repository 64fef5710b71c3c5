/- strings.Cut and strings.Split at one byte are cutL and splitL. -/
import Derived.Test.YthhkbfjolmgloaaDoorNumber
import Derived.Lib.IndexMore
import Derived.Lib.IndexLaws
import Derived.Lib.IndexBytes
import Derived.Lib.Split
import Derived.Lib.CountLaws
namespace Go.Proofs.YthhkbfjolmgloaaDoor
open Go.RowKit Go.Deep
set_option linter.unusedVariables false
set_option linter.unusedSimpArgs false
theorem index_cases (l : Bs) (c : UInt8) : (Lib.index l [c] = -1 ∧ cutL c l = none) ∨ ∃ i : Nat, Lib.index l [c] = i ∧ cutL c l = some (l.take i, l.drop (i + 1)) := by
  have h := Lib.index_one l c
  rw [h]
  have hg := Lib.indexByte_ge l c
  by_cases e : Lib.indexByte l c = -1
  · exact Or.inl ⟨e, cutL_none (fun j _ => Lib.indexByte_none e j)⟩
  · obtain ⟨i, hi⟩ : ∃ i : Nat, Lib.indexByte l c = i := ⟨(Lib.indexByte l c).toNat, by omega⟩
    obtain ⟨h1, h2⟩ := Lib.indexByte_some hi
    exact Or.inr ⟨i, hi, cutL_at h2 h1⟩
theorem cutL_lt {l a b : Bs} {c : UInt8} (h : cutL c l = some (a, b)) : 0 < l.length := by
  cases l with
  | nil => cases h
  | cons x r => simp
theorem cut_of (l : Bs) (c : UInt8) : Lib.cut l [c] = match cutL c l with
    | none => (l, [], false)
    | some (a, b) => (a, b, true) := by
  rcases index_cases l c with ⟨h1, h2⟩ | ⟨i, h1, h2⟩
  · rw [h2]; unfold Lib.cut; rw [if_neg (by rw [h1]; decide)]
  · rw [h2]; unfold Lib.cut; rw [if_pos (by rw [h1]; omega), h1]; rfl
theorem splitK_of (c : UInt8) : ∀ (n : Nat) (l : Bs), l.length ≤ n → Lib.splitK [c] 0 (Lib.count l [c]) l = splitL c l
  | n, l, hn => by
    rw [splitL_cut]
    rcases index_cases l c with ⟨h1, h2⟩ | ⟨i, h1, h2⟩
    · rw [h2, Lib.count_miss h1]; rfl
    · rw [h2, Lib.count_hit (by simp) h1, Nat.add_comm 1]
      unfold Lib.splitK
      rw [if_neg (by rw [h1]; simp), h1]
      simp only [Int.toNat_natCast, Nat.add_zero, List.length_singleton, List.cons.injEq, true_and]
      have hb := cutL_lt h2
      cases n with
      | zero => simp at hn; subst hn; simp at hb
      | succ n => exact splitK_of c n (l.drop (i + 1)) (by simp; omega)
theorem splitB_of (s : ByteArray) (c : UInt8) : (Lib.splitB ⟨#[c]⟩ 0 (Lib.countB s ⟨#[c]⟩) s).map toL = splitL c (toL s) := by
  have := Lib.splitB_data ⟨#[c]⟩ 0 (Lib.countB s ⟨#[c]⟩) s
  unfold toL
  rw [this]
  exact splitK_of c _ _ (Nat.le_refl _)
end Go.Proofs.YthhkbfjolmgloaaDoor
