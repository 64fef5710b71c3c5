/- Taking a line in the order in which impl.ReadLine looks. No program. -/
import Derived.Test.YthhkbfjolmgloaaDoorWordsI
namespace Go.Proofs.YthhkbfjolmgloaaDoor
open Go.RowKit Go.Deep
set_option linter.unusedVariables false
set_option linter.unusedSimpArgs false
def nmT : List ByteArray := [⟨#[116, 114, 97, 105, 110]⟩, ⟨#[114, 101, 97, 100, 121]⟩, ⟨#[100, 117, 101]⟩, ⟨#[119, 101, 105, 103, 104, 116]⟩]
def nmG : List ByteArray := [⟨#[108, 101, 103]⟩, ⟨#[114, 117, 110]⟩, ⟨#[115, 116, 97, 121]⟩]
def nmP : List ByteArray := [⟨#[103, 97, 112]⟩]
theorem numsL_head {w x : Bs} {ws : List Bs} {ls : List (Option Bs)} (h : w ≠ x) : numsL (w :: ws) (some x :: ls) = none := by rw [numsL, if_neg h]
theorem takeL_late {l : Line} {s : Bs} {k : Nat} (k0 : ¬ k = 0) (k1 : ¬ k = 1) : takeL l s k = match numsL (splitL 32 s) (likeP [bTrain, bReady, bDue, bWeight]) with
    | some ns => some { l with trains := l.trains ++ [⟨ns.getD 0 0, ns.getD 1 0, ns.getD 2 0, ns.getD 3 0, []⟩] }
    | none => match numsL (splitL 32 s) (likeP [bLeg, bRun, bStay]) with
      | none => none
      | some ns => if l.trains.length = 0 then none else some { l with trains := addLeg l.trains ⟨ns.getD 0 0, ns.getD 1 0, ns.getD 2 0⟩ } := by
  obtain ⟨w, ws, e⟩ := splitL_ne 32 s
  unfold takeL
  rw [if_neg k0, if_neg k1, e]
  by_cases h : w = bTrain
  · subst h
    rw [if_pos (show (bTrain :: ws).getD 0 [] = bTrain from rfl)]
    have h2 : numsL (bTrain :: ws) (likeP [bLeg, bRun, bStay]) = none := numsL_head (by decide)
    rw [h2]
    cases numsL (bTrain :: ws) (likeP [bTrain, bReady, bDue, bWeight]) <;> rfl
  · rw [if_neg (by simpa using h)]
    have h2 : numsL (w :: ws) (likeP [bTrain, bReady, bDue, bWeight]) = none := numsL_head h
    rw [h2]
    cases numsL (w :: ws) (likeP [bLeg, bRun, bStay]) <;> rfl
theorem takeL_first {l : Line} {s w : Bs} {ws : List Bs} (e : splitL 32 s = w :: ws) : takeL l s 0 = if w ≠ bTracks ∨ ws.length < 1 ∨ 39 < ws.length then none else (numsL ws (List.replicate ws.length none)).map fun ns => { l with tracks := ns } := by
  unfold takeL
  rw [if_pos rfl, e]
  simp only [List.length_cons]
  by_cases h40 : 39 < ws.length
  · rw [if_pos (by omega), if_pos (Or.inr (Or.inr h40))]
  · rw [if_neg (by omega)]
    by_cases hw : w = bTracks
    · by_cases h1 : ws.length < 1
      · rw [if_pos (Or.inr (Or.inl h1)), numsL_len (by simp; omega)]; rfl
      · have hno : ¬ (w ≠ bTracks ∨ ws.length < 1 ∨ 39 < ws.length) := by
          rintro (h | h | h)
          · exact h hw
          · omega
          · omega
        rw [if_neg hno, numsL, if_pos hw, show max 1 (ws.length + 1 - 1) = ws.length by omega]
    · rw [if_pos (Or.inl hw), numsL_head hw]; rfl
theorem takeL_gap {l : Line} {s : Bs} : takeL l s 1 = (numsL (splitL 32 s) (likeP [bGap])).map fun ns => { l with gap := ns.getD 0 0 } := by
  unfold takeL; rw [if_neg (by decide), if_pos rfl]
theorem late_train {l : Line} {s : Bs} {k : Nat} {ns : List Int} (k0 : ¬ k = 0) (k1 : ¬ k = 1) (h : numsL (splitL 32 s) (likeP [bTrain, bReady, bDue, bWeight]) = some ns) : takeL l s k = some { l with trains := l.trains ++ [⟨ns.getD 0 0, ns.getD 1 0, ns.getD 2 0, ns.getD 3 0, []⟩] } := by
  rw [takeL_late k0 k1, h]
theorem late_none {l : Line} {s : Bs} {k : Nat} (k0 : ¬ k = 0) (k1 : ¬ k = 1) (h : numsL (splitL 32 s) (likeP [bTrain, bReady, bDue, bWeight]) = none) (h2 : numsL (splitL 32 s) (likeP [bLeg, bRun, bStay]) = none) : takeL l s k = none := by
  rw [takeL_late k0 k1, h, h2]
theorem late_few {l : Line} {s : Bs} {k : Nat} {ns : List Int} (k0 : ¬ k = 0) (k1 : ¬ k = 1) (h : numsL (splitL 32 s) (likeP [bTrain, bReady, bDue, bWeight]) = none) (h2 : numsL (splitL 32 s) (likeP [bLeg, bRun, bStay]) = some ns) (hz : l.trains.length = 0) : takeL l s k = none := by
  rw [takeL_late k0 k1, h, h2]
  simp only
  rw [if_pos hz]
theorem late_leg {l : Line} {s : Bs} {k : Nat} {ns : List Int} (k0 : ¬ k = 0) (k1 : ¬ k = 1) (h : numsL (splitL 32 s) (likeP [bTrain, bReady, bDue, bWeight]) = none) (h2 : numsL (splitL 32 s) (likeP [bLeg, bRun, bStay]) = some ns) (hz : ¬ l.trains.length = 0) : takeL l s k = some { l with trains := addLeg l.trains ⟨ns.getD 0 0, ns.getD 1 0, ns.getD 2 0⟩ } := by
  rw [takeL_late k0 k1, h, h2]
  simp only
  rw [if_neg hz]
/-- A block of so many cells. -/
def BoxAt (g : Nat) (cs : Array Value) (t : TypeId) (W : World) : Prop := W.heap[g]? = some (.cells cs t (0, 0))
theorem BoxAt.ext {g : Nat} {cs : Array Value} {t : TypeId} {w w' : World} (h : BoxAt g cs t w) (e : Ext w w') : BoxAt g cs t w' := e.box h
theorem BoxAt.grown {g : Nat} {cs : Array Value} {t : TypeId} {w wd : World} {B : Nat} {e : TypeId} {size : Nat} {v : Value} {n : Nat} {xs : List Value} (h : BoxAt g cs t w) (hr : w.ownsRow B e size v n xs) (he : t ≠ e) {o : Obj} (hd : (w.alloc o).grownBy wd v.ownBlock) : BoxAt g cs t wd := by
  have h1 : (w.alloc o).heap[g]? = some (.cells cs t (0, 0)) := ((Ext.refl w).alloc o).box h
  unfold BoxAt
  rw [hd.block g (box_lt h1) (fun e2 => own_far hr h he e2.symm)]
  exact h1
theorem BoxAt.set {g : Nat} {cs : Array Value} {t : TypeId} {w : World} (h : BoxAt g cs t w) {k : Nat} {ds : Array Value} {t' : TypeId} {fr : Nat × Nat} (hb : w.heap[k]? = some (.cells ds t' fr)) (ht : t' ≠ t) (j : Nat) (u : Value) : BoxAt g cs t (w.setCell ⟨k, j, none⟩ u) := by
  refine (Below.heap_setCell w ⟨k, j, none⟩ u g (fun e => ?_)).trans h
  simp only at e
  subst e
  unfold BoxAt at h
  rw [hb] at h
  simp only [Option.some.injEq, Obj.cells.injEq] at h
  exact ht h.2.1
/-- A track more. -/
theorem LnI.track {B : Nat} {w wd : World} {gl : Nat} {l : Line} {v0 v2 : Value} {vl : Nat → Value} (h : LnI B w gl l v0 v2 vl) {o : Obj} {x : Int} {g cap : Nat}
    (hd : (w.alloc o).grownBy wd v0.ownBlock) (hown : wd.ownsRow B 3 1 (.slice (some ⟨g, 0, none⟩) (l.tracks.length + 1) cap) (l.tracks.length + 1) (nums l.tracks ++ (#[Value.int .i64 x] : Array Value).toList)) :
    LnI B (wd.setCell ⟨gl, 0, none⟩ (.slice (some ⟨g, 0, none⟩) (l.tracks.length + 1) cap)) gl { l with tracks := l.tracks ++ [x] } (.slice (some ⟨g, 0, none⟩) (l.tracks.length + 1) cap) v2 vl ∧ wd.heap[gl]? = some (.cells #[v0, .int .i64 l.gap, v2] 25 (0, 0)) := by
  have hbd : wd.heap[gl]? = some (.cells #[v0, .int .i64 l.gap, v2] 25 (0, 0)) := by
    have h1 : (w.alloc o).heap[gl]? = some (.cells #[v0, .int .i64 l.gap, v2] 25 (0, 0)) := ((Ext.refl w).alloc o).box h.box
    rw [hd.block gl (box_lt h1) (fun e => own_far h.own.1 h.box (by decide) e.symm)]
    exact h1
  have hT : TrI wd B l.trains v2 vl := ⟨World.ownsRow.kept (h.own.2.1.own.alloc o) hd (by
      cases hk : v2.ownBlock with
      | none => exact Or.inl rfl
      | some k => exact Or.inr (fun e => own_far2 h.own.1 h.own.2.1.own (by decide) k hk e.symm)), fun i hi => World.ownsRow.kept ((h.own.2.1.legs i hi).alloc o) hd (by
      cases hk : (vl i).ownBlock with
      | none => exact Or.inl rfl
      | some k => exact Or.inr (fun e => own_far2 h.own.1 (h.own.2.1.legs i hi) (by decide) k hk e.symm)), h.own.2.1.far⟩
  exact ⟨⟨by rw [box_set hbd]; rfl, h.low, ownsRow_set_far (row_snoc hown) (own_far hown hbd (by decide)) 0 _, hT.set_far hbd (by decide) (by decide) 0 _, h.own.2.2⟩, hbd⟩
end Go.Proofs.YthhkbfjolmgloaaDoor
