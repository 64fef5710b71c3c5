/- What a right line is, and the checks of a train, a leg. Condition: at most 2^20 values. -/
import Derived.Test.YthhkbfjolmgloaaDoorEq
namespace Go.Proofs.YthhkbfjolmgloaaDoor
open Go.RowKit
set_option linter.unusedVariables false
set_option linter.unusedSimpArgs false
def inB (x a b : Int) : Bool := decide (a ≤ x ∧ x ≤ b)
theorem inB_true {x a b : Int} : inB x a b = true ↔ a ≤ x ∧ x ≤ b := by simp [inB]
theorem inB_false {x a b : Int} : inB x a b = false ↔ ¬ (a ≤ x ∧ x ≤ b) := by simp only [inB, decide_eq_false_iff_not]
/-- Each leg leads to a station beside, and its numbers are in bounds. -/
def legsOk (n : Int) : Int → List Leg → Bool
  | _, [] => true
  | at_, x :: xs => inB x.to 0 (n - 1) && (x.to == at_ + 1 || x.to == at_ - 1) && inB x.run 1 10000 && inB x.stay 0 10000 && legsOk n x.to xs
theorem legsOk_at (n at_ : Int) {l : List Leg} {i : Nat} {x : Leg} (h : l[i]? = some x) : legsOk n at_ (l.drop i) = (inB x.to 0 (n - 1) && (x.to == at_ + 1 || x.to == at_ - 1) && inB x.run 1 10000 && inB x.stay 0 10000 && legsOk n x.to (l.drop (i + 1))) := by
  rw [drop_some h]
  rfl
theorem legsOk_end (n at_ : Int) {l : List Leg} {i : Nat} (h : l.length ≤ i) : legsOk n at_ (l.drop i) = true := by
  rw [drop_end h]
  rfl
def trOk (n : Int) (t : Train) : Bool := inB t.frm 0 (n - 1) && inB t.ready 0 100000 && inB t.due 0 100000 && inB t.weight 1 100 && !(t.legs.length == 0) && legsOk n t.frm t.legs
def cntOk (l : Line) : Bool := inB l.tracks.length 2 12 && inB l.gap 0 10000 && decide (l.trains.length ≤ 5) && decide (legsN l.trains ≤ 10)
/-- The first fault of a line. -/
def fault (l : Line) : Int × Int :=
  if cntOk l then
    match findI (fun i k => if inB k 1 10 then none else some i) 0 l.tracks with
    | some i => (2, (i : Int))
    | none => match findI (fun i t => if trOk l.tracks.length t then none else some i) 0 l.trains with
      | some i => (3, (i : Int))
      | none => (0, 0)
  else (1, 0)
def faultV (f : Int × Int) : Value := .agg #[.int .i64 f.1, .int .i64 f.2]
theorem legsN_le {ts : List Train} {i : Nat} {t : Train} (h : ts[i]? = some t) : t.legs.length ≤ legsN ts := by
  induction ts generalizing i with
  | nil => simp at h
  | cons y ys ih =>
    cases i with
    | zero => simp at h; subst h; simp [legsN]
    | succ i => simp at h; have := ih h; simp [legsN]; omega
theorem legsN_drop (ts : List Train) (i : Nat) : legsN (ts.drop i) ≤ legsN ts := by
  induction ts generalizing i with
  | nil => simp
  | cons y ys ih =>
    cases i with
    | zero => simp
    | succ i => simp [legsN]; have := ih i; omega
theorem Line.small_of {l : Line} (h : l.size ≤ 1048576) : l.Small := ⟨by unfold Line.size at h; omega, by unfold Line.size at h; omega, fun i t ht => by have := legsN_le ht; unfold Line.size at h; omega⟩
theorem Line.Small.room {l : Line} (h : l.Small) : l.Room := ⟨by have := h.tracks; omega, by have := h.trains; omega, fun i t ht => by have := h.legs i t ht; omega⟩

theorem l1in_any (x a b : Int) (w : World) : Calls Tryd.prog 21 #[.int .i64 x, .int .i64 a, .int .i64 b] w fun e w' => e = .returned (.bool (inB x a b)) ∧ w = w' := by
  by_cases h : a ≤ x
  · by_cases h' : x ≤ b
    all_goals
      go_enter Tryd.func21, Tryd.ntmps21
      go_wp2
      go_ret
      exact ⟨ret_bool (by simp [inB, h, h']), rfl⟩
  · go_enter Tryd.func21, Tryd.ntmps21
    go_wp2
    go_ret
    exact ⟨ret_bool (by unfold inB; rw [eq_comm, decide_eq_false_iff_not]; omega), rfl⟩

theorem in_any (x a b : Int) (w : World) : Calls Tryd.prog 27 #[.int .i64 x, .int .i64 a, .int .i64 b] w fun e w' => e = .returned (.bool (inB x a b)) ∧ w = w' := by
  by_cases h : a ≤ x
  · by_cases h' : x ≤ b
    all_goals
      go_enter Tryd.func27, Tryd.ntmps27
      go_wp2
      go_ret
      exact ⟨ret_bool (by simp [inB, h, h']), rfl⟩
  · go_enter Tryd.func27, Tryd.ntmps27
    go_wp2
    go_ret
    exact ⟨ret_bool (by unfold inB; rw [eq_comm, decide_eq_false_iff_not]; omega), rfl⟩

set_option maxRecDepth 100000 in
set_option maxHeartbeats 1000000 in
theorem l1train_any {w : World} {l : Line} {t : Train} {u v : Value} (hl : IsLine w l u) (ht : IsTrain w t v) (hn : l.tracks.length ≤ 1048576) (hk : t.legs.length ≤ 1048576) :
    Calls Tryd.prog 23 #[u, v] w fun e w' => e = .returned (.bool (trOk l.tracks.length t)) ∧ Ext w w' := by
  obtain ⟨A0, c0, A2, c2, rfl, h0, h2⟩ := hl
  obtain ⟨A4, c4, rfl, hR⟩ := ht
  clear h0 h2
  cases q1 : inB t.frm 0 (l.tracks.length - 1) with
  | false =>
    go_enter Tryd.func23, Tryd.ntmps23
    go_wp2_with (go_at_call 21; refine (l1in_any _ _ _ _).mono ?_; rintro e w' ⟨rfl, rfl⟩)
    go_ret
    exact ⟨ret_bool (by simp [trOk, q1]), (by repeat (first | (with_reducible assumption) | (with_reducible exact Ext.refl _) | apply Ext.alloc | apply Ext.drewN | apply Ext.drew))⟩
  | true => cases q2 : inB t.ready 0 100000 with
    | false =>
      go_enter Tryd.func23, Tryd.ntmps23
      go_wp2_with (go_at_call 21; refine (l1in_any _ _ _ _).mono ?_; rintro e w' ⟨rfl, rfl⟩)
      go_ret
      exact ⟨ret_bool (by simp [trOk, q1, q2]), (by repeat (first | (with_reducible assumption) | (with_reducible exact Ext.refl _) | apply Ext.alloc | apply Ext.drewN | apply Ext.drew))⟩
    | true => cases q3 : inB t.due 0 100000 with
      | false =>
        go_enter Tryd.func23, Tryd.ntmps23
        go_wp2_with (go_at_call 21; refine (l1in_any _ _ _ _).mono ?_; rintro e w' ⟨rfl, rfl⟩)
        go_ret
        exact ⟨ret_bool (by simp [trOk, q1, q2, q3]), (by repeat (first | (with_reducible assumption) | (with_reducible exact Ext.refl _) | apply Ext.alloc | apply Ext.drewN | apply Ext.drew))⟩
      | true => cases q4 : inB t.weight 1 100 with
        | false =>
          go_enter Tryd.func23, Tryd.ntmps23
          go_wp2_with (go_at_call 21; refine (l1in_any _ _ _ _).mono ?_; rintro e w' ⟨rfl, rfl⟩)
          go_ret
          exact ⟨ret_bool (by simp [trOk, q1, q2, q3, q4]), (by repeat (first | (with_reducible assumption) | (with_reducible exact Ext.refl _) | apply Ext.alloc | apply Ext.drewN | apply Ext.drew))⟩
        | true =>
          by_cases q5 : t.legs.length = 0
          · have q5' : ((t.legs.length : Int) == 0) = true := by simp [q5]
            have Q5 := Lib.hid q5; clear q5
            go_enter Tryd.func23, Tryd.ntmps23
            go_wp2_with (go_at_call 21; refine (l1in_any _ _ _ _).mono ?_; rintro e w' ⟨rfl, rfl⟩)
            go_ret
            exact ⟨ret_bool (by simp [trOk, Q5.out]), (by repeat (first | (with_reducible assumption) | (with_reducible exact Ext.refl _) | apply Ext.alloc | apply Ext.drewN | apply Ext.drew))⟩
          · have q5' : ((t.legs.length : Int) == 0) = false := by rw [beq_eq_false_iff_ne]; omega
            have hT : Hid (trOk l.tracks.length t = legsOk l.tracks.length t.frm t.legs) := by simp [Hid, trOk, q1, q2, q3, q4, q5]
            have Q5 := Lib.hid q5; clear q5
            have hf := inB_true.1 q1
            obtain ⟨hf1, hf2⟩ := hf
            go_enter Tryd.func23, Tryd.ntmps23
            go_wp2_with (go_at_call 21; refine (l1in_any _ _ _ _).mono ?_; rintro e w' ⟨rfl, rfl⟩)
            clear q1 q2 q3 q4 q5'
            go_loopw [5, 45] (fun a j wr => ∃ (jj : Nat) (at_ : Int), jj ≤ t.legs.length ∧ j = .int .i64 jj ∧ a = .int .i64 at_ ∧ 0 ≤ at_ ∧ at_ ≤ l.tracks.length - 1 ∧ Hid (legsOk l.tracks.length at_ (t.legs.drop jj) = legsOk l.tracks.length t.frm t.legs) ∧ Lp w wr [(w.heap.size + 1, #[.int .i64 t.frm, .int .i64 t.ready, .int .i64 t.due, .int .i64 t.weight, .slice A4 t.legs.length c4], 47), (w.heap.size, #[.slice A0 l.tracks.length c0, .int .i64 l.gap, .slice A2 l.trains.length c2], 25)]) (fun _ j _ => t.legs.length - (intOf j).toNat)
            case atStart => exact ⟨0, t.frm, Nat.zero_le _, rfl, rfl, hf1, hf2, by simp [Hid], (by repeat (first | (with_reducible exact hS) | (with_reducible exact Lp.start2 _ _ _ _ _) | apply Lp.alloc | apply Lp.drewN | apply Lp.drew))⟩
            case round =>
              obtain ⟨jj, at_, hjj, rfl, rfl, ha0, ha1, HS, hS⟩ := hrel
              obtain ⟨k1, k2, k3, k4, k5, k6⟩ := hS.open2
              by_cases hlt : jj < t.legs.length
              · obtain ⟨x, hx⟩ := hid_of_lt hlt
                obtain ⟨b, o, rfl, hb⟩ := hR.base hlt
                obtain ⟨f0, f1, f2⟩ := hR.at_ hx.out
                have HN := Lib.hid (legsOk_at l.tracks.length at_ hx.out)
                cases r1 : inB x.to 0 (l.tracks.length - 1) with
                | false =>
                  go_wp2_with (go_at_call 21; refine (l1in_any _ _ _ _).mono ?_; rintro e w' ⟨rfl, rfl⟩)
                  go_ret
                  exact ⟨ret_bool (by rw [hT.out, ← HS.out, HN.out, r1]; simp), (by repeat (first | (with_reducible exact hS.ext) | (with_reducible assumption) | (with_reducible exact Ext.refl _) | with_reducible apply Ext.alloc | with_reducible apply Ext.drewN | with_reducible apply Ext.drew | with_reducible refine Ext.setCell ?_ (by simp only []; omega) _))⟩
                | true =>
                  have hx1 := inB_true.1 r1
                  obtain ⟨hx1, hx2⟩ := hx1
                  have hab : (((x.to != at_ + 1) = true ∧ (x.to != at_ - 1) = true) ∧ (x.to == at_ + 1 || x.to == at_ - 1) = false) ∨ (((x.to != at_ + 1) = true ∧ (x.to != at_ - 1) = false) ∧ (x.to == at_ + 1 || x.to == at_ - 1) = true) ∨ (((x.to != at_ + 1) = false ∧ (x.to != at_ - 1) = true) ∧ (x.to == at_ + 1 || x.to == at_ - 1) = true) := by
                    by_cases e1 : x.to = at_ + 1 <;> by_cases e2 : x.to = at_ - 1 <;> simp [e1, e2] <;> omega
                  rcases hab with ⟨⟨a1, a2⟩, a3⟩ | ⟨⟨a1, a2⟩, a3⟩ | ⟨⟨a1, a2⟩, a3⟩
                  · have A3 := Lib.hid a3; clear a3
                    go_wp2_with (go_at_call 21; refine (l1in_any _ _ _ _).mono ?_; rintro e w' ⟨rfl, rfl⟩)
                    go_ret
                    exact ⟨ret_bool (by rw [hT.out, ← HS.out, HN.out, A3.out]; simp), (by repeat (first | (with_reducible exact hS.ext) | (with_reducible assumption) | (with_reducible exact Ext.refl _) | with_reducible apply Ext.alloc | with_reducible apply Ext.drewN | with_reducible apply Ext.drew | with_reducible refine Ext.setCell ?_ (by simp only []; omega) _))⟩
                  all_goals
                    have A3 := Lib.hid a3; clear a3
                    cases r2 : inB x.run 1 10000 with
                    | false =>
                      go_wp2_with (go_at_call 21; refine (l1in_any _ _ _ _).mono ?_; rintro e w' ⟨rfl, rfl⟩)
                      go_ret
                      exact ⟨ret_bool (by rw [hT.out, ← HS.out, HN.out, r2]; simp), (by repeat (first | (with_reducible exact hS.ext) | (with_reducible assumption) | (with_reducible exact Ext.refl _) | with_reducible apply Ext.alloc | with_reducible apply Ext.drewN | with_reducible apply Ext.drew | with_reducible refine Ext.setCell ?_ (by simp only []; omega) _))⟩
                    | true => cases r3 : inB x.stay 0 10000 with
                      | false =>
                        go_wp2_with (go_at_call 21; refine (l1in_any _ _ _ _).mono ?_; rintro e w' ⟨rfl, rfl⟩)
                        go_ret
                        exact ⟨ret_bool (by rw [hT.out, ← HS.out, HN.out, r3]; simp), (by repeat (first | (with_reducible exact hS.ext) | (with_reducible assumption) | (with_reducible exact Ext.refl _) | with_reducible apply Ext.alloc | with_reducible apply Ext.drewN | with_reducible apply Ext.drew | with_reducible refine Ext.setCell ?_ (by simp only []; omega) _))⟩
                      | true =>
                        go_wp2_with (go_at_call 21; refine (l1in_any _ _ _ _).mono ?_; rintro e w' ⟨rfl, rfl⟩)
                        exact ⟨⟨jj + 1, x.to, by omega, by go_num, rfl, hx1, hx2, by rw [← HS.out, HN.out, r1, r2, r3, A3.out]; simp [Hid], (by repeat (first | (with_reducible exact hS) | apply Lp.alloc | apply Lp.drewN | apply Lp.drew))⟩, (by simp [intOf]; omega)⟩
              · have he : legsOk l.tracks.length at_ (t.legs.drop jj) = true := legsOk_end _ _ (by omega)
                have HE := Lib.hid he; clear he
                go_wp2
                go_ret
                exact ⟨ret_bool (by rw [hT.out, ← HS.out, HE.out]), hS.ext⟩

set_option maxRecDepth 100000 in
set_option maxHeartbeats 1000000 in
theorem trainOk_any {w : World} {l : Line} {t : Train} {u v : Value} (hl : IsLine w l u) (ht : IsTrain w t v) (hn : l.tracks.length ≤ 1048576) (hk : t.legs.length ≤ 1048576) :
    Calls Tryd.prog 28 #[u, v] w fun e w' => e = .returned (.bool (trOk l.tracks.length t)) ∧ Ext w w' := by
  obtain ⟨A0, c0, A2, c2, rfl, h0, h2⟩ := hl
  obtain ⟨A4, c4, rfl, hR⟩ := ht
  clear h0 h2
  cases q1 : inB t.frm 0 (l.tracks.length - 1) with
  | false =>
    go_enter Tryd.func28, Tryd.ntmps28
    go_wp2_with (go_at_call 27; refine (in_any _ _ _ _).mono ?_; rintro e w' ⟨rfl, rfl⟩)
    go_ret
    exact ⟨ret_bool (by simp [trOk, q1]), (by repeat (first | (with_reducible assumption) | (with_reducible exact Ext.refl _) | apply Ext.alloc | apply Ext.drewN | apply Ext.drew))⟩
  | true => cases q2 : inB t.ready 0 100000 with
    | false =>
      go_enter Tryd.func28, Tryd.ntmps28
      go_wp2_with (go_at_call 27; refine (in_any _ _ _ _).mono ?_; rintro e w' ⟨rfl, rfl⟩)
      go_ret
      exact ⟨ret_bool (by simp [trOk, q1, q2]), (by repeat (first | (with_reducible assumption) | (with_reducible exact Ext.refl _) | apply Ext.alloc | apply Ext.drewN | apply Ext.drew))⟩
    | true => cases q3 : inB t.due 0 100000 with
      | false =>
        go_enter Tryd.func28, Tryd.ntmps28
        go_wp2_with (go_at_call 27; refine (in_any _ _ _ _).mono ?_; rintro e w' ⟨rfl, rfl⟩)
        go_ret
        exact ⟨ret_bool (by simp [trOk, q1, q2, q3]), (by repeat (first | (with_reducible assumption) | (with_reducible exact Ext.refl _) | apply Ext.alloc | apply Ext.drewN | apply Ext.drew))⟩
      | true => cases q4 : inB t.weight 1 100 with
        | false =>
          go_enter Tryd.func28, Tryd.ntmps28
          go_wp2_with (go_at_call 27; refine (in_any _ _ _ _).mono ?_; rintro e w' ⟨rfl, rfl⟩)
          go_ret
          exact ⟨ret_bool (by simp [trOk, q1, q2, q3, q4]), (by repeat (first | (with_reducible assumption) | (with_reducible exact Ext.refl _) | apply Ext.alloc | apply Ext.drewN | apply Ext.drew))⟩
        | true =>
          by_cases q5 : t.legs.length = 0
          · have q5' : ((t.legs.length : Int) == 0) = true := by simp [q5]
            have Q5 := Lib.hid q5; clear q5
            go_enter Tryd.func28, Tryd.ntmps28
            go_wp2_with (go_at_call 27; refine (in_any _ _ _ _).mono ?_; rintro e w' ⟨rfl, rfl⟩)
            go_ret
            exact ⟨ret_bool (by simp [trOk, Q5.out]), (by repeat (first | (with_reducible assumption) | (with_reducible exact Ext.refl _) | apply Ext.alloc | apply Ext.drewN | apply Ext.drew))⟩
          · have q5' : ((t.legs.length : Int) == 0) = false := by rw [beq_eq_false_iff_ne]; omega
            have hT : Hid (trOk l.tracks.length t = legsOk l.tracks.length t.frm t.legs) := by simp [Hid, trOk, q1, q2, q3, q4, q5]
            have Q5 := Lib.hid q5; clear q5
            have hf := inB_true.1 q1
            obtain ⟨hf1, hf2⟩ := hf
            go_enter Tryd.func28, Tryd.ntmps28
            go_wp2_with (go_at_call 27; refine (in_any _ _ _ _).mono ?_; rintro e w' ⟨rfl, rfl⟩)
            clear q1 q2 q3 q4 q5'
            go_loopw [5, 45] (fun a j wr => ∃ (jj : Nat) (at_ : Int), jj ≤ t.legs.length ∧ j = .int .i64 jj ∧ a = .int .i64 at_ ∧ 0 ≤ at_ ∧ at_ ≤ l.tracks.length - 1 ∧ Hid (legsOk l.tracks.length at_ (t.legs.drop jj) = legsOk l.tracks.length t.frm t.legs) ∧ Lp w wr [(w.heap.size + 1, #[.int .i64 t.frm, .int .i64 t.ready, .int .i64 t.due, .int .i64 t.weight, .slice A4 t.legs.length c4], 47), (w.heap.size, #[.slice A0 l.tracks.length c0, .int .i64 l.gap, .slice A2 l.trains.length c2], 25)]) (fun _ j _ => t.legs.length - (intOf j).toNat)
            case atStart => exact ⟨0, t.frm, Nat.zero_le _, rfl, rfl, hf1, hf2, by simp [Hid], (by repeat (first | (with_reducible exact hS) | (with_reducible exact Lp.start2 _ _ _ _ _) | apply Lp.alloc | apply Lp.drewN | apply Lp.drew))⟩
            case round =>
              obtain ⟨jj, at_, hjj, rfl, rfl, ha0, ha1, HS, hS⟩ := hrel
              obtain ⟨k1, k2, k3, k4, k5, k6⟩ := hS.open2
              by_cases hlt : jj < t.legs.length
              · obtain ⟨x, hx⟩ := hid_of_lt hlt
                obtain ⟨b, o, rfl, hb⟩ := hR.base hlt
                obtain ⟨f0, f1, f2⟩ := hR.at_ hx.out
                have HN := Lib.hid (legsOk_at l.tracks.length at_ hx.out)
                cases r1 : inB x.to 0 (l.tracks.length - 1) with
                | false =>
                  go_wp2_with (go_at_call 27; refine (in_any _ _ _ _).mono ?_; rintro e w' ⟨rfl, rfl⟩)
                  go_ret
                  exact ⟨ret_bool (by rw [hT.out, ← HS.out, HN.out, r1]; simp), (by repeat (first | (with_reducible exact hS.ext) | (with_reducible assumption) | (with_reducible exact Ext.refl _) | with_reducible apply Ext.alloc | with_reducible apply Ext.drewN | with_reducible apply Ext.drew | with_reducible refine Ext.setCell ?_ (by simp only []; omega) _))⟩
                | true =>
                  have hx1 := inB_true.1 r1
                  obtain ⟨hx1, hx2⟩ := hx1
                  have hab : (((x.to != at_ + 1) = true ∧ (x.to != at_ - 1) = true) ∧ (x.to == at_ + 1 || x.to == at_ - 1) = false) ∨ (((x.to != at_ + 1) = true ∧ (x.to != at_ - 1) = false) ∧ (x.to == at_ + 1 || x.to == at_ - 1) = true) ∨ (((x.to != at_ + 1) = false ∧ (x.to != at_ - 1) = true) ∧ (x.to == at_ + 1 || x.to == at_ - 1) = true) := by
                    by_cases e1 : x.to = at_ + 1 <;> by_cases e2 : x.to = at_ - 1 <;> simp [e1, e2] <;> omega
                  rcases hab with ⟨⟨a1, a2⟩, a3⟩ | ⟨⟨a1, a2⟩, a3⟩ | ⟨⟨a1, a2⟩, a3⟩
                  · have A3 := Lib.hid a3; clear a3
                    go_wp2_with (go_at_call 27; refine (in_any _ _ _ _).mono ?_; rintro e w' ⟨rfl, rfl⟩)
                    go_ret
                    exact ⟨ret_bool (by rw [hT.out, ← HS.out, HN.out, A3.out]; simp), (by repeat (first | (with_reducible exact hS.ext) | (with_reducible assumption) | (with_reducible exact Ext.refl _) | with_reducible apply Ext.alloc | with_reducible apply Ext.drewN | with_reducible apply Ext.drew | with_reducible refine Ext.setCell ?_ (by simp only []; omega) _))⟩
                  all_goals
                    have A3 := Lib.hid a3; clear a3
                    cases r2 : inB x.run 1 10000 with
                    | false =>
                      go_wp2_with (go_at_call 27; refine (in_any _ _ _ _).mono ?_; rintro e w' ⟨rfl, rfl⟩)
                      go_ret
                      exact ⟨ret_bool (by rw [hT.out, ← HS.out, HN.out, r2]; simp), (by repeat (first | (with_reducible exact hS.ext) | (with_reducible assumption) | (with_reducible exact Ext.refl _) | with_reducible apply Ext.alloc | with_reducible apply Ext.drewN | with_reducible apply Ext.drew | with_reducible refine Ext.setCell ?_ (by simp only []; omega) _))⟩
                    | true => cases r3 : inB x.stay 0 10000 with
                      | false =>
                        go_wp2_with (go_at_call 27; refine (in_any _ _ _ _).mono ?_; rintro e w' ⟨rfl, rfl⟩)
                        go_ret
                        exact ⟨ret_bool (by rw [hT.out, ← HS.out, HN.out, r3]; simp), (by repeat (first | (with_reducible exact hS.ext) | (with_reducible assumption) | (with_reducible exact Ext.refl _) | with_reducible apply Ext.alloc | with_reducible apply Ext.drewN | with_reducible apply Ext.drew | with_reducible refine Ext.setCell ?_ (by simp only []; omega) _))⟩
                      | true =>
                        go_wp2_with (go_at_call 27; refine (in_any _ _ _ _).mono ?_; rintro e w' ⟨rfl, rfl⟩)
                        exact ⟨⟨jj + 1, x.to, by omega, by go_num, rfl, hx1, hx2, by rw [← HS.out, HN.out, r1, r2, r3, A3.out]; simp [Hid], (by repeat (first | (with_reducible exact hS) | apply Lp.alloc | apply Lp.drewN | apply Lp.drew))⟩, (by simp [intOf]; omega)⟩
              · have he : legsOk l.tracks.length at_ (t.legs.drop jj) = true := legsOk_end _ _ (by omega)
                have HE := Lib.hid he; clear he
                go_wp2
                go_ret
                exact ⟨ret_bool (by rw [hT.out, ← HS.out, HE.out]), hS.ext⟩

set_option maxRecDepth 100000 in
set_option maxHeartbeats 1000000 in
theorem l1legs_any {w : World} {l : Line} {u : Value} (hl : IsLine w l u) (hs : l.size ≤ 1048576) :
    Calls Tryd.prog 22 #[u] w fun e w' => e = .returned (.int .i64 (legsN l.trains)) ∧ Ext w w' := by
  obtain ⟨A0, c0, A2, c2, rfl, h0, h2⟩ := hl
  clear h0
  have hs1 : l.trains.length ≤ 1048576 ∧ legsN l.trains ≤ 1048576 := by unfold Line.size at hs; omega
  clear hs
  obtain ⟨hs1, hs2⟩ := hs1
  go_enter Tryd.func22, Tryd.ntmps22
  go_wp2
  go_loopw [3, 9] (fun a j wr => ∃ (jj q : Nat), jj ≤ l.trains.length ∧ j = .int .i64 jj ∧ a = .int .i64 q ∧ q ≤ 1048576 ∧ Hid (q + legsN (l.trains.drop jj) = legsN l.trains) ∧ Ext w wr) (fun _ j _ => l.trains.length - (intOf j).toNat)
  case atStart => exact ⟨0, 0, Nat.zero_le _, rfl, rfl, by omega, by simp [Hid], (by repeat (first | (with_reducible assumption) | (with_reducible exact Ext.refl _) | apply Ext.alloc | apply Ext.drewN | apply Ext.drew))⟩
  case round =>
    obtain ⟨jj, q, hjj, rfl, rfl, hq, HS, hE0⟩ := hrel
    obtain ⟨hcl, hup⟩ := (Lp.of_ext hE0).open0
    by_cases hlt : jj < l.trains.length
    · obtain ⟨x, hx⟩ := hid_of_lt hlt
      obtain ⟨b, o, rfl, hb⟩ := h2.base hlt
      obtain ⟨e0, e1, e2, e3, A4, c4, e4, hR⟩ := h2.at_ hx.out
      have HN := Lib.hid (legsN_at hx.out)
      have hle : q + x.legs.length ≤ 1048576 := by have := HS.out; rw [HN.out] at this; omega
      go_wp2
      exact ⟨⟨jj + 1, q + x.legs.length, by omega, by go_num, by go_num, hle, by rw [← HS.out, HN.out]; unfold Hid; omega, (by repeat (first | (with_reducible assumption) | (with_reducible exact Ext.refl _) | apply Ext.alloc | apply Ext.drewN | apply Ext.drew))⟩, (by simp [intOf]; omega)⟩
    · have he : legsN (l.trains.drop jj) = 0 := legsN_end (by omega)
      have HE := Lib.hid he; clear he
      go_wp2
      go_ret
      exact ⟨ret_i64 (by rw [← HS.out, HE.out]; simp), hE0⟩

end Go.Proofs.YthhkbfjolmgloaaDoor
