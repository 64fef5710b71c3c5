/- spec.LineOk and impl.LineOk both answer the plain fault. Condition: at most 2^20 values. -/
import Derived.Test.YthhkbfjolmgloaaDoorRight
namespace Go.Proofs.YthhkbfjolmgloaaDoor
open Go.RowKit
set_option linter.unusedVariables false
set_option linter.unusedSimpArgs false

set_option maxRecDepth 100000 in
set_option maxHeartbeats 1000000 in
theorem spec_LineOk_any {w : World} {l : Line} {u : Value} (hl : IsLine w l u) (hs : l.size ≤ 1048576) :
    Calls Tryd.prog 10 #[u] w fun e w' => e = .returned (faultV (fault l)) ∧ Ext w w' := by
  have HL := Lib.hid (fun (W : World) (e : Ext w W) => hl.ext e)
  obtain ⟨A0, c0, A2, c2, rfl, h0, h2⟩ := hl
  have hs1 : l.tracks.length ≤ 1048576 ∧ l.trains.length ≤ 1048576 ∧ legsN l.trains ≤ 1048576 := by unfold Line.size at hs; omega
  have hsm := Line.small_of hs
  have hs0 := Lib.hid hs; clear hs
  obtain ⟨hs1, hs2, hs3⟩ := hs1
  have hbad : cntOk l = false → Hid (fault l = (1, 0)) := fun h => by rw [Hid, fault, h]; rfl
  have hgood : cntOk l = true → Hid (fault l = match findI (fun i k => if inB k 1 10 then none else some i) 0 l.tracks with
    | some i => (2, (i : Int))
    | none => match findI (fun i t => if trOk l.tracks.length t then none else some i) 0 l.trains with
      | some i => (3, (i : Int))
      | none => (0, 0)) := fun h => by rw [Hid, fault, h]; rfl
  cases q1 : inB l.tracks.length 2 12 with
  | false =>
    have hf := hbad (by simp [cntOk, q1])
    clear hbad hgood
    go_enter Tryd.func10, Tryd.ntmps10
    go_wp2_with (go_at_call 21; refine (l1in_any _ _ _ _).mono ?_; rintro e w' ⟨rfl, rfl⟩)
    rw [hf.out]
    exact bodyPost_ret (v := .agg #[.int .i64 1, .int .i64 0]) (by simp [results, Tryd.results10, go_sem]) rfl ⟨rfl, (by repeat (first | (with_reducible assumption) | (with_reducible exact Ext.refl _) | apply Ext.alloc | apply Ext.drewN | apply Ext.drew))⟩
  | true => cases q2 : inB l.gap 0 10000 with
    | false =>
      have hf := hbad (by simp [cntOk, q1, q2])
      clear hbad hgood
      go_enter Tryd.func10, Tryd.ntmps10
      go_wp2_with (go_at_call 21; refine (l1in_any _ _ _ _).mono ?_; rintro e w' ⟨rfl, rfl⟩)
      rw [hf.out]
      exact bodyPost_ret (v := .agg #[.int .i64 1, .int .i64 0]) (by simp [results, Tryd.results10, go_sem]) rfl ⟨rfl, (by repeat (first | (with_reducible assumption) | (with_reducible exact Ext.refl _) | apply Ext.alloc | apply Ext.drewN | apply Ext.drew))⟩
    | true =>
      by_cases q3 : l.trains.length ≤ 5
      · by_cases q4 : legsN l.trains ≤ 10
        · have HF := hgood (by simp [cntOk, q1, q2, q3, q4])
          clear hbad hgood
          go_enter Tryd.func10, Tryd.ntmps10
          go_wp2_with (first | (go_at_call 21; refine (l1in_any _ _ _ _).mono ?_; rintro e w' ⟨rfl, rfl⟩) | (go_at_call 22; refine (l1legs_any (HL.out _ (by repeat (first | (with_reducible assumption) | (with_reducible exact Ext.refl _) | apply Ext.alloc | apply Ext.drewN | apply Ext.drew))) hs0.out).mono ?_; rintro e w1 ⟨rfl, hE⟩; have hS := Lp.trans (Lp.start2 w _ _ _ _) hE; obtain ⟨k1, k2, k3, k4, k5, k6⟩ := hS.open2; have fr := box_frozen (hS.box _ List.mem_cons_self)))
          clear q1 q2 k1 k2 k3 k4 k5 k6 fr
          go_loopw [33] (fun j wr => ∃ (jj : Nat), jj ≤ l.tracks.length ∧ j = .int .i64 jj ∧ Hid (findI (fun i k => if inB k 1 10 then none else some i) jj (l.tracks.drop jj) = findI (fun i k => if inB k 1 10 then none else some i) 0 l.tracks) ∧ Lp w wr [(w.heap.size + 1, #[.int .i64 0, .int .i64 0], 35), (w.heap.size, #[.slice A0 l.tracks.length c0, .int .i64 l.gap, .slice A2 l.trains.length c2], 25)]) (fun j _ => l.tracks.length - (intOf j).toNat)
          case atStart => exact ⟨0, Nat.zero_le _, rfl, by simp [Hid], (by repeat (first | (with_reducible exact hS) | apply Lp.alloc | apply Lp.drewN | apply Lp.drew))⟩
          case round =>
            clear hS
            obtain ⟨jj, hjj, rfl, HS, hS⟩ := hrel
            obtain ⟨k1, k2, k3, k4, k5, k6⟩ := hS.open2
            have fr := box_frozen (hS.box _ List.mem_cons_self)
            by_cases hlt : jj < l.tracks.length
            · obtain ⟨x, hx⟩ := hid_of_lt hlt
              obtain ⟨b, o, rfl, hb⟩ := h0.base hlt
              have f0 := h0.at_ hx.out
              have HN := Lib.hid (findI_at (fun i k => if inB k 1 10 then none else some i) hx.out)
              cases r1 : inB x 1 10 with
              | false =>
                go_wp2_with (go_at_call 21; refine (l1in_any _ _ _ _).mono ?_; rintro e w' ⟨rfl, rfl⟩)
                have hf : fault l = (2, (jj : Int)) := by rw [HF.out, ← HS.out, HN.out, r1]; simp
                rw [hf]
                exact bodyPost_ret (v := .agg #[.int .i64 2, .int .i64 jj]) (by simp [results, Tryd.results10, go_sem, k3, k4]) rfl ⟨rfl, (by repeat (first | (with_reducible exact hS.ext) | (with_reducible assumption) | (with_reducible exact Ext.refl _) | with_reducible apply Ext.alloc | with_reducible apply Ext.drewN | with_reducible apply Ext.drew | with_reducible refine Ext.setCell ?_ (by simp only []; omega) _))⟩
              | true =>
                go_wp2_with (go_at_call 21; refine (l1in_any _ _ _ _).mono ?_; rintro e w' ⟨rfl, rfl⟩)
                exact ⟨⟨jj + 1, by omega, by go_num, by rw [← HS.out, HN.out, r1]; simp [Hid], (by repeat (first | (with_reducible exact hS) | apply Lp.alloc | apply Lp.drewN | apply Lp.drew))⟩, (by simp [intOf]; omega)⟩
            · have he := findI_end (fun (i : Nat) (k : Int) => if inB k 1 10 then none else some i) (l := l.tracks) (i := jj) (by omega)
              have HE : Hid (findI (fun i k => if inB k 1 10 then none else some i) 0 l.tracks = none) := by rw [Hid, ← HS.out, he]
              clear he HS
              go_wp2_with fail
              clear k1 k2 k3 k4 k5 k6 fr
              go_loopw [47] (fun j wr => ∃ (jj : Nat), jj ≤ l.trains.length ∧ j = .int .i64 jj ∧ Hid (findI (fun i t => if trOk l.tracks.length t then none else some i) jj (l.trains.drop jj) = findI (fun i t => if trOk l.tracks.length t then none else some i) 0 l.trains) ∧ Lp w wr [(w.heap.size + 1, #[.int .i64 0, .int .i64 0], 35), (w.heap.size, #[.slice A0 l.tracks.length c0, .int .i64 l.gap, .slice A2 l.trains.length c2], 25)]) (fun j _ => l.trains.length - (intOf j).toNat)
              case atStart => exact ⟨0, Nat.zero_le _, rfl, by simp [Hid], (by repeat (first | (with_reducible exact hS) | apply Lp.alloc | apply Lp.drewN | apply Lp.drew))⟩
              case round =>
                clear hS
                obtain ⟨jj, hjj, rfl, HS, hS⟩ := hrel
                obtain ⟨k1, k2, k3, k4, k5, k6⟩ := hS.open2
                have fr := box_frozen (hS.box _ List.mem_cons_self)
                by_cases hlt : jj < l.trains.length
                · obtain ⟨x, hx⟩ := hid_of_lt hlt
                  obtain ⟨b, o, rfl, hb⟩ := h2.base hlt
                  obtain ⟨e0, e1, e2, e3, A4, c4, e4, hR⟩ := h2.at_ hx.out
                  have HI := Lib.hid (fun W (e : Ext w W) => isTrain_mk (c4 := c4) (hR.ext e))
                  have hN := hsm.legs _ _ hx.out
                  have HN := Lib.hid (findI_at (fun i t => if trOk l.tracks.length t then none else some i) hx.out)
                  cases r1 : trOk l.tracks.length x with
                  | false =>
                    go_wp2_with (go_at_call 23; refine (l1train_any (HL.out _ (by repeat (first | (with_reducible exact hS.ext) | (with_reducible assumption) | (with_reducible exact Ext.refl _) | with_reducible apply Ext.alloc | with_reducible apply Ext.drewN | with_reducible apply Ext.drew | with_reducible refine Ext.setCell ?_ (by simp only []; omega) _))) (HI.out _ (by repeat (first | (with_reducible exact hS.ext) | (with_reducible assumption) | (with_reducible exact Ext.refl _) | with_reducible apply Ext.alloc | with_reducible apply Ext.drewN | with_reducible apply Ext.drew | with_reducible refine Ext.setCell ?_ (by simp only []; omega) _))) hs1 hN).mono ?_; rintro e w1 ⟨rfl, hE⟩; have hT := Lp.trans (by repeat (first | (with_reducible exact hS) | apply Lp.alloc | apply Lp.drewN | apply Lp.drew)) hE; obtain ⟨m1, m2, m3, m4, m5, m6⟩ := hT.open2; have fr2 := box_frozen (hT.box _ List.mem_cons_self))
                    have hf : fault l = (3, (jj : Int)) := by rw [HF.out, HE.out, ← HS.out, HN.out, r1]; simp
                    rw [hf]
                    exact bodyPost_ret (v := .agg #[.int .i64 3, .int .i64 jj]) (by simp [results, Tryd.results10, go_sem, m3, m4]) rfl ⟨rfl, Ext.setCell (Ext.setCell hT.ext (by simp only []; omega) _) (by simp only []; omega) _⟩
                  | true =>
                    go_wp2_with (go_at_call 23; refine (l1train_any (HL.out _ (by repeat (first | (with_reducible exact hS.ext) | (with_reducible assumption) | (with_reducible exact Ext.refl _) | with_reducible apply Ext.alloc | with_reducible apply Ext.drewN | with_reducible apply Ext.drew | with_reducible refine Ext.setCell ?_ (by simp only []; omega) _))) (HI.out _ (by repeat (first | (with_reducible exact hS.ext) | (with_reducible assumption) | (with_reducible exact Ext.refl _) | with_reducible apply Ext.alloc | with_reducible apply Ext.drewN | with_reducible apply Ext.drew | with_reducible refine Ext.setCell ?_ (by simp only []; omega) _))) hs1 hN).mono ?_; rintro e w1 ⟨rfl, hE⟩; have hT := Lp.trans (by repeat (first | (with_reducible exact hS) | apply Lp.alloc | apply Lp.drewN | apply Lp.drew)) hE; obtain ⟨m1, m2, m3, m4, m5, m6⟩ := hT.open2; have fr2 := box_frozen (hT.box _ List.mem_cons_self))
                    exact ⟨⟨jj + 1, by omega, by go_num, by rw [← HS.out, HN.out, r1]; simp [Hid], hT⟩, (by simp [intOf]; omega)⟩
                · have he := findI_end (fun (i : Nat) (t : Train) => if trOk l.tracks.length t then none else some i) (l := l.trains) (i := jj) (by omega)
                  have hf : Hid (fault l = (0, 0)) := by rw [Hid, HF.out, HE.out, ← HS.out, he]
                  clear he
                  go_wp2
                  rw [hf.out]
                  exact bodyPost_ret (v := .agg #[.int .i64 0, .int .i64 0]) (by simp [results, Tryd.results10, go_sem, k3, k4]) rfl ⟨rfl, (by repeat (first | (with_reducible exact hS.ext) | (with_reducible assumption) | (with_reducible exact Ext.refl _) | with_reducible apply Ext.alloc | with_reducible apply Ext.drewN | with_reducible apply Ext.drew | with_reducible refine Ext.setCell ?_ (by simp only []; omega) _))⟩
        · have hf := hbad (by simp [cntOk, q1, q2, q3, q4])
          clear hbad hgood
          go_enter Tryd.func10, Tryd.ntmps10
          go_wp2_with (first | (go_at_call 21; refine (l1in_any _ _ _ _).mono ?_; rintro e w' ⟨rfl, rfl⟩) | (go_at_call 22; refine (l1legs_any (HL.out _ (by repeat (first | (with_reducible assumption) | (with_reducible exact Ext.refl _) | apply Ext.alloc | apply Ext.drewN | apply Ext.drew))) hs0.out).mono ?_; rintro e w1 ⟨rfl, hE⟩; have hS := Lp.trans (Lp.start2 w _ _ _ _) hE; obtain ⟨k1, k2, k3, k4, k5, k6⟩ := hS.open2; have fr := box_frozen (hS.box _ List.mem_cons_self)))
          rw [hf.out]
          exact bodyPost_ret (v := .agg #[.int .i64 1, .int .i64 0]) (by simp [results, Tryd.results10, go_sem, k3, k4]) rfl ⟨rfl, (by repeat (first | (with_reducible exact hS.ext) | (with_reducible assumption) | (with_reducible exact Ext.refl _) | with_reducible apply Ext.alloc | with_reducible apply Ext.drewN | with_reducible apply Ext.drew | with_reducible refine Ext.setCell ?_ (by simp only []; omega) _))⟩
      · have hf := hbad (by simp [cntOk, q1, q2, q3])
        clear hbad hgood
        go_enter Tryd.func10, Tryd.ntmps10
        go_wp2_with (go_at_call 21; refine (l1in_any _ _ _ _).mono ?_; rintro e w' ⟨rfl, rfl⟩)
        rw [hf.out]
        exact bodyPost_ret (v := .agg #[.int .i64 1, .int .i64 0]) (by simp [results, Tryd.results10, go_sem]) rfl ⟨rfl, (by repeat (first | (with_reducible assumption) | (with_reducible exact Ext.refl _) | apply Ext.alloc | apply Ext.drewN | apply Ext.drew))⟩

set_option maxRecDepth 100000 in
set_option maxHeartbeats 1000000 in
theorem impl_LineOk_any {w : World} {l : Line} {u : Value} (hl : IsLine w l u) (hs : l.size ≤ 1048576) :
    Calls Tryd.prog 15 #[u] w fun e w' => e = .returned (faultV (fault l)) ∧ Ext w w' := by
  have HL := Lib.hid (fun (W : World) (e : Ext w W) => hl.ext e)
  obtain ⟨A0, c0, A2, c2, rfl, h0, h2⟩ := hl
  have hs1 : l.tracks.length ≤ 1048576 ∧ l.trains.length ≤ 1048576 ∧ legsN l.trains ≤ 1048576 := by unfold Line.size at hs; omega
  have hsm := Line.small_of hs
  have hs0 := Lib.hid hs; clear hs
  obtain ⟨hs1, hs2, hs3⟩ := hs1
  have hbad : cntOk l = false → Hid (fault l = (1, 0)) := fun h => by rw [Hid, fault, h]; rfl
  have hgood : cntOk l = true → Hid (fault l = match findI (fun i k => if inB k 1 10 then none else some i) 0 l.tracks with
    | some i => (2, (i : Int))
    | none => match findI (fun i t => if trOk l.tracks.length t then none else some i) 0 l.trains with
      | some i => (3, (i : Int))
      | none => (0, 0)) := fun h => by rw [Hid, fault, h]; rfl
  go_enter Tryd.func15, Tryd.ntmps15
  go_wp2_with fail
  go_loopw [3, 13] (fun a j wr => ∃ (jj q : Nat), jj ≤ l.trains.length ∧ j = .int .i64 jj ∧ a = .int .i64 q ∧ q ≤ 1048576 ∧ Hid (q + legsN (l.trains.drop jj) = legsN l.trains) ∧ Lp w wr [(w.heap.size + 1, #[.int .i64 0, .int .i64 0], 35), (w.heap.size, #[.slice A0 l.tracks.length c0, .int .i64 l.gap, .slice A2 l.trains.length c2], 25)]) (fun _ j _ => l.trains.length - (intOf j).toNat)
  case atStart => exact ⟨0, 0, Nat.zero_le _, rfl, rfl, by omega, by simp [Hid], (by repeat (first | (with_reducible exact hS) | (with_reducible exact Lp.start2 _ _ _ _ _) | apply Lp.alloc | apply Lp.drewN | apply Lp.drew))⟩
  case round =>
    obtain ⟨jj, q, hjj, rfl, rfl, hq, HS, hS⟩ := hrel
    obtain ⟨k1, k2, k3, k4, k5, k6⟩ := hS.open2
    have fr := box_frozen (hS.box _ List.mem_cons_self)
    by_cases hlt : jj < l.trains.length
    · obtain ⟨x, hx⟩ := hid_of_lt hlt
      obtain ⟨b, o, rfl, hb⟩ := h2.base hlt
      obtain ⟨e0, e1, e2, e3, A4, c4, e4, hR⟩ := h2.at_ hx.out
      have HN := Lib.hid (legsN_at hx.out)
      have hle : q + x.legs.length ≤ 1048576 := by have := HS.out; rw [HN.out] at this; omega
      clear hbad hgood
      go_wp2_with fail
      exact ⟨⟨jj + 1, q + x.legs.length, by omega, by go_num, by go_num, hle, by rw [← HS.out, HN.out]; unfold Hid; omega, (by repeat (first | (with_reducible exact hS) | apply Lp.alloc | apply Lp.drewN | apply Lp.drew))⟩, (by simp [intOf]; omega)⟩
    · have he : legsN (l.trains.drop jj) = 0 := legsN_end (by omega)
      have hq' : q = legsN l.trains := by have := HS.out; rw [he] at this; omega
      have hjj' : jj = l.trains.length := by omega
      have HQ := Lib.hid hq'; have HJ := Lib.hid hjj'; clear hq' hjj' he HS
      cases q1 : inB l.tracks.length 2 12 with
      | false =>
        have hf := hbad (by simp [cntOk, q1])
        clear hbad hgood
        go_wp2_with (go_at_call 27; refine (in_any _ _ _ _).mono ?_; rintro e w' ⟨rfl, rfl⟩)
        rw [hf.out]
        exact bodyPost_ret (v := .agg #[.int .i64 1, .int .i64 0]) (by simp [results, Tryd.results15, go_sem, k3, k4]) rfl ⟨rfl, (by repeat (first | (with_reducible exact hS.ext) | (with_reducible assumption) | (with_reducible exact Ext.refl _) | with_reducible apply Ext.alloc | with_reducible apply Ext.drewN | with_reducible apply Ext.drew | with_reducible refine Ext.setCell ?_ (by simp only []; omega) _))⟩
      | true => cases q2 : inB l.gap 0 10000 with
        | false =>
          have hf := hbad (by simp [cntOk, q1, q2])
          clear hbad hgood
          go_wp2_with (go_at_call 27; refine (in_any _ _ _ _).mono ?_; rintro e w' ⟨rfl, rfl⟩)
          rw [hf.out]
          exact bodyPost_ret (v := .agg #[.int .i64 1, .int .i64 0]) (by simp [results, Tryd.results15, go_sem, k3, k4]) rfl ⟨rfl, (by repeat (first | (with_reducible exact hS.ext) | (with_reducible assumption) | (with_reducible exact Ext.refl _) | with_reducible apply Ext.alloc | with_reducible apply Ext.drewN | with_reducible apply Ext.drew | with_reducible refine Ext.setCell ?_ (by simp only []; omega) _))⟩
        | true =>
          by_cases q3 : l.trains.length ≤ 5
          · by_cases q4 : q ≤ 10
            · have HF := hgood (by simp [cntOk, q1, q2, q3, ← HQ.out, q4])
              clear hbad hgood
              go_wp2_with (go_at_call 27; refine (in_any _ _ _ _).mono ?_; rintro e w' ⟨rfl, rfl⟩)
              clear q1 q2 k1 k2 k3 k4 k5 k6 fr
              go_loopw [48] (fun j wr => ∃ (jj : Nat), jj ≤ l.tracks.length ∧ j = .int .i64 jj ∧ Hid (findI (fun i k => if inB k 1 10 then none else some i) jj (l.tracks.drop jj) = findI (fun i k => if inB k 1 10 then none else some i) 0 l.tracks) ∧ Lp w wr [(w.heap.size + 1, #[.int .i64 0, .int .i64 0], 35), (w.heap.size, #[.slice A0 l.tracks.length c0, .int .i64 l.gap, .slice A2 l.trains.length c2], 25)]) (fun j _ => l.tracks.length - (intOf j).toNat)
              case atStart => exact ⟨0, Nat.zero_le _, rfl, by simp [Hid], (by repeat (first | (with_reducible exact hS) | apply Lp.alloc | apply Lp.drewN | apply Lp.drew))⟩
              case round =>
                clear hS
                obtain ⟨jj, hjj, rfl, HS, hS⟩ := hrel
                obtain ⟨k1, k2, k3, k4, k5, k6⟩ := hS.open2
                have fr := box_frozen (hS.box _ List.mem_cons_self)
                by_cases hlt : jj < l.tracks.length
                · obtain ⟨x, hx⟩ := hid_of_lt hlt
                  obtain ⟨b, o, rfl, hb⟩ := h0.base hlt
                  have f0 := h0.at_ hx.out
                  have HN := Lib.hid (findI_at (fun i k => if inB k 1 10 then none else some i) hx.out)
                  cases r1 : inB x 1 10 with
                  | false =>
                    go_wp2_with (go_at_call 27; refine (in_any _ _ _ _).mono ?_; rintro e w' ⟨rfl, rfl⟩)
                    have hf : fault l = (2, (jj : Int)) := by rw [HF.out, ← HS.out, HN.out, r1]; simp
                    rw [hf]
                    exact bodyPost_ret (v := .agg #[.int .i64 2, .int .i64 jj]) (by simp [results, Tryd.results15, go_sem, k3, k4]) rfl ⟨rfl, (by repeat (first | (with_reducible exact hS.ext) | (with_reducible assumption) | (with_reducible exact Ext.refl _) | with_reducible apply Ext.alloc | with_reducible apply Ext.drewN | with_reducible apply Ext.drew | with_reducible refine Ext.setCell ?_ (by simp only []; omega) _))⟩
                  | true =>
                    go_wp2_with (go_at_call 27; refine (in_any _ _ _ _).mono ?_; rintro e w' ⟨rfl, rfl⟩)
                    exact ⟨⟨jj + 1, by omega, by go_num, by rw [← HS.out, HN.out, r1]; simp [Hid], (by repeat (first | (with_reducible exact hS) | apply Lp.alloc | apply Lp.drewN | apply Lp.drew))⟩, (by simp [intOf]; omega)⟩
                · have he := findI_end (fun (i : Nat) (k : Int) => if inB k 1 10 then none else some i) (l := l.tracks) (i := jj) (by omega)
                  have HE : Hid (findI (fun i k => if inB k 1 10 then none else some i) 0 l.tracks = none) := by rw [Hid, ← HS.out, he]
                  clear he HS
                  go_wp2_with fail
                  clear k1 k2 k3 k4 k5 k6 fr
                  go_loopw [62] (fun j wr => ∃ (jj : Nat), jj ≤ l.trains.length ∧ j = .int .i64 jj ∧ Hid (findI (fun i t => if trOk l.tracks.length t then none else some i) jj (l.trains.drop jj) = findI (fun i t => if trOk l.tracks.length t then none else some i) 0 l.trains) ∧ Lp w wr [(w.heap.size + 1, #[.int .i64 0, .int .i64 0], 35), (w.heap.size, #[.slice A0 l.tracks.length c0, .int .i64 l.gap, .slice A2 l.trains.length c2], 25)]) (fun j _ => l.trains.length - (intOf j).toNat)
                  case atStart => exact ⟨0, Nat.zero_le _, rfl, by simp [Hid], (by repeat (first | (with_reducible exact hS) | apply Lp.alloc | apply Lp.drewN | apply Lp.drew))⟩
                  case round =>
                    clear hS
                    obtain ⟨jj, hjj, rfl, HS, hS⟩ := hrel
                    obtain ⟨k1, k2, k3, k4, k5, k6⟩ := hS.open2
                    have fr := box_frozen (hS.box _ List.mem_cons_self)
                    by_cases hlt : jj < l.trains.length
                    · obtain ⟨x, hx⟩ := hid_of_lt hlt
                      obtain ⟨b, o, rfl, hb⟩ := h2.base hlt
                      obtain ⟨e0, e1, e2, e3, A4, c4, e4, hR⟩ := h2.at_ hx.out
                      have HI := Lib.hid (fun W (e : Ext w W) => isTrain_mk (c4 := c4) (hR.ext e))
                      have hN := hsm.legs _ _ hx.out
                      have HN := Lib.hid (findI_at (fun i t => if trOk l.tracks.length t then none else some i) hx.out)
                      cases r1 : trOk l.tracks.length x with
                      | false =>
                        go_wp2_with (go_at_call 28; refine (trainOk_any (HL.out _ (by repeat (first | (with_reducible exact hS.ext) | (with_reducible assumption) | (with_reducible exact Ext.refl _) | with_reducible apply Ext.alloc | with_reducible apply Ext.drewN | with_reducible apply Ext.drew | with_reducible refine Ext.setCell ?_ (by simp only []; omega) _))) (HI.out _ (by repeat (first | (with_reducible exact hS.ext) | (with_reducible assumption) | (with_reducible exact Ext.refl _) | with_reducible apply Ext.alloc | with_reducible apply Ext.drewN | with_reducible apply Ext.drew | with_reducible refine Ext.setCell ?_ (by simp only []; omega) _))) hs1 hN).mono ?_; rintro e w1 ⟨rfl, hE⟩; have hT := Lp.trans (by repeat (first | (with_reducible exact hS) | apply Lp.alloc | apply Lp.drewN | apply Lp.drew)) hE; obtain ⟨m1, m2, m3, m4, m5, m6⟩ := hT.open2; have fr2 := box_frozen (hT.box _ List.mem_cons_self))
                        have hf : fault l = (3, (jj : Int)) := by rw [HF.out, HE.out, ← HS.out, HN.out, r1]; simp
                        rw [hf]
                        exact bodyPost_ret (v := .agg #[.int .i64 3, .int .i64 jj]) (by simp [results, Tryd.results15, go_sem, m3, m4]) rfl ⟨rfl, Ext.setCell (Ext.setCell hT.ext (by simp only []; omega) _) (by simp only []; omega) _⟩
                      | true =>
                        go_wp2_with (go_at_call 28; refine (trainOk_any (HL.out _ (by repeat (first | (with_reducible exact hS.ext) | (with_reducible assumption) | (with_reducible exact Ext.refl _) | with_reducible apply Ext.alloc | with_reducible apply Ext.drewN | with_reducible apply Ext.drew | with_reducible refine Ext.setCell ?_ (by simp only []; omega) _))) (HI.out _ (by repeat (first | (with_reducible exact hS.ext) | (with_reducible assumption) | (with_reducible exact Ext.refl _) | with_reducible apply Ext.alloc | with_reducible apply Ext.drewN | with_reducible apply Ext.drew | with_reducible refine Ext.setCell ?_ (by simp only []; omega) _))) hs1 hN).mono ?_; rintro e w1 ⟨rfl, hE⟩; have hT := Lp.trans (by repeat (first | (with_reducible exact hS) | apply Lp.alloc | apply Lp.drewN | apply Lp.drew)) hE; obtain ⟨m1, m2, m3, m4, m5, m6⟩ := hT.open2; have fr2 := box_frozen (hT.box _ List.mem_cons_self))
                        exact ⟨⟨jj + 1, by omega, by go_num, by rw [← HS.out, HN.out, r1]; simp [Hid], hT⟩, (by simp [intOf]; omega)⟩
                    · have he := findI_end (fun (i : Nat) (t : Train) => if trOk l.tracks.length t then none else some i) (l := l.trains) (i := jj) (by omega)
                      have hf : Hid (fault l = (0, 0)) := by rw [Hid, HF.out, HE.out, ← HS.out, he]
                      clear he
                      go_wp2
                      rw [hf.out]
                      exact bodyPost_ret (v := .agg #[.int .i64 0, .int .i64 0]) (by simp [results, Tryd.results15, go_sem, k3, k4]) rfl ⟨rfl, (by repeat (first | (with_reducible exact hS.ext) | (with_reducible assumption) | (with_reducible exact Ext.refl _) | with_reducible apply Ext.alloc | with_reducible apply Ext.drewN | with_reducible apply Ext.drew | with_reducible refine Ext.setCell ?_ (by simp only []; omega) _))⟩
            · have hf := hbad (by simp [cntOk, q1, q2, q3, ← HQ.out, q4])
              clear hbad hgood
              go_wp2_with (go_at_call 27; refine (in_any _ _ _ _).mono ?_; rintro e w' ⟨rfl, rfl⟩)
              rw [hf.out]
              exact bodyPost_ret (v := .agg #[.int .i64 1, .int .i64 0]) (by simp [results, Tryd.results15, go_sem, k3, k4]) rfl ⟨rfl, (by repeat (first | (with_reducible exact hS.ext) | (with_reducible assumption) | (with_reducible exact Ext.refl _) | with_reducible apply Ext.alloc | with_reducible apply Ext.drewN | with_reducible apply Ext.drew | with_reducible refine Ext.setCell ?_ (by simp only []; omega) _))⟩
          · have hf := hbad (by simp [cntOk, q1, q2, q3])
            clear hbad hgood
            go_wp2_with (go_at_call 27; refine (in_any _ _ _ _).mono ?_; rintro e w' ⟨rfl, rfl⟩)
            rw [hf.out]
            exact bodyPost_ret (v := .agg #[.int .i64 1, .int .i64 0]) (by simp [results, Tryd.results15, go_sem, k3, k4]) rfl ⟨rfl, (by repeat (first | (with_reducible exact hS.ext) | (with_reducible assumption) | (with_reducible exact Ext.refl _) | with_reducible apply Ext.alloc | with_reducible apply Ext.drewN | with_reducible apply Ext.drew | with_reducible refine Ext.setCell ?_ (by simp only []; omega) _))⟩

/-- The line is right. -/
def right (l : Line) : Bool := (fault l).1 == 0
theorem fault_zero {l : Line} (h : right l = true) : fault l = (0, 0) := by
  unfold right at h
  revert h
  unfold fault
  split
  · split
    · simp
    · split <;> simp
  · simp
end Go.Proofs.YthhkbfjolmgloaaDoor
