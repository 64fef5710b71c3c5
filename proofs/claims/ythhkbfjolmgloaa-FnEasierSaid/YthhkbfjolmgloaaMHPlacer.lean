/- A placer's memory (spec.l2P, impl.placer), for reading; spec's there answers how many trains have a station's tracks. Condition: the line is right, the legs were placed so. -/
import Derived.Test.YthhkbfjolmgloaaML7a
import Derived.Test.YthhkbfjolmgloaaMHOrderX
import Derived.IntWalk
namespace Go.Proofs.Ythhkbfjolmgloaa
open Go.RowKit
set_option linter.unusedVariables false
set_option linter.unusedSimpArgs false
/-- How many legs of a train are placed. -/
def rl (p : List (List Int)) (i : Nat) : Nat := (p.getD i []).length
theorem endT_rl (l : Line) (p : List (List Int)) (j m : Nat) : endT l p j m = if m + 1 < (rl p j) then st p j (m + 1) else if m + 1 = (l.tr j).legs.length then st p j m + (l.leg j m).run else 1099511627776 := rfl
/-- A placer's cells, for reading. -/
structure RdP (w : World) (l : Line) (p : List (List Int)) (last : Int) (gp : Nat) (A0 : Option Addr) (c0 : Nat) (A2 : Option Addr) (c2 : Nat) (AR : Option Addr) (cR gr : Nat) (br : Nat → Nat) : Prop where
  line : IsLine w l (.agg #[.slice A0 l.tracks.length c0, .int .i64 l.gap, .slice A2 l.trains.length c2])
  b0 : w.cell? ⟨gp, 0, none⟩ = some (.slice A0 l.tracks.length c0)
  b1 : w.cell? ⟨gp, 1, none⟩ = some (.int .i64 l.gap)
  b2 : w.cell? ⟨gp, 2, none⟩ = some (.slice A2 l.trains.length c2)
  b3 : w.cell? ⟨gp, 3, none⟩ = some (.slice AR l.trains.length cR)
  b4 : w.cell? ⟨gp, 4, none⟩ = some (.int .i64 last)
  lt : gp < w.heap.size
  base : 0 < l.trains.length → AR = some ⟨gr, 0, none⟩ ∧ gr < w.heap.size
  row : ∀ i, i < l.trains.length → ∃ A c, w.cell? ⟨gr, i, none⟩ = some (.slice A (rl p i) c) ∧ (0 < (rl p i) → A = some ⟨br i, 0, none⟩ ∧ br i < w.heap.size)
  st : ∀ i k, i < l.trains.length → k < (rl p i) → w.cell? ⟨br i, k, none⟩ = some (.int .i64 (st p i k))
theorem RdP.ext {w w' : World} {l : Line} {p : List (List Int)} {last : Int} {gp : Nat} {A0 : Option Addr} {c0 : Nat} {A2 : Option Addr} {c2 : Nat} {AR : Option Addr} {cR gr : Nat} {br : Nat → Nat} (h : RdP w l p last gp A0 c0 A2 c2 AR cR gr br) (e : Ext w w') : RdP w' l p last gp A0 c0 A2 c2 AR cR gr br where
  line := h.line.ext e
  b0 := (e.cells.1 gp _ h.lt).trans h.b0
  b1 := (e.cells.1 gp _ h.lt).trans h.b1
  b2 := (e.cells.1 gp _ h.lt).trans h.b2
  b3 := (e.cells.1 gp _ h.lt).trans h.b3
  b4 := (e.cells.1 gp _ h.lt).trans h.b4
  lt := e.up _ h.lt
  base := fun hn => ⟨(h.base hn).1, e.up _ (h.base hn).2⟩
  row := fun i hi => by
    obtain ⟨A, c, h1, h2⟩ := h.row i hi
    exact ⟨A, c, (e.cells.1 gr _ (h.base (by omega)).2).trans h1, fun hz => ⟨(h2 hz).1, e.up _ (h2 hz).2⟩⟩
  st := fun i k hi hk => by
    obtain ⟨A, c, h1, h2⟩ := h.row i hi
    exact (e.cells.1 (br i) _ (h2 (by omega)).2).trans (h.st i k hi hk)
def hasF (l : Line) (p : List (List Int)) (s x : Int) (j m : Nat) : Int := if (l.leg j m).to = s ∧ x ≤ endT l p j m then 1 else 0
theorem cnt_hasF (l : Line) (p : List (List Int)) (s x : Int) : (cnt (ends l p s) x : Int) = sumF (fun j => sumF (hasF l p s x j) 0 (rl p j)) 0 l.trains.length := cnt_ends l p s x
structure Few (l : Line) (p : List (List Int)) : Prop where
  len : ∀ i, i < l.trains.length → (rl p i) ≤ (l.tr i).legs.length
  at_ : ∀ i k, i < l.trains.length → k < (rl p i) → 0 ≤ st p i k ∧ st p i k ≤ 1000000
theorem Good.few {l : Line} {p : List (List Int)} {last : Int} (G : Good l p last) (h : last ≤ 1000000) : Few l p := ⟨G.len, fun i k hi hk => by have := G.at_ i k hi hk; omega⟩
set_option maxRecDepth 100000 in
set_option maxHeartbeats 8000000 in
theorem there_any {w : World} {l : Line} {p : List (List Int)} {last : Int} {gp : Nat} {A0 : Option Addr} {c0 : Nat} {A2 : Option Addr} {c2 : Nat} {AR : Option Addr} {cR gr : Nat} {br : Nat → Nat} (P : RdP w l p last gp A0 c0 A2 c2 AR cR gr br) (O : Ok l) (F : Few l p) {s x : Int} (hx : x ≤ 1099511627776) :
    Calls Try.prog 136 #[.pointer (some ⟨gp, 0, none⟩), .int .i64 s, .int .i64 x] w fun e w' => e = .returned (.int .i64 (cnt (ends l p s) x)) ∧ Ext w w' := by
  obtain ⟨A0', c0', A2', c2', hv, h0, h2⟩ := P.line
  simp only [Value.agg.injEq, Array.mk.injEq, List.cons.injEq, Value.slice.injEq, and_true, true_and] at hv
  obtain ⟨⟨rfl, rfl⟩, rfl, rfl⟩ := hv
  obtain ⟨b0, o0, b2, o2, bl, ol, cl, SL⟩ := seeL O h0 h2
  clear h0 h2
  have HB := Lib.hid O.bd
  have HS := Lib.hid SL
  have HF := Lib.hid F
  have HP := Lib.hid P
  have HC : Hid ((cnt (ends l p s) x : Int) = sumF (fun j => sumF (hasF l p s x j) 0 (rl p j)) 0 l.trains.length) := cnt_hasF l p s x
  have n5 := HB.out.n5
  have hgp := P.lt
  have p2 := P.b2
  have p3 := P.b3
  clear SL P F O
  go_enter Try.func136, Try.ntmps136
  go_wp2_with fail
  go_loopw [7, 18] (fun a j wr => ∃ (jj : Nat) (q : Int), jj ≤ l.trains.length ∧ j = .int .i64 jj ∧ a = .int .i64 q ∧ 0 ≤ q ∧ q ≤ 10 * jj ∧ Hid ((cnt (ends l p s) x : Int) = q + sumF (fun j => sumF (hasF l p s x j) 0 (rl p j)) jj l.trains.length) ∧ Ext w wr) (fun _ j _ => l.trains.length - (intOf j).toNat)
  case atStart => exact ⟨0, 0, Nat.zero_le _, rfl, rfl, by omega, by omega, by rw [HC.out]; simp [Hid], (by repeat (first | (with_reducible assumption) | (with_reducible exact Ext.refl _) | apply Ext.alloc | apply Ext.drewN | apply Ext.drew))⟩
  case round =>
    clear HC
    obtain ⟨jj, q, hjj, rfl, rfl, hq0, hq1, HC, hE⟩ := hrel
    obtain ⟨k1, k2⟩ := (Lp.of_ext hE).open0
    by_cases hlt : jj < l.trains.length
    · obtain ⟨rfl, hgr⟩ := HP.out.base (by omega)
      obtain ⟨rfl, hb2⟩ := HS.out.base2 (by omega)
      obtain ⟨e0, e1, e2, e3, e4, hbl⟩ := HS.out.train jj hlt
      obtain ⟨Aj, cj, r0, hbj⟩ := HP.out.row jj hlt
      obtain ⟨m10, m11⟩ := HB.out.nl1 jj hlt
      have hlen := HF.out.len jj hlt
      have HBJ := Lib.hid hbj; clear hbj
      obtain ⟨wo, rfl⟩ : ∃ wo, wo = wr := ⟨_, rfl⟩
      go_wp2_with fail
      have hS0 := (Lp.of_ext hE).newAt #[.int .i64 (l.tr jj).frm, .int .i64 (l.tr jj).ready, .int .i64 (l.tr jj).due, .int .i64 (l.tr jj).weight, .slice (some ⟨bl jj, ol jj, none⟩) (l.tr jj).legs.length (cl jj)] 80 rfl
      clear k1 k2
      go_loopw [7, 33] (fun a j wr => ∃ (m : Nat) (q : Int), m ≤ (rl p jj) ∧ j = .int .i64 m ∧ a = .int .i64 q ∧ 0 ≤ q ∧ q ≤ 10 * jj + m ∧ Hid ((cnt (ends l p s) x : Int) = q + sumF (hasF l p s x jj) m (rl p jj) + sumF (fun j => sumF (hasF l p s x j) 0 (rl p j)) (jj + 1) l.trains.length) ∧ Lp w wr [(wo.heap.size, #[.int .i64 (l.tr jj).frm, .int .i64 (l.tr jj).ready, .int .i64 (l.tr jj).due, .int .i64 (l.tr jj).weight, .slice (some ⟨bl jj, ol jj, none⟩) (l.tr jj).legs.length (cl jj)], 80)]) (fun _ j _ => (rl p jj) - (intOf j).toNat)
      case atStart => exact ⟨0, q, Nat.zero_le _, rfl, rfl, hq0, by omega, by rw [HC.out, sumF_at _ hlt]; simp [Hid, Int.add_assoc], hS0⟩
      case round =>
        clear HC hS0 hE
        obtain ⟨m, q, hm, rfl, rfl, hq2, hq3, HC, hS⟩ := hrel
        obtain ⟨k1, k2, k3, k4⟩ := hS.open1
        by_cases hlm : m < (rl p jj)
        · obtain ⟨rfl, hbr⟩ := HBJ.out (by omega)
          have hml : m < (l.tr jj).legs.length := by omega
          obtain ⟨f0, f1, f2⟩ := HS.out.leg jj m hlt hml
          obtain ⟨_, _, y1, y2, _, _⟩ := HB.out.leg jj m hlt hml
          have s0 := HP.out.st jj m hlt hlm
          obtain ⟨z0, z1⟩ := HF.out.at_ jj m hlt hlm
          have HN := Lib.hid (sumF_at (hasF l p s x jj) hlm)
          by_cases c1 : (l.leg jj m).to = s
          · have c1' : ((l.leg jj m).to != s) = false := by simp [c1]
            have C1 := Lib.hid c1; clear c1
            by_cases c2 : m + 1 < (rl p jj)
            · have s1 := HP.out.st jj (m + 1) hlt c2
              have he : Hid (endT l p jj m = st p jj (m + 1)) := by unfold Hid; rw [endT_rl, if_pos c2]
              by_cases c3 : x ≤ st p jj (m + 1)
              · have hv : Hid (hasF l p s x jj m = 1) := by unfold Hid hasF; rw [if_pos ⟨C1.out, by rw [he.out]; exact c3⟩]
                go_wp2_with fail
                exact ⟨⟨m + 1, q + 1, by omega, by go_num, rfl, by omega, by omega, by rw [HC.out, HN.out, hv.out]; simp [Hid, Int.add_assoc], (by repeat (first | (with_reducible exact hS) | apply Lp.alloc | apply Lp.drewN | apply Lp.drew))⟩, (by simp [intOf]; omega)⟩
              · have hv : Hid (hasF l p s x jj m = 0) := by unfold Hid hasF; rw [if_neg (fun h => c3 (by rw [← he.out]; exact h.2))]
                go_wp2_with fail
                exact ⟨⟨m + 1, q, by omega, by go_num, rfl, by omega, by omega, by rw [HC.out, HN.out, hv.out]; simp [Hid], (by repeat (first | (with_reducible exact hS) | apply Lp.alloc | apply Lp.drewN | apply Lp.drew))⟩, (by simp [intOf]; omega)⟩
            · by_cases c3 : m + 1 < (l.tr jj).legs.length
              · have d3 : decide ((m : Int) + 1 < ((l.tr jj).legs.length : Int)) = true := by simp; omega
                have hw : IntKind.i64.wrap ((m : Int) + 1) = (m : Int) + 1 := IntWalk.i64_in _ (by omega)
                have he : Hid (endT l p jj m = 1099511627776) := by unfold Hid; rw [endT_rl, if_neg c2, if_neg (by omega)]
                have hv : Hid (hasF l p s x jj m = 1) := by unfold Hid hasF; rw [if_pos ⟨C1.out, by rw [he.out]; exact hx⟩]
                go_wp2_with fail
                go_quiet (fail)
                go_wp2_with fail
                exact ⟨⟨m + 1, q + 1, by omega, by go_num, rfl, by omega, by omega, by rw [HC.out, HN.out, hv.out]; simp [Hid, Int.add_assoc], (by repeat (first | (with_reducible exact hS) | apply Lp.alloc | apply Lp.drewN | apply Lp.drew))⟩, (by simp [intOf]; omega)⟩
              · have he : Hid (endT l p jj m = st p jj m + (l.leg jj m).run) := by unfold Hid; rw [endT_rl, if_neg c2, if_pos (by omega)]
                have d3 : decide ((m : Int) + 1 < ((l.tr jj).legs.length : Int)) = false := by simp; omega
                have hw : IntKind.i64.wrap ((m : Int) + 1) = (m : Int) + 1 := IntWalk.i64_in _ (by omega)
                by_cases c4 : x ≤ st p jj m + (l.leg jj m).run
                · have hv : Hid (hasF l p s x jj m = 1) := by unfold Hid hasF; rw [if_pos ⟨C1.out, by rw [he.out]; exact c4⟩]
                  go_wp2_with fail
                  go_quiet (fail)
                  go_wp2_with fail
                  exact ⟨⟨m + 1, q + 1, by omega, by go_num, rfl, by omega, by omega, by rw [HC.out, HN.out, hv.out]; simp [Hid, Int.add_assoc], (by repeat (first | (with_reducible exact hS) | apply Lp.alloc | apply Lp.drewN | apply Lp.drew))⟩, (by simp [intOf]; omega)⟩
                · have hv : Hid (hasF l p s x jj m = 0) := by unfold Hid hasF; rw [if_neg (fun h => c4 (by rw [← he.out]; exact h.2))]
                  have d4 : decide (x ≤ st p jj m + (l.leg jj m).run) = false := by simpa using c4
                  go_wp2_with fail
                  go_quiet (fail)
                  go_wp2_with fail
                  exact ⟨⟨m + 1, q, by omega, by go_num, rfl, by omega, by omega, by rw [HC.out, HN.out, hv.out]; simp [Hid], (by repeat (first | (with_reducible exact hS) | apply Lp.alloc | apply Lp.drewN | apply Lp.drew))⟩, (by simp [intOf]; omega)⟩
          · have c1' : ((l.leg jj m).to != s) = true := by simp [c1]
            have hv : Hid (hasF l p s x jj m = 0) := by unfold Hid hasF; rw [if_neg (fun h => c1 h.1)]
            clear c1
            go_wp2_with fail
            exact ⟨⟨m + 1, q, by omega, by go_num, rfl, by omega, by omega, by rw [HC.out, HN.out, hv.out]; simp [Hid], (by repeat (first | (with_reducible exact hS) | apply Lp.alloc | apply Lp.drewN | apply Lp.drew))⟩, (by simp [intOf]; omega)⟩
        · have HE := Lib.hid (sumF_end (hasF l p s x jj) (i := m) (n := (rl p jj)) (by omega))
          have hX := hS.ext
          go_wp2_with fail
          exact ⟨⟨jj + 1, q, by omega, by go_num, rfl, by omega, by omega, by rw [HC.out, HE.out]; simp [Hid], hX⟩, (by simp [intOf]; omega)⟩
    · have HE := Lib.hid (sumF_end (fun j => sumF (hasF l p s x j) 0 (rl p j)) (i := jj) (n := l.trains.length) (by omega))
      have hfin : Hid (q = cnt (ends l p s) x) := by unfold Hid; rw [HC.out, HE.out]; omega
      go_wp2_with fail
      go_ret
      exact ⟨ret_i64 hfin.out, hE⟩
end Go.Proofs.Ythhkbfjolmgloaa
