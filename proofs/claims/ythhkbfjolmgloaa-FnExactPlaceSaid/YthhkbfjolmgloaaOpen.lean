/- How the laws' arguments (a line, a plan, a list of numbers, bytes), read as data, lie in memory. No condition. -/
import Derived.Test.YthhkbfjolmgloaaBase
import Derived.Deep.Slices
import Derived.ChangeArms
import Derived.OpenShut
import Derived.Carry
import Derived.KernelRfl
namespace Go.Proofs.Ythhkbfjolmgloaa
open Go.RowKit Go.ChangeShapes Go.WideShapes Go.Deep
set_option linter.unusedVariables false
set_option linter.unusedSimpArgs false
section
variable {H : Type} {enc : TypeId × Value → H} {W : World} {sp : Nat → Bool} {held : Bool}
theorem spot_none {w : World} {a : Addr} {v : Value} (h : w.cell? a = some v) : a.spot = none := by
  unfold World.cell? at h
  split at h
  · split at h
    · cases h
    · rename_i hs
      cases e : a.spot with
      | none => rfl
      | some s => rw [e] at hs; simp at hs
  · cases h
theorem range_some {n i k : Nat} (h : (List.range n)[i]? = some k) : i < n ∧ i = k := by
  have hi := lt_of_some h
  simp only [List.length_range] at hi
  rw [List.getElem?_range hi] at h
  exact ⟨hi, Option.some.inj h⟩
/-- A slice whose elements read as 'F' says. -/
theorem trod_row {α : Type} [Inhabited α] {F : World → Nat → Nat → α → Prop} {Q : α → Prop} {t e : TypeId} {s : Nat} (ht : Try.prog.underlying t = some (.slice e)) (hs : Try.prog.cellsOf e = s) (h0 : 0 < s)
    (hF : ∀ (b o n : Nat) (cs : List Value) (y : DataW H × List MemPlace), b < W.heap.size → (∀ j, j < s → W.cell? ⟨b, o + j, none⟩ = cs[j]?) → cs.length = s → DataW.trod enc Try.prog W 0 sp held n e cs = some y → ∃ x, F W b o x ∧ Q x)
    {fuel : Nat} {cs : List Value} {x : DataW H × List MemPlace} (h : DataW.trod enc Try.prog W 0 sp held fuel t cs = some x) :
    ∃ (A : Option Addr) (c : Nat) (xs : List α), cs = [.slice A xs.length c] ∧ Rd F W A xs s ∧ xs.length ≤ 9223372036854775807 ∧ ∀ (j : Nat) (y : α), xs[j]? = some y → Q y := by
  rcases DataW.trod_slice ht h with ⟨rfl, _⟩ | ⟨a, len, cap, elems, rest, n, _, rfl, _, _, hl, hm, hlen, hel, _, _⟩
  · exact ⟨none, 0, [], rfl, fun j x hx => by simp at hx, by simp, fun j y hy => by simp at hy⟩
  · have hm' : cap ≤ 9223372036854775807 := hm
    have key : ∀ i, i < len → ∃ x : α, (∃ b off, a = ⟨b, off, none⟩ ∧ b < W.heap.size ∧ F W b (off + i * s) x) ∧ Q x := by
      intro i hi
      have he := hel i hi
      rw [hs] at he
      have hsome : ∃ y, elems[i]? = some y := some_of_lt (by omega)
      obtain ⟨y, hy⟩ := hsome
      rw [hy] at he
      obtain ⟨cs', hc, ht'⟩ := Option.bind_eq_some_iff.1 he
      obtain ⟨_, hcl, hat⟩ := World.cells?_some hc
      have hz := hat 0 h0
      have h1 : ∃ v, W.cell? ((a.add (i * s)).add 0) = some v := by
        rw [hz]
        exact ⟨_, List.getElem?_eq_getElem (by omega)⟩
      obtain ⟨v, h1⟩ := h1
      -- the head's own spot: none, by the first element
      have hsp : a.spot = none := by
        have he0 := hel 0 (by omega)
        rw [hs] at he0
        obtain ⟨y0, hy0⟩ := some_of_lt (l := elems) (i := 0) (by omega)
        rw [hy0] at he0
        obtain ⟨cs0, hc0, _⟩ := Option.bind_eq_some_iff.1 he0
        obtain ⟨_, hcl0, hat0⟩ := World.cells?_some hc0
        have q := hat0 0 h0
        have e0 : (a.add (0 * s)).add 0 = a := by simp [Addr.add]
        rw [e0, List.getElem?_eq_getElem (by omega)] at q
        exact spot_none q
      obtain ⟨b, off, spot⟩ := a
      simp only at hsp
      subst hsp
      have hadd : ∀ j, ((⟨b, off, none⟩ : Addr).add (i * s)).add j = ⟨b, off + i * s + j, none⟩ := fun j => by rw [Addr.add_lit, Addr.add_lit]
      have hb : b < W.heap.size := by
        rw [hadd] at h1
        exact lt_of_cell h1
      obtain ⟨x, hx, hq⟩ := hF b (off + i * s) n cs' y hb (fun j hj => by rw [← hat j hj, hadd]) hcl ht'
      exact ⟨x, ⟨b, off, rfl, hb, hx⟩, hq⟩
    obtain ⟨f, hf⟩ := choose_lt key
    refine ⟨some a, cap, (List.range len).map f, by simp, fun j x hx => ?_, by simpa using Nat.le_trans hl hm', fun j y hy => ?_⟩
    · simp only [List.getElem?_map, Option.map_eq_some_iff] at hx
      obtain ⟨i, hi, rfl⟩ := hx
      obtain ⟨hi', rfl⟩ := range_some hi
      obtain ⟨⟨b, off, rfl, hb, hF'⟩, _⟩ := hf j hi'
      exact ⟨b, off, rfl, hb, hF'⟩
    · simp only [List.getElem?_map, Option.map_eq_some_iff] at hy
      obtain ⟨i, hi, rfl⟩ := hy
      obtain ⟨hi', rfl⟩ := range_some hi
      exact (hf j hi').2
theorem list1 {α : Type} {l : List α} (h : l.length = 1) : ∃ a, l = [a] := by
  match l, h with
  | [a], _ => exact ⟨a, rfl⟩
theorem list3 {α : Type} {l : List α} (h : l.length = 3) : ∃ a b c, l = [a, b, c] := by
  match l, h with
  | [a, b, c], _ => exact ⟨a, b, c, rfl⟩
theorem list5 {α : Type} {l : List α} (h : l.length = 5) : ∃ a b c d e, l = [a, b, c, d, e] := by
  match l, h with
  | [a, b, c, d, e], _ => exact ⟨a, b, c, d, e, rfl⟩
theorem cellsOf3 : Try.prog.cellsOf 3 = 1 := by kernel_rfl
theorem cellsOf23 : Try.prog.cellsOf 23 = 1 := by kernel_rfl
theorem cellsOf163 : Try.prog.cellsOf 163 = 3 := by kernel_rfl
theorem cellsOf141 : Try.prog.cellsOf 141 = 1 := by kernel_rfl
theorem cellsOf143 : Try.prog.cellsOf 143 = 5 := by kernel_rfl
theorem cellsOf24 : Try.prog.cellsOf 24 = 1 := by kernel_rfl
theorem cellsOf40 : Try.prog.cellsOf 40 = 1 := by kernel_rfl
theorem cellsOf26 : Try.prog.cellsOf 26 = 3 := by kernel_rfl
theorem cellsOf55 : Try.prog.cellsOf 55 = 1 := by kernel_rfl
/-- A number that an int holds. -/
def Fit64 (x : Int) : Prop := -9223372036854775808 ≤ x ∧ x ≤ 9223372036854775807
theorem fit_of_wf {x : Int} (h : (Lit.int .i64 x).wf = true) : Fit64 x := bounds_i64 h
theorem trod_ints {fuel : Nat} {cs : List Value} {x : DataW H × List MemPlace} (h : DataW.trod enc Try.prog W 0 sp held fuel 23 cs = some x) :
    ∃ (A : Option Addr) (c : Nat) (xs : List Int), cs = [.slice A xs.length c] ∧ RdInt W A xs ∧ xs.length ≤ 9223372036854775807 ∧ ∀ (j : Nat) (y : Int), xs[j]? = some y → Fit64 y := by
  refine trod_row Try.underlying23 cellsOf3 (by omega) (fun b o n cs y hb hc hl hy => ?_) h
  obtain ⟨x, rfl, _, hw⟩ := DataW.trod_int Try.underlying3 hy
  exact ⟨x, hc 0 (by omega), fit_of_wf hw⟩
theorem trod_int3 {n : Nat} {v : Value} {y : DataW H × List MemPlace} (h : DataW.trod enc Try.prog W 0 sp held n 3 [v] = some y) : ∃ x : Int, v = .int .i64 x ∧ Fit64 x := by
  obtain ⟨x, e, _, hw⟩ := DataW.trod_int Try.underlying3 h
  exact ⟨x, by simpa using e, fit_of_wf hw⟩
theorem trod_legs {fuel : Nat} {cs : List Value} {x : DataW H × List MemPlace} (h : DataW.trod enc Try.prog W 0 sp held fuel 141 cs = some x) :
    ∃ (A : Option Addr) (c : Nat) (xs : List Leg), cs = [.slice A xs.length c] ∧ RdLeg W A xs ∧ xs.length ≤ 9223372036854775807 ∧ ∀ (j : Nat) (y : Leg), xs[j]? = some y → Fit64 y.to := by
  refine trod_row Try.underlying141 cellsOf163 (by omega) (fun b o n cs y hb hc hl hy => ?_) h
  obtain ⟨ys, m, _, _, _, hyl, hg⟩ := DataW.trod_struct Try.underlying163 hy
  obtain ⟨c0, c1, c2, rfl⟩ := list3 hl
  obtain ⟨y0, y1, y2, rfl⟩ := list3 (l := ys) hyl
  have g0 : DataW.trod enc Try.prog W 0 sp held m 3 [c0] = some y0 := by simpa [Value.cells, cellsOf3, cellsOf141, cellsOf23, cellsOf24, cellsOf40] using hg 0 _ rfl
  have g1 : DataW.trod enc Try.prog W 0 sp held m 3 [c1] = some y1 := by simpa [Value.cells, cellsOf3, cellsOf141, cellsOf23, cellsOf24, cellsOf40] using hg 1 _ rfl
  have g2 : DataW.trod enc Try.prog W 0 sp held m 3 [c2] = some y2 := by simpa [Value.cells, cellsOf3, cellsOf141, cellsOf23, cellsOf24, cellsOf40] using hg 2 _ rfl
  obtain ⟨x0, rfl, w0⟩ := trod_int3 (v := c0) g0
  obtain ⟨x1, rfl, _⟩ := trod_int3 (v := c1) g1
  obtain ⟨x2, rfl, _⟩ := trod_int3 (v := c2) g2
  exact ⟨⟨x0, x1, x2⟩, ⟨hc 0 (by omega), hc 1 (by omega), hc 2 (by omega)⟩, w0⟩
theorem trod_trains {fuel : Nat} {cs : List Value} {x : DataW H × List MemPlace} (h : DataW.trod enc Try.prog W 0 sp held fuel 24 cs = some x) :
    ∃ (A : Option Addr) (c : Nat) (xs : List Train), cs = [.slice A xs.length c] ∧ RdTrain W A xs ∧ xs.length ≤ 9223372036854775807 ∧ ∀ (j : Nat) (y : Train), xs[j]? = some y → y.legs.length ≤ 9223372036854775807 := by
  refine trod_row Try.underlying24 cellsOf143 (by omega) (fun b o n cs y hb hc hl hy => ?_) h
  obtain ⟨ys, m, _, _, _, hyl, hg⟩ := DataW.trod_struct Try.underlying143 hy
  obtain ⟨c0, c1, c2, c3, c4, rfl⟩ := list5 hl
  obtain ⟨y0, y1, y2, y3, y4, rfl⟩ := list5 (l := ys) hyl
  have g0 : DataW.trod enc Try.prog W 0 sp held m 3 [c0] = some y0 := by simpa [Value.cells, cellsOf3, cellsOf141, cellsOf23, cellsOf24, cellsOf40] using hg 0 _ rfl
  have g1 : DataW.trod enc Try.prog W 0 sp held m 3 [c1] = some y1 := by simpa [Value.cells, cellsOf3, cellsOf141, cellsOf23, cellsOf24, cellsOf40] using hg 1 _ rfl
  have g2 : DataW.trod enc Try.prog W 0 sp held m 3 [c2] = some y2 := by simpa [Value.cells, cellsOf3, cellsOf141, cellsOf23, cellsOf24, cellsOf40] using hg 2 _ rfl
  have g3 : DataW.trod enc Try.prog W 0 sp held m 3 [c3] = some y3 := by simpa [Value.cells, cellsOf3, cellsOf141, cellsOf23, cellsOf24, cellsOf40] using hg 3 _ rfl
  have g4 : DataW.trod enc Try.prog W 0 sp held m 141 [c4] = some y4 := by simpa [Value.cells, cellsOf3, cellsOf141, cellsOf23, cellsOf24, cellsOf40] using hg 4 _ rfl
  obtain ⟨x0, rfl, _⟩ := trod_int3 (v := c0) g0
  obtain ⟨x1, rfl, _⟩ := trod_int3 (v := c1) g1
  obtain ⟨x2, rfl, _⟩ := trod_int3 (v := c2) g2
  obtain ⟨x3, rfl, _⟩ := trod_int3 (v := c3) g3
  obtain ⟨A, c, xs, he, hR, hle, _⟩ := trod_legs (cs := [c4]) g4
  obtain rfl : c4 = .slice A xs.length c := by simpa using he
  exact ⟨⟨x0, x1, x2, x3, xs⟩, ⟨hc 0 (by omega), hc 1 (by omega), hc 2 (by omega), hc 3 (by omega), A, c, hc 4 (by omega), hR⟩, hle⟩
theorem trod_rows {fuel : Nat} {cs : List Value} {x : DataW H × List MemPlace} (h : DataW.trod enc Try.prog W 0 sp held fuel 40 cs = some x) :
    ∃ (A : Option Addr) (c : Nat) (xs : List (List Int)), cs = [.slice A xs.length c] ∧ RdRows W A xs ∧ xs.length ≤ 9223372036854775807 ∧ ∀ (j : Nat) (y : List Int), xs[j]? = some y → y.length ≤ 9223372036854775807 := by
  refine trod_row Try.underlying40 cellsOf23 (by omega) (fun b o n cs y hb hc hl hy => ?_) h
  obtain ⟨c0, rfl⟩ := list1 hl
  obtain ⟨A, c, xs, he, hR, hle, _⟩ := trod_ints hy
  obtain rfl : c0 = .slice A xs.length c := by simpa using he
  exact ⟨xs, ⟨A, c, hc 0 (by omega), hR⟩, hle⟩
set_option maxRecDepth 100000 in
set_option maxHeartbeats 1000000 in
theorem okWide_list {b0 t n : Nat} {v : Value} {fs : Array Field} (ht : Try.prog.underlying t = some (.struct fs)) (hc : Try.prog.cellsOf t = n) (hv : Value.okWide Try.prog W .any b0 t v) : ∃ cs : List Value, v = .agg cs.toArray ∧ cs.length = n := by
  obtain ⟨cs, rfl, hsz⟩ := okWide_struct ht hv
  rw [hc] at hsz
  exact ⟨cs.toList, by simp, by simpa using hsz⟩
set_option maxRecDepth 100000 in
set_option maxHeartbeats 1000000 in
/-- A line among the arguments. -/
theorem open_line {b0 : Nat} {v : Value} {d : DataW H} {p : List MemPlace} (hv : Value.okWide Try.prog W .any b0 26 v) (h : DataW.Trod enc Try.prog W 0 sp held 26 v d p) :
    ∃ l : Line, IsLine W l v ∧ l.tracks.length ≤ 9223372036854775807 ∧ l.trains.length ≤ 9223372036854775807 ∧ ∀ (i : Nat) (t : Train), l.trains[i]? = some t → t.legs.length ≤ 9223372036854775807 := by
  obtain ⟨cs, rfl, hsz⟩ := okWide_list Try.underlying26 cellsOf26 hv
  obtain ⟨c0, c1, c2, rfl⟩ := list3 hsz
  obtain ⟨fuel, hf⟩ := h
  obtain ⟨ys, m, _, _, _, hyl, hg⟩ := DataW.trod_struct Try.underlying26 hf
  obtain ⟨y0, y1, y2, rfl⟩ := list3 (l := ys) hyl
  have g0 : DataW.trod enc Try.prog W 0 sp held m 23 [c0] = some y0 := by simpa [Value.cells, cellsOf3, cellsOf141, cellsOf23, cellsOf24, cellsOf40] using hg 0 _ rfl
  have g1 : DataW.trod enc Try.prog W 0 sp held m 3 [c1] = some y1 := by simpa [Value.cells, cellsOf3, cellsOf141, cellsOf23, cellsOf24, cellsOf40] using hg 1 _ rfl
  have g2 : DataW.trod enc Try.prog W 0 sp held m 24 [c2] = some y2 := by simpa [Value.cells, cellsOf3, cellsOf141, cellsOf23, cellsOf24, cellsOf40] using hg 2 _ rfl
  obtain ⟨A0, k0, x0, h0, R0, l0, _⟩ := trod_ints (cs := [c0]) g0
  obtain ⟨x1, h1, _⟩ := trod_int3 (v := c1) g1
  obtain ⟨A2, k2, x2, h2, R2, l2, m2⟩ := trod_trains (cs := [c2]) g2
  obtain rfl : c0 = .slice A0 x0.length k0 := by simpa using h0
  subst h1
  obtain rfl : c2 = .slice A2 x2.length k2 := by simpa using h2
  exact ⟨⟨x0, x1, x2⟩, ⟨A0, k0, A2, k2, rfl, R0, R2⟩, l0, l2, m2⟩
set_option maxRecDepth 100000 in
set_option maxHeartbeats 1000000 in
/-- A plan among the arguments. -/
theorem open_plan {b0 : Nat} {v : Value} {d : DataW H} {p : List MemPlace} (hv : Value.okWide Try.prog W .any b0 55 v) (h : DataW.Trod enc Try.prog W 0 sp held 55 v d p) :
    ∃ l : List (List Int), IsPlan W l v ∧ l.length ≤ 9223372036854775807 ∧ ∀ (i : Nat) (t : List Int), l[i]? = some t → t.length ≤ 9223372036854775807 := by
  obtain ⟨cs, rfl, hsz⟩ := okWide_list Try.underlying55 cellsOf55 hv
  obtain ⟨c0, rfl⟩ := list1 hsz
  obtain ⟨fuel, hf⟩ := h
  obtain ⟨ys, m, _, _, _, hyl, hg⟩ := DataW.trod_struct Try.underlying55 hf
  obtain ⟨y0, rfl⟩ := list1 (l := ys) hyl
  have g0 : DataW.trod enc Try.prog W 0 sp held m 40 [c0] = some y0 := by simpa [Value.cells, cellsOf3, cellsOf141, cellsOf23, cellsOf24, cellsOf40] using hg 0 _ rfl
  obtain ⟨A0, k0, x0, h0, R0, l0, m0⟩ := trod_rows (cs := [c0]) g0
  obtain rfl : c0 = .slice A0 x0.length k0 := by simpa using h0
  exact ⟨x0, ⟨A0, k0, rfl, R0⟩, l0, m0⟩
end
end Go.Proofs.Ythhkbfjolmgloaa
