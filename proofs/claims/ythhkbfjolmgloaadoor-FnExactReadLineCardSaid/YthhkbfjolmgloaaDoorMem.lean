/- Rows of numbers, legs, trains of a call that owns them while they are made, and what leaves them as they are. Plain memory alone. -/
import Derived.Test.YthhkbfjolmgloaaDoorPlain
import Derived.Deep.AppendLies
import Derived.Deep.Upon
import Derived.Deep.OwnRows
import Derived.Laws.OwnMore
import Derived.Laws.MakeOwn
namespace Go.Proofs.YthhkbfjolmgloaaDoor
open Go.RowKit Go.Deep
set_option linter.unusedVariables false
set_option linter.unusedSimpArgs false
def nums (xs : List Int) : List Value := xs.map (Value.int .i64)
theorem nums_length (xs : List Int) : (nums xs).length = xs.length := by simp [nums]
theorem info3 : (Tryd.prog.info? 3).map (fun i => (i.zero, i.size, i.bytes)) = some (some (.int .i64 0), 1, 8) := by kernel_rfl
theorem info50 : (Tryd.prog.info? 50).map (fun i => (i.zero, i.size, i.bytes)) = some (some (.agg #[.int .i64 0, .int .i64 0, .int .i64 0]), 3, 24) := by kernel_rfl
theorem info47 : (Tryd.prog.info? 47).map (fun i => (i.zero, i.size, i.bytes)) = some (some (.agg #[.int .i64 0, .int .i64 0, .int .i64 0, .int .i64 0, .slice none 0 0]), 5, 56) := by kernel_rfl
theorem flatten_len {rows : List (List Value)} {s : Nat} (hs : ∀ q, q ∈ rows → q.length = s) : rows.flatten.length = rows.length * s := by
  induction rows with
  | nil => simp
  | cons r rows ih => rw [List.flatten_cons, List.length_append, hs r (by simp), ih (fun q hq => hs q (by simp [hq])), List.length_cons, Nat.succ_mul, Nat.add_comm]
theorem flatten_get {rows : List (List Value)} {s i j : Nat} {r : List Value} (hs : ∀ q, q ∈ rows → q.length = s) (h : rows[i]? = some r) (hj : j < s) : rows.flatten[i * s + j]? = r[j]? := by
  obtain ⟨hi, rfl⟩ := List.getElem?_eq_some_iff.1 h
  have e : rows = rows.take i ++ (rows[i] :: rows.drop (i + 1)) := by rw [← List.drop_eq_getElem_cons hi, List.take_append_drop]
  have hl : (rows.take i).flatten.length = i * s := by
    rw [flatten_len (s := s) (fun q hq => hs q (List.mem_of_mem_take hq)), List.length_take, Nat.min_eq_left (by omega)]
  have e1 : rows.flatten = (rows.take i).flatten ++ (rows[i] ++ (rows.drop (i + 1)).flatten) := by
    rw [show rows.flatten = (rows.take i ++ (rows[i] :: rows.drop (i + 1))).flatten from congrArg List.flatten e, List.flatten_append, List.flatten_cons]
  rw [e1, ← hl, List.getElem?_append_right (by omega), Nat.add_sub_cancel_left, List.getElem?_append_left (by rw [hs _ (List.getElem_mem hi)]; exact hj)]
/-- Memory that has only grown, but for some blocks. -/
structure Chg (S : Nat → Prop) (w w' : World) : Prop where
  os : w'.os = w.os
  tape : w'.tape = w.tape
  output : w'.output = w.output
  size : w.heap.size ≤ w'.heap.size
  block : ∀ g, g < w.heap.size → ¬ S g → w'.heap[g]? = w.heap[g]?
section
variable {S S' : Nat → Prop} {a b c : World}
theorem Chg.of_ext (h : Ext a b) : Chg S a b := ⟨h.os, h.tape, h.output, h.size, fun g hg _ => h.block g hg⟩
theorem Chg.trans (h : Chg S a b) (k : Chg S b c) : Chg S a c := ⟨k.os.trans h.os, k.tape.trans h.tape, k.output.trans h.output, Nat.le_trans h.size k.size, fun g hg hs => (k.block g (Nat.lt_of_lt_of_le hg h.size) hs).trans (h.block g hg hs)⟩
theorem Chg.mono (h : Chg S a b) (hS : ∀ g, g < a.heap.size → S g → S' g) : Chg S' a b := ⟨h.os, h.tape, h.output, h.size, fun g hg hs => h.block g hg (fun hg' => hs (hS g hg hg'))⟩
theorem Chg.ext_left (h : Ext a b) (k : Chg S b c) : Chg S a c := (Chg.of_ext h).trans k
theorem Chg.setCell (h : Chg S a b) {g : Nat} (hg : S g ∨ a.heap.size ≤ g) (j : Nat) (u : Value) : Chg S a (b.setCell ⟨g, j, none⟩ u) := ⟨h.os, h.tape, h.output, by have := h.size; simpa [World.setCell] using this, fun k hk hs => (Below.heap_setCell b ⟨g, j, none⟩ u k (by rintro rfl; rcases hg with hg | hg; exact hs hg; omega)).trans (h.block k hk hs)⟩
theorem Chg.grown {row : Option Nat} (h : Chg S a b) (hg : b.grownBy c row) (hr : ∀ k, row = some k → S k ∨ a.heap.size ≤ k) : Chg S a c := ⟨hg.os.trans h.os, hg.tape.trans h.tape, hg.output.trans h.output, Nat.le_trans h.size hg.size, fun k hk hs => (hg.block k (Nat.lt_of_lt_of_le hk h.size) (fun e => by rcases hr k e.symm with q | q; exact hs q; omega)).trans (h.block k hk hs)⟩
theorem Chg.below {lo : Nat} (h : Chg S a b) (hS : ∀ g, S g → lo ≤ g) (hl : lo ≤ a.heap.size) : Below lo a b := ⟨h.os, h.tape, h.output, h.size, fun g hg => h.block g (by omega) (fun hs => by have := hS g hs; omega)⟩
theorem Chg.box (h : Chg S a b) {g : Nat} {o : Obj} (hg : a.heap[g]? = some o) (hs : ¬ S g) : b.heap[g]? = some o := (h.block g (box_lt hg) hs).trans hg
end
def upd (vs : Nat → Value) (i : Nat) (v : Value) (j : Nat) : Value := if j = i then v else vs j
theorem Lp.grown {w wr w2 : World} {bs : List (Nat × Array Value × TypeId)} {row : Option Nat} (h : Lp w wr bs) (hg : wr.grownBy w2 row) (hr : ∀ k, row = some k → w.heap.size ≤ k ∧ ∀ x, x ∈ bs → x.1 ≠ k) : Lp w w2 bs :=
  ⟨Below.grown h.ext hg h.ext.size (fun k hk => (hr k hk).1), fun x hx => (hg.block x.1 (box_lt (h.box x hx)) (fun e => (hr x.1 e.symm).2 x hx rfl)).trans (h.box x hx)⟩
theorem ownsRow_ext {w w' : World} {base : Nat} {e : TypeId} {size : Nat} {v : Value} {n : Nat} {xs : List Value} (h : w.ownsRow base e size v n xs) (k : Ext w w') : w'.ownsRow base e size v n xs := by
  refine ⟨h.1, ?_⟩
  rcases h.2 with h2 | ⟨g, cap, cur, h1, h2, h3, h4⟩
  · exact Or.inl h2
  · exact Or.inr ⟨g, cap, cur, h1, h2, k.box h3, h4⟩
theorem ownsRow_mono {w : World} {base base' : Nat} {e : TypeId} {size : Nat} {v : Value} {n : Nat} {xs : List Value} (h : w.ownsRow base e size v n xs) (hb : base' ≤ base) : w.ownsRow base' e size v n xs := by
  refine ⟨h.1, ?_⟩
  rcases h.2 with h2 | ⟨g, cap, cur, h1, h2, h3, h4⟩
  · exact Or.inl h2
  · exact Or.inr ⟨g, cap, cur, h1, by omega, h3, h4⟩
theorem nums_append (D E : List Int) : nums (D ++ E) = nums D ++ nums E := by simp [nums]
theorem ownsRow_keep {S : Nat → Prop} {w w' : World} {B : Nat} {e : TypeId} {size : Nat} {v : Value} {n : Nat} {xs : List Value} (h : w.ownsRow B e size v n xs) (k : Chg S w w') (hS : ∀ g, v.ownBlock = some g → ¬ S g) : w'.ownsRow B e size v n xs := by
  refine ⟨h.1, ?_⟩
  rcases h.2 with h2 | ⟨g, cap, cur, rfl, h2, h3, h4⟩
  · exact Or.inl h2
  · exact Or.inr ⟨g, cap, cur, rfl, h2, k.box h3 (hS g rfl), h4⟩
theorem ownsRow_chg {S : Nat → Prop} {w w' : World} {B : Nat} {e : TypeId} {size : Nat} {v : Value} {n : Nat} {xs : List Value} (h : w.ownsRow B e size v n xs) (k : Chg S w w') (hS : ∀ g, S g → g < B) : w'.ownsRow B e size v n xs := by
  refine ⟨h.1, ?_⟩
  rcases h.2 with h2 | ⟨g, cap, cur, rfl, h2, h3, h4⟩
  · exact Or.inl h2
  · exact Or.inr ⟨g, cap, cur, rfl, h2, k.box h3 (fun hs => by have := hS g hs; omega), h4⟩
theorem ownBlock_slice (g n c : Nat) : (Value.slice (some ⟨g, 0, none⟩) n c).ownBlock = some g := rfl
theorem ownsRow_set_far {w : World} {B : Nat} {e : TypeId} {size : Nat} {v : Value} {n : Nat} {xs : List Value} (h : w.ownsRow B e size v n xs) {g : Nat} (hg : v.ownBlock ≠ some g) (j : Nat) (u : Value) : (w.setCell ⟨g, j, none⟩ u).ownsRow B e size v n xs :=
  World.ownsRow.kept (row := some g) h ⟨rfl, rfl, rfl, by simp, fun k _ hk => Below.heap_setCell w ⟨g, j, none⟩ u k (fun e => hk (by rw [e]))⟩ (Or.inr hg)
theorem rd_of_ownsP {w : World} {B N : Nat} {v : Value} {D : List Int} (h : w.ownsRow B 3 1 v N (nums D)) : N = D.length ∧ ∃ A c, v = .slice A D.length c ∧ RdInt w A D := by
  have hl := h.1
  rw [nums_length, Nat.mul_one] at hl
  refine ⟨hl.symm, ?_⟩
  rcases h.2 with ⟨h1, h2⟩ | ⟨g, cap, cur, h1, h2, h3, h4, h5, h6, h7⟩
  · subst h2
    obtain rfl : D = [] := List.eq_nil_of_length_eq_zero hl
    exact ⟨none, 0, h1, fun j x hx => by simp at hx⟩
  · refine ⟨some ⟨g, 0, none⟩, cap, by rw [h1, ← hl], fun j x hx => ⟨g, 0, rfl, box_lt h3, ?_⟩⟩
    have hj := lt_of_some hx
    have e : cur.toList[j]? = (nums D)[j]? := by rw [← h7, List.getElem?_take_of_lt (by omega)]
    unfold AtInt
    rw [box_cell h3, Nat.zero_add, Nat.mul_one]
    have e2 : cur[j]? = cur.toList[j]? := by simp
    rw [e2, e]
    simp [nums, hx]
section
variable {ops : Array Oper} {rest : List Oper} {o : Oper} {a : Act} {w : World} {Q : Exit → Act → World → Prop}
theorem app_any (hgd : o.guard = none) (s x : Operand) (t : TypeId) (ho : o.op = .call { callee := .builtin .append, args := #[s, x], argTypes := #[t, t] })
    (base : Nat) (e : TypeId) (size bytes : Nat) (z : Value) (ht : Tryd.prog.underlying t = some (.slice e)) (hinfo : (Tryd.prog.info? e).map (fun i => (i.zero, i.size, i.bytes)) = some (some z, size, bytes)) (hzs : z.cells.size = size) (hsz : 0 < size)
    (v : Value) (n : Nat) (xs : List Value) (hs : a.eval s = v) (hown : w.ownsRow base e size v n xs) (hbase : base ≤ w.heap.size)
    (blk c : Nat) (cs : Array Value) (tb : TypeId) (hx : a.eval x = .slice (some ⟨blk, 0, none⟩) 1 c) (hblk : w.heap[blk]? = some (.cells cs tb (0, 0))) (hcs : cs.size = size) (h1 : ∀ u ∈ cs.toList, u.oneCell' = true)
    (hn : n ≤ 1000000) (hb2 : bytes ≤ 1000) (H : Nat) (hH : w.heap.size = H)
    (h : ∀ g cap w', w'.ownsRow base e size (.slice (some ⟨g, 0, none⟩) (n + 1) cap) (n + 1) (xs ++ cs.toList) → w.grownBy w' v.ownBlock → (v.ownBlock = some g ∨ g = H) → g < w'.heap.size → wpList Tryd.prog ops Q rest (a.put o.dst (.slice (some ⟨g, 0, none⟩) (n + 1) cap)) w') : wpList Tryd.prog ops Q (o :: rest) a w := by
  obtain ⟨i, hi, hzz⟩ := Option.map_eq_some_iff.1 hinfo
  simp only [Prod.mk.injEq] at hzz
  obtain ⟨hz0, hz1, hz2⟩ := hzz
  refine wpList_append_lies w hgd s x t ho base e i z size bytes ht hi hz0 hz1 hz2 hzs hsz v n xs hs hown ⟨blk, 0, none⟩ 1 c cs.toList hx (by simpa using hcs) (World.news_of_block hblk) h1 (by decide) (by unfold maxLen; omega) ?_ hbase H hH h
  have : (n + 1) * bytes ≤ 1000001 * 1000 := Nat.mul_le_mul (by omega) hb2
  omega
theorem app_step {K : Act → World → Prop} {E : Prop} (hgd : o.guard = none) (s x : Operand) (t : TypeId) (ho : o.op = .call { callee := .builtin .append, args := #[s, x], argTypes := #[t, t] })
    (base : Nat) (e : TypeId) (size bytes : Nat) (z : Value) (ht : Tryd.prog.underlying t = some (.slice e)) (hinfo : (Tryd.prog.info? e).map (fun i => (i.zero, i.size, i.bytes)) = some (some z, size, bytes)) (hzs : z.cells.size = size) (hsz : 0 < size)
    (v : Value) (n : Nat) (xs : List Value) (hs : a.eval s = v) (hown : w.ownsRow base e size v n xs) (hbase : base ≤ w.heap.size)
    (blk c : Nat) (cs : Array Value) (tb : TypeId) (hx : a.eval x = .slice (some ⟨blk, 0, none⟩) 1 c) (hblk : w.heap[blk]? = some (.cells cs tb (0, 0))) (hcs : cs.size = size) (h1 : ∀ u ∈ cs.toList, u.oneCell' = true)
    (hn : n ≤ 1000000) (hb2 : bytes ≤ 1000) (H : Nat) (hH : w.heap.size = H)
    (h : ∀ g cap w', w'.ownsRow base e size (.slice (some ⟨g, 0, none⟩) (n + 1) cap) (n + 1) (xs ++ cs.toList) → w.grownBy w' v.ownBlock → (v.ownBlock = some g ∨ g = H) → g < w'.heap.size → K (a.put o.dst (.slice (some ⟨g, 0, none⟩) (n + 1) cap)) w') : if Region.wanted o (yielded ops a.tmps) = true then Oper.wp Tryd.prog o a w K Q else E := by
  obtain ⟨i, hi, hzz⟩ := Option.map_eq_some_iff.1 hinfo
  simp only [Prod.mk.injEq] at hzz
  obtain ⟨hz0, hz1, hz2⟩ := hzz
  refine step_append_lies w hgd s x t ho base e i z size bytes ht hi hz0 hz1 hz2 hzs hsz v n xs hs hown ⟨blk, 0, none⟩ 1 c cs.toList hx (by simpa using hcs) (World.news_of_block hblk) h1 (by decide) (by unfold maxLen; omega) ?_ hbase H hH h
  have : (n + 1) * bytes ≤ 1000001 * 1000 := Nat.mul_le_mul (by omega) hb2
  omega
end
theorem one_int (x : Int) : ∀ u ∈ (#[Value.int .i64 x] : Array Value).toList, u.oneCell' = true := by
  intro u hu
  simp at hu
  subst hu; rfl
theorem two_int (x y : Int) : ∀ u ∈ (#[Value.int .i64 x, .int .i64 y] : Array Value).toList, u.oneCell' = true := by
  intro u hu
  simp at hu
  rcases hu with rfl | rfl <;> rfl

theorem legCells_at {xs : List Leg} {j : Nat} {x : Leg} (h : xs[j]? = some x) : (xs.map legRow).flatten[j * 3]? = some (.int .i64 x.to) ∧ (xs.map legRow).flatten[j * 3 + 1]? = some (.int .i64 x.run) ∧ (xs.map legRow).flatten[j * 3 + 2]? = some (.int .i64 x.stay) := by
  have hr : (xs.map legRow)[j]? = some (legRow x) := by simp [h]
  have h3 : ∀ r, r ∈ xs.map legRow → r.length = 3 := by
    intro r hr
    obtain ⟨y, _, rfl⟩ := List.mem_map.1 hr
    rfl
  exact ⟨flatten_get h3 hr (j := 0) (by omega), flatten_get h3 hr (j := 1) (by omega), flatten_get h3 hr (j := 2) (by omega)⟩
def legCells (xs : List Leg) : List Value := (xs.map legRow).flatten
theorem legCells_append (xs : List Leg) (x : Leg) : legCells (xs ++ [x]) = legCells xs ++ legRow x := by simp [legCells]
theorem rd_of_legs {w : World} {B n : Nat} {v : Value} {xs : List Leg} (h : w.ownsRow B 50 3 v n (legCells xs)) (hn : n = xs.length) : ∃ A c, v = .slice A xs.length c ∧ RdLeg w A xs := by
  subst hn
  rcases h.2 with ⟨h1, h2⟩ | ⟨g, cap, cur, h1, h2, h3, h4, h5, h6, h7⟩
  · obtain rfl : xs = [] := List.eq_nil_of_length_eq_zero h2
    exact ⟨none, 0, h1, fun j x hx => by simp at hx⟩
  · refine ⟨some ⟨g, 0, none⟩, cap, h1, fun j x hx => ⟨g, 0, rfl, box_lt h3, ?_⟩⟩
    have hj := lt_of_some hx
    obtain ⟨a0, a1, a2⟩ := legCells_at hx
    have key : ∀ i, i < 3 → w.cell? ⟨g, 0 + j * 3 + i, none⟩ = (legCells xs)[j * 3 + i]? := fun i hi => by
      rw [box_cell h3, ← h7, List.getElem?_take_of_lt (by omega), Nat.zero_add]
      simp
    exact ⟨(key 0 (by omega)).trans a0, (key 1 (by omega)).trans a1, (key 2 (by omega)).trans a2⟩
def trRows (ts : List Train) (vl : Nat → Value) : List (List Value) := (List.range ts.length).map fun i => trainRow (ts.getD i default) (vl i)
theorem trRows_append (ts : List Train) (t : Train) (vl : Nat → Value) (u : Value) : trRows (ts ++ [t]) (upd vl ts.length u) = trRows ts vl ++ [trainRow t u] := by
  unfold trRows
  rw [List.length_append, List.length_singleton, List.range_succ, List.map_append]
  congr 1
  · refine List.map_congr_left fun i hi => ?_
    have hi := List.mem_range.1 hi
    unfold upd
    rw [if_neg (by omega)]
    simp only [List.getD_eq_getElem?_getD]
    rw [List.getElem?_append_left hi]
  · simp [upd]
theorem trRows_flat (ts : List Train) (t : Train) (vl : Nat → Value) (u : Value) : (trRows (ts ++ [t]) (upd vl ts.length u)).flatten = (trRows ts vl).flatten ++ trainRow t u := by rw [trRows_append]; simp
theorem trRows_at {ts : List Train} {vl : Nat → Value} {j i : Nat} {t : Train} (h : ts[j]? = some t) (hi : i < 5) : (trRows ts vl).flatten[j * 5 + i]? = (trainRow t (vl j))[i]? := by
  have hj := lt_of_some h
  have hr : (trRows ts vl)[j]? = some (trainRow t (vl j)) := by
    have e : ts.getD j default = t := getD_some h
    unfold trRows
    rw [List.getElem?_map, List.getElem?_range hj, Option.map_some, e]
  have h5 : ∀ r, r ∈ trRows ts vl → r.length = 5 := by
    intro r hr
    obtain ⟨y, _, rfl⟩ := List.mem_map.1 hr
    rfl
  exact flatten_get h5 hr hi
/-- Trains of one's own. -/
structure TrI (w : World) (B : Nat) (ts : List Train) (v : Value) (vl : Nat → Value) : Prop where
  own : w.ownsRow B 47 5 v ts.length (trRows ts vl).flatten
  legs : ∀ i, i < ts.length → w.ownsRow B 50 3 (vl i) (ts.getD i default).legs.length (legCells (ts.getD i default).legs)
  far : ∀ i g, i < ts.length → (vl i).ownBlock = some g → v.ownBlock ≠ some g
theorem TrI.nil (w : World) (B : Nat) (vl : Nat → Value) : TrI w B [] (.slice none 0 0) vl := ⟨World.ownsRow_nil _ _ _ _, fun i hi => by simp at hi, fun i g hi => by simp at hi⟩
theorem TrI.keep {S : Nat → Prop} {w w' : World} {B : Nat} {ts : List Train} {v : Value} {vl : Nat → Value} (h : TrI w B ts v vl) (C : Chg S w w') (hS : ∀ g, S g → g < B) : TrI w' B ts v vl :=
  ⟨ownsRow_chg h.own C hS, fun i hi => ownsRow_chg (h.legs i hi) C hS, h.far⟩
theorem TrI.ext {w w' : World} {B : Nat} {ts : List Train} {v : Value} {vl : Nat → Value} (h : TrI w B ts v vl) (e : Ext w w') : TrI w' B ts v vl :=
  ⟨ownsRow_ext h.own e, fun i hi => ownsRow_ext (h.legs i hi) e, h.far⟩
/-- What is written in new memory alone does not touch them. -/
theorem TrI.above {S : Nat → Prop} {w0 w w' : World} {B : Nat} {ts : List Train} {v : Value} {vl : Nat → Value} (h : TrI w B ts v vl) (h0 : ∀ g, v.ownBlock = some g → g < w0.heap.size) (h1 : ∀ i g, i < ts.length → (vl i).ownBlock = some g → g < w0.heap.size) (C : Chg S w w') (hS : ∀ g, S g → g < B ∨ w0.heap.size ≤ g) : TrI w' B ts v vl :=
  ⟨ownsRow_keep h.own C (fun g hg hs => by have := (h.own.lt g hg).1; have := h0 g hg; have := hS g hs; omega), fun i hi => ownsRow_keep (h.legs i hi) C (fun g hg hs => by have := ((h.legs i hi).lt g hg).1; have := h1 i g hi hg; have := hS g hs; omega), h.far⟩
theorem TrI.lt {w : World} {B : Nat} {ts : List Train} {v : Value} {vl : Nat → Value} (h : TrI w B ts v vl) : (∀ g, v.ownBlock = some g → B ≤ g ∧ g < w.heap.size) ∧ ∀ i g, i < ts.length → (vl i).ownBlock = some g → B ≤ g ∧ g < w.heap.size :=
  ⟨fun g hg => h.own.lt g hg, fun i g hi hg => (h.legs i hi).lt g hg⟩
theorem TrI.step {w wd : World} {o : Obj} {B B' g cap n : Nat} {ts : List Train} {t : Train} {v u : Value} {vl : Nat → Value} (h : TrI w B ts v vl) (hL : w.ownsRow B' 50 3 u t.legs.length (legCells t.legs)) (hfar : ∀ g, u.ownBlock = some g → v.ownBlock ≠ some g) (hB' : B ≤ B') (hn : n = ts.length)
    (hd : (w.alloc o).grownBy wd v.ownBlock) (hown : wd.ownsRow B 47 5 (.slice (some ⟨g, 0, none⟩) (n + 1) cap) (n + 1) ((trRows ts vl).flatten ++ trainRow t u)) (hg : v.ownBlock = some g ∨ g = (w.alloc o).heap.size) :
    TrI wd B (ts ++ [t]) (.slice (some ⟨g, 0, none⟩) (n + 1) cap) (upd vl ts.length u) := by
  subst hn
  have hlen : (ts ++ [t]).length = ts.length + 1 := by simp
  have hsz : (w.alloc o).heap.size = w.heap.size + 1 := alloc_size _ _
  have hgl : ∀ i, i < ts.length → (ts ++ [t]).getD i default = ts.getD i default := fun i hi => by
    simp only [List.getD_eq_getElem?_getD]; rw [List.getElem?_append_left hi]
  have hgn : (ts ++ [t]).getD ts.length default = t := by simp
  refine ⟨by rw [hlen, trRows_flat]; exact hown, fun i hi => ?_, fun i k hi hk => ?_⟩
  · rw [hlen] at hi
    unfold upd
    by_cases e : i = ts.length
    · subst e
      rw [if_pos rfl, hgn]
      exact ownsRow_mono (World.ownsRow.kept (hL.alloc o) hd (by
        cases hk : u.ownBlock with
        | none => exact Or.inl rfl
        | some k => exact Or.inr (fun e2 => hfar k hk e2.symm))) hB'
    · rw [if_neg e, hgl i (by omega)]
      exact World.ownsRow.kept ((h.legs i (by omega)).alloc o) hd (by
        cases hk : (vl i).ownBlock with
        | none => exact Or.inl rfl
        | some k => exact Or.inr (fun e2 => h.far i k (by omega) hk e2.symm))
  · rw [hlen] at hi
    rw [ownBlock_slice]
    simp only [ne_eq, Option.some.injEq]
    intro e
    subst e
    unfold upd at hk
    by_cases e : i = ts.length
    · rw [if_pos e] at hk
      rcases hg with h4 | h4
      · exact hfar _ hk h4
      · have := (hL.lt _ hk).2; omega
    · rw [if_neg e] at hk
      rcases hg with h4 | h4
      · exact h.far i _ (by omega) hk h4
      · have := ((h.legs i (by omega)).lt _ hk).2; omega
theorem TrI.rd {w : World} {B : Nat} {ts : List Train} {v : Value} {vl : Nat → Value} (h : TrI w B ts v vl) : ∃ A c, v = .slice A ts.length c ∧ RdTrain w A ts := by
  rcases h.own.2 with ⟨h1, h2⟩ | ⟨g, cap, cur, h1, h2, h3, h4, h5, h6, h7⟩
  · obtain rfl : ts = [] := List.eq_nil_of_length_eq_zero h2
    exact ⟨none, 0, h1, fun j x hx => by simp at hx⟩
  · refine ⟨some ⟨g, 0, none⟩, cap, h1, fun j x hx => ⟨g, 0, rfl, box_lt h3, ?_⟩⟩
    have hj := lt_of_some hx
    have hxx : ts.getD j default = x := getD_some hx
    have hlj := h.legs j hj
    rw [hxx] at hlj
    obtain ⟨A4, c4, hv4, hR4⟩ := rd_of_legs hlj rfl
    have key : ∀ i, i < 5 → w.cell? ⟨g, 0 + j * 5 + i, none⟩ = (trainRow x (vl j))[i]? := fun i hi => by
      rw [← trRows_at (vl := vl) hx hi, box_cell h3, ← h7, List.getElem?_take_of_lt (by omega), Nat.zero_add]
      simp
    exact ⟨key 0 (by omega), key 1 (by omega), key 2 (by omega), key 3 (by omega), A4, c4, by rw [← hv4]; exact key 4 (by omega), hR4⟩

/-- A line in memory of one's own. -/
def OwnL (B : Nat) (w : World) (v : Value) (l : Line) : Prop := ∃ v0 v2 vl, v = .agg #[v0, .int .i64 l.gap, v2] ∧ w.ownsRow B 3 1 v0 l.tracks.length (nums l.tracks) ∧ TrI w B l.trains v2 vl
theorem OwnL.rd {B : Nat} {w : World} {v : Value} {l : Line} (h : OwnL B w v l) : IsLine w l v := by
  obtain ⟨v0, v2, vl, rfl, h1, h2⟩ := h
  obtain ⟨_, A0, c0, rfl, r0⟩ := rd_of_ownsP h1
  obtain ⟨A2, c2, rfl, r2⟩ := h2.rd
  exact ⟨A0, c0, A2, c2, rfl, r0, r2⟩
theorem far2 {b1 b2 k : Nat} {c1 c2 : Array Value} {t1 t2 : TypeId} (h1 : b1 ≠ k) (h2 : b2 ≠ k) : ∀ x, x ∈ [(b1, c1, t1), (b2, c2, t2)] → x.1 ≠ k := by
  intro x hx
  simp only [List.mem_cons, List.not_mem_nil, or_false] at hx
  rcases hx with rfl | rfl
  · exact h1
  · exact h2
theorem one1 {b1 k : Nat} {c1 : Array Value} {t1 : TypeId} (h1 : b1 ≠ k) : ∀ x, x ∈ [(b1, c1, t1)] → x.1 ≠ k := by
  intro x hx
  simp only [List.mem_cons, List.not_mem_nil, or_false] at hx
  subst hx
  exact h1
theorem three_int (x y z : Int) : ∀ u ∈ (#[Value.int .i64 x, .int .i64 y, .int .i64 z] : Array Value).toList, u.oneCell' = true := by
  intro u hu
  simp at hu
  rcases hu with rfl | rfl | rfl <;> rfl
theorem far3' {b1 b2 b3 k : Nat} {c1 c2 c3 : Array Value} {t1 t2 t3 : TypeId} (h1 : b1 ≠ k) (h2 : b2 ≠ k) (h3 : b3 ≠ k) : ∀ x, x ∈ [(b1, c1, t1), (b2, c2, t2), (b3, c3, t3)] → x.1 ≠ k := by
  intro x hx
  simp only [List.mem_cons, List.not_mem_nil, or_false] at hx
  rcases hx with rfl | rfl | rfl
  · exact h1
  · exact h2
  · exact h3
theorem legs_snoc {w : World} {B : Nat} {v : Value} {xs : List Leg} {a b c : Int} (h : w.ownsRow B 50 3 v (xs.length + 1) (legCells xs ++ (#[Value.int .i64 a, .int .i64 b, .int .i64 c] : Array Value).toList)) : w.ownsRow B 50 3 v (xs ++ [(⟨a, b, c⟩ : Leg)]).length (legCells (xs ++ [(⟨a, b, c⟩ : Leg)])) := by
  rw [legCells_append, List.length_append]
  exact h
theorem tr_one (x y z u : Int) (A : Option Addr) (n c : Nat) : ∀ v ∈ (#[Value.int .i64 x, .int .i64 y, .int .i64 z, .int .i64 u, .slice A n c] : Array Value).toList, v.oneCell' = true := by
  intro v hv
  simp at hv
  rcases hv with rfl | rfl | rfl | rfl | rfl <;> rfl
theorem row_snoc {w : World} {B : Nat} {v : Value} {acc : List Int} {t : Int} (h : w.ownsRow B 3 1 v (acc.length + 1) (nums acc ++ (#[Value.int .i64 t] : Array Value).toList)) : w.ownsRow B 3 1 v (acc ++ [t]).length (nums (acc ++ [t])) := by
  have e : nums (acc ++ [t]) = nums acc ++ (#[Value.int .i64 t] : Array Value).toList := by simp [nums]
  rw [e, List.length_append]
  exact h
/-- The rows of legs lie apart. -/
def ApL (n : Nat) (vl : Nat → Value) : Prop := ∀ i k g, i < n → k < n → i ≠ k → (vl i).ownBlock = some g → (vl k).ownBlock ≠ some g
/-- A line of one's own whose rows lie apart. -/
def OwnA (B : Nat) (w : World) (l : Line) (v0 v2 : Value) (vl : Nat → Value) : Prop := w.ownsRow B 3 1 v0 l.tracks.length (nums l.tracks) ∧ TrI w B l.trains v2 vl ∧ ApL l.trains.length vl
theorem OwnA.ownL {B : Nat} {w : World} {l : Line} {v0 v2 : Value} {vl : Nat → Value} (h : OwnA B w l v0 v2 vl) : OwnL B w (.agg #[v0, .int .i64 l.gap, v2]) l := ⟨v0, v2, vl, rfl, h.1, h.2.1⟩
theorem OwnA.ext {B : Nat} {w w' : World} {l : Line} {v0 v2 : Value} {vl : Nat → Value} (h : OwnA B w l v0 v2 vl) (e : Ext w w') : OwnA B w' l v0 v2 vl := ⟨ownsRow_ext h.1 e, h.2.1.ext e, h.2.2⟩
/-- Blocks of two types are two blocks. -/
theorem own_ne {w : World} {B : Nat} {e : TypeId} {size : Nat} {v : Value} {n : Nat} {xs : List Value} (h : w.ownsRow B e size v n xs) {g k : Nat} {cs : Array Value} {t : TypeId} {fr : Nat × Nat} (hb : w.heap[g]? = some (.cells cs t fr)) (ht : t ≠ e) (hk : v.ownBlock = some k) : g ≠ k := by
  rintro rfl
  rcases h.2 with ⟨h1, _⟩ | ⟨g', cap, cur, h1, _, h3, _⟩
  · rw [h1] at hk; cases hk
  · rw [h1, ownBlock_slice] at hk
    simp only [Option.some.injEq] at hk
    subst hk
    rw [h3] at hb
    simp only [Option.some.injEq, Obj.cells.injEq] at hb
    exact ht hb.2.1.symm
theorem own_box {w : World} {B : Nat} {e : TypeId} {size : Nat} {v : Value} {n : Nat} {xs : List Value} (h : w.ownsRow B e size v n xs) {g : Nat} (hk : v.ownBlock = some g) : ∃ cur, w.heap[g]? = some (.cells cur e (0, 0)) := by
  rcases h.2 with ⟨h1, _⟩ | ⟨g', cap, cur, h1, _, h3, _⟩
  · rw [h1] at hk; cases hk
  · rw [h1, ownBlock_slice] at hk
    simp only [Option.some.injEq] at hk
    subst hk
    exact ⟨cur, h3⟩
theorem ownsRow_poke {w : World} {B : Nat} {e : TypeId} {size g cap n : Nat} {xs : List Value} (h : w.ownsRow B e size (.slice (some ⟨g, 0, none⟩) n cap) n xs) (j : Nat) (u : Value) :
    (w.setCell ⟨g, j, none⟩ u).ownsRow B e size (.slice (some ⟨g, 0, none⟩) n cap) n (xs.set j u) := by
  have hl := h.1
  rcases h.2 with ⟨h1, _⟩ | ⟨g', cap', cur, h1, h2, h3, h4, h5, h6, h7⟩
  · cases h1
  · simp only [Value.slice.injEq, Option.some.injEq, Addr.mk.injEq, and_true, true_and] at h1
    obtain ⟨rfl, rfl⟩ := h1
    refine ⟨by simp [hl], Or.inr ⟨g, cap, cur.setIfInBounds j u, rfl, h2, box_set h3 j u, h4, h5, by simp [h6], ?_⟩⟩
    rw [← h7]
    simp [List.take_set]
theorem ownsRow_cell {w : World} {B : Nat} {e : TypeId} {size g cap n : Nat} {xs : List Value} (h : w.ownsRow B e size (.slice (some ⟨g, 0, none⟩) n cap) n xs) {j : Nat} {u : Value} (hj : xs[j]? = some u) : w.cell? ⟨g, j, none⟩ = some u := by
  have hl := h.1
  have hlt := lt_of_some hj
  rcases h.2 with ⟨h1, _⟩ | ⟨g', cap', cur, h1, h2, h3, h4, h5, h6, h7⟩
  · cases h1
  · simp only [Value.slice.injEq, Option.some.injEq, Addr.mk.injEq, and_true, true_and] at h1
    obtain ⟨rfl, rfl⟩ := h1
    rw [box_cell h3, ← hj, ← h7, List.getElem?_take_of_lt (by omega)]
    simp
theorem ownsRow_fr {w : World} {B : Nat} {e : TypeId} {size g cap n : Nat} {xs : List Value} (h : w.ownsRow B e size (.slice (some ⟨g, 0, none⟩) n cap) n xs) (j : Nat) : w.frozen? ⟨g, j, none⟩ = false := by
  obtain ⟨cur, hc⟩ := own_box h (ownBlock_slice g n cap)
  exact box_frozen hc j
theorem legCells_set : ∀ (xs : List Leg) (k : Nat) (x : Leg), xs[k]? = some x → ∀ r : Int, (legCells xs).set (k * 3 + 1) (.int .i64 r) = legCells (xs.set k { x with run := r }) ∧ (legCells xs).set (k * 3 + 2) (.int .i64 r) = legCells (xs.set k { x with stay := r })
  | [], k, x, h, r => by simp at h
  | y :: ys, 0, x, h, r => by
    simp only [List.getElem?_cons_zero, Option.some.injEq] at h
    subst h
    exact ⟨rfl, rfl⟩
  | y :: ys, k + 1, x, h, r => by
    simp only [List.getElem?_cons_succ] at h
    obtain ⟨h1, h2⟩ := legCells_set ys k x h r
    have e : ∀ zs : List Leg, legCells (y :: zs) = .int .i64 y.to :: .int .i64 y.run :: .int .i64 y.stay :: legCells zs := fun _ => rfl
    have i1 : (k + 1) * 3 + 1 = (k * 3 + 1) + 1 + 1 + 1 := by omega
    have i2 : (k + 1) * 3 + 2 = (k * 3 + 2) + 1 + 1 + 1 := by omega
    rw [List.set_cons_succ, List.set_cons_succ, e, e, e, i1, i2, List.set_cons_succ, List.set_cons_succ, List.set_cons_succ, List.set_cons_succ, List.set_cons_succ, List.set_cons_succ, h1, h2]
    exact ⟨rfl, rfl⟩
theorem TrI.poke {w : World} {B : Nat} {ts : List Train} {v : Value} {vl : Nat → Value} (h : TrI w B ts v vl) (A : ApL ts.length vl) {i g cap n j : Nat} {u : Value} {legs' : List Leg} (hi : i < ts.length) (hv : vl i = .slice (some ⟨g, 0, none⟩) n cap) (hn : n = (ts.getD i default).legs.length)
    (hset : (legCells (ts.getD i default).legs).set j u = legCells legs') (hlen : legs'.length = (ts.getD i default).legs.length) : TrI (w.setCell ⟨g, j, none⟩ u) B (ts.set i { ts.getD i default with legs := legs' }) v vl := by
  have hob : (vl i).ownBlock = some g := by rw [hv, ownBlock_slice]
  have hget : ∀ m, (ts.set i { ts.getD i default with legs := legs' }).getD m default = if m = i then { ts.getD i default with legs := legs' } else ts.getD m default := fun m => by
    by_cases e : m = i
    · subst e; rw [if_pos rfl]; simp [List.getD_eq_getElem?_getD, hi]
    · rw [if_neg e]; simp [List.getD_eq_getElem?_getD, List.getElem?_set, Ne.symm e]
  have hrows : trRows (ts.set i { ts.getD i default with legs := legs' }) vl = trRows ts vl := by
    unfold trRows
    rw [List.length_set]
    refine List.map_congr_left fun m _ => ?_
    rw [hget]
    by_cases e : m = i
    · subst e; rw [if_pos rfl]; rfl
    · rw [if_neg e]
  refine ⟨?_, fun m hm => ?_, fun m k hm hk => h.far m k (by simpa using hm) hk⟩
  · rw [List.length_set, hrows]
    exact ownsRow_set_far h.own (h.far i g hi hob) j u
  · rw [List.length_set] at hm
    rw [hget]
    by_cases e : m = i
    · subst e
      rw [if_pos rfl]
      simp only []
      have h1 := h.legs m hi
      rw [hv, ← hn] at h1
      have h2 := ownsRow_poke h1 j u
      rw [hset] at h2
      rw [hlen, hv, ← hn]
      exact h2
    · rw [if_neg e]
      exact ownsRow_set_far (h.legs m hm) (A i m g hi hm (Ne.symm e) hob) j u
def Cells3 (g : Nat) (a b c : Value) (W : World) : Prop := W.cell? ⟨g, 0, none⟩ = some a ∧ W.cell? ⟨g, 1, none⟩ = some b ∧ W.cell? ⟨g, 2, none⟩ = some c ∧ g < W.heap.size
theorem lp_c3 {w W : World} {bs : List (Nat × Array Value × TypeId)} {g : Nat} {a b c : Value} (h : Lp w W bs) (hm : (g, #[a, b, c], (33 : TypeId)) ∈ bs) : Cells3 g a b c W := by
  obtain ⟨h1, h2⟩ := h.at_ hm
  exact ⟨h1 0, h1 1, h1 2, h2⟩
theorem far4' {b1 b2 b3 b4 k : Nat} {c1 c2 c3 c4 : Array Value} {t1 t2 t3 t4 : TypeId} (h1 : b1 ≠ k) (h2 : b2 ≠ k) (h3 : b3 ≠ k) (h4 : b4 ≠ k) : ∀ x, x ∈ [(b1, c1, t1), (b2, c2, t2), (b3, c3, t3), (b4, c4, t4)] → x.1 ≠ k := by
  intro x hx
  simp only [List.mem_cons, List.not_mem_nil, or_false] at hx
  rcases hx with rfl | rfl | rfl | rfl
  · exact h1
  · exact h2
  · exact h3
  · exact h4
end Go.Proofs.YthhkbfjolmgloaaDoor
