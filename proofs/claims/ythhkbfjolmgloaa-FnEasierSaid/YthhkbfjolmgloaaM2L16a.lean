/- What a drawing keeps of memory: its reader's box alone is written of what was there; its own boxes; rows of trains of its own. Plain memory alone.
   Rows of trains of one's own, each train's legs a row of its own, while they are made. Plain memory alone. -/
import Derived.Test.YthhkbfjolmgloaaM2L13a
import Derived.Test.YthhkbfjolmgloaaML16a
namespace Go.Proofs.Ythhkbfjolmgloaa
open Go.RowKit
set_option linter.unusedVariables false
set_option linter.unusedSimpArgs false
theorem Rd.chg {α : Type} {F : World → Nat → Nat → α → Prop} {S : Nat → Prop} {w w' : World} {A : Option Addr} {xs : List α} {size : Nat} (hF : ∀ b o x, b < w.heap.size → ¬ S b → F w b o x → F w' b o x) (h : Rd F w A xs size) (C : Chg S w w') (hA : ∀ b o, A = some ⟨b, o, none⟩ → ¬ S b) : Rd F w' A xs size := fun j x hx => by
  obtain ⟨b, off, h1, h2, h3⟩ := h j x hx
  exact ⟨b, off, h1, Nat.lt_of_lt_of_le h2 C.size, hF _ _ _ h2 (hA b off h1) h3⟩
theorem Chg.cell {S : Nat → Prop} {w w' : World} (C : Chg S w w') {g : Nat} (o : Nat) (hg : g < w.heap.size) (hs : ¬ S g) : w'.cell? ⟨g, o, none⟩ = w.cell? ⟨g, o, none⟩ := World.cell?_of_block (a := ⟨g, o, none⟩) (C.block g hg hs)
theorem RdByte.chg {S : Nat → Prop} {w w' : World} {A : Option Addr} {xs : List Int} (h : RdByte w A xs) (C : Chg S w w') (hA : ∀ b o, A = some ⟨b, o, none⟩ → ¬ S b) : RdByte w' A xs := Rd.chg (fun b o x hb hs h => (C.cell o hb hs).trans h) h C hA
/-- A drawing under way: where its reader is, which boxes of its own hold what. -/
structure Dw (w : World) (gc : Nat) (code : List Int) (A : Option Addr) (cA : Nat) (wr : World) (c : Cu) (bs : List (Nat × Array Value × TypeId)) : Prop where
  cur : CurIs wr gc code A cA c
  chg : Chg (fun g => g = gc) w wr
  box : ∀ x, x ∈ bs → wr.heap[x.1]? = some (.cells x.2.1 x.2.2 (0, 0))
  new : ∀ x, x ∈ bs → w.heap.size ≤ x.1
  old : gc < w.heap.size
section
variable {w wr w' : World} {gc : Nat} {code : List Int} {A : Option Addr} {cA : Nat} {c c' : Cu} {bs : List (Nat × Array Value × TypeId)}
theorem Dw.start (h : CurIs w gc code A cA c) : Dw w gc code A cA w c [] := ⟨h, Chg.of_ext (Ext.refl w), (fun _ h => by cases h), (fun _ h => by cases h), box_lt h⟩
theorem Dw.ext (h : Dw w gc code A cA wr c bs) (e : Ext wr w') : Dw w gc code A cA w' c bs := ⟨e.box h.cur, h.chg.trans (Chg.of_ext e), fun x hx => e.box (h.box x hx), h.new, h.old⟩
theorem Dw.pick (h : Dw w gc code A cA wr c bs) (k : CurIs w' gc code A cA c') (C : Chg (fun g => g = gc) wr w') : Dw w gc code A cA w' c' bs :=
  ⟨k, h.chg.trans C, fun x hx => C.box (h.box x hx) (by have := h.new x hx; have := h.old; show ¬ x.1 = gc; omega), h.new, h.old⟩
theorem Dw.newAt (h : Dw w gc code A cA wr c bs) {g : Nat} (cs : Array Value) (t : TypeId) (hg : wr.heap.size = g) : Dw w gc code A cA (wr.alloc (.cells cs t)) c ((g, cs, t) :: bs) := by
  subst hg
  have e := (Ext.refl wr).alloc (.cells cs t)
  refine ⟨e.box h.cur, h.chg.trans (Chg.of_ext e), fun x hx => ?_, fun x hx => ?_, h.old⟩
  · rcases List.mem_cons.1 hx with rfl | hx
    · exact box_new wr _
    · exact e.box (h.box x hx)
  · rcases List.mem_cons.1 hx with rfl | hx
    · exact h.chg.size
    · exact h.new x hx
theorem Dw.tail {b : Nat × Array Value × TypeId} (h : Dw w gc code A cA wr c (b :: bs)) : Dw w gc code A cA wr c bs := ⟨h.cur, h.chg, fun x hx => h.box x (List.mem_cons_of_mem _ hx), fun x hx => h.new x (List.mem_cons_of_mem _ hx), h.old⟩
theorem Dw.set {g : Nat} {cs : Array Value} {t : TypeId} (h : Dw w gc code A cA wr c ((g, cs, t) :: bs)) (hne : ∀ x, x ∈ bs → x.1 ≠ g) (j : Nat) (u : Value) : Dw w gc code A cA (wr.setCell ⟨g, j, none⟩ u) c ((g, cs.setIfInBounds j u, t) :: bs) := by
  have hg := h.new (g, cs, t) (by simp)
  refine ⟨box_set_far h.cur j u (by have := h.old; simp only at hg; omega), h.chg.setCell (Or.inr hg) j u, fun x hx => ?_, fun x hx => ?_, h.old⟩
  · rcases List.mem_cons.1 hx with rfl | hx
    · exact box_set (h.box (g, cs, t) (by simp)) j u
    · exact box_set_far (h.box x (List.mem_cons_of_mem _ hx)) j u (hne x hx)
  · rcases List.mem_cons.1 hx with rfl | hx
    · exact hg
    · exact h.new x (List.mem_cons_of_mem _ hx)
theorem Dw.grown {row : Option Nat} (h : Dw w gc code A cA wr c bs) (hg : wr.grownBy w' row) (hr : ∀ k, row = some k → w.heap.size ≤ k ∧ ∀ x, x ∈ bs → x.1 ≠ k) : Dw w gc code A cA w' c bs := by
  refine ⟨(hg.block gc (box_lt h.cur) (fun e => by have := (hr gc e.symm).1; have := h.old; omega)).trans h.cur, h.chg.grown hg (fun k hk => Or.inr (hr k hk).1), fun x hx => ?_, h.new, h.old⟩
  exact (hg.block x.1 (box_lt (h.box x hx)) (fun e => (hr x.1 e.symm).2 x hx rfl)).trans (h.box x hx)
theorem Dw.swap {a b : Nat × Array Value × TypeId} (h : Dw w gc code A cA wr c (a :: b :: bs)) : Dw w gc code A cA wr c (b :: a :: bs) :=
  ⟨h.cur, h.chg, fun x hx => h.box x (by simp only [List.mem_cons] at hx ⊢; rcases hx with hx | hx | hx <;> simp [hx]), fun x hx => h.new x (by simp only [List.mem_cons] at hx ⊢; rcases hx with hx | hx | hx <;> simp [hx]), h.old⟩
theorem Dw.at_ (h : Dw w gc code A cA wr c bs) {g : Nat} {cs : Array Value} {t : TypeId} (hm : (g, cs, t) ∈ bs) : (∀ j, wr.cell? ⟨g, j, none⟩ = cs[j]?) ∧ g < wr.heap.size ∧ ∀ j, wr.frozen? ⟨g, j, none⟩ = false := ⟨fun j => box_cell (h.box _ hm) j, box_lt (h.box _ hm), fun j => box_frozen (h.box _ hm) j⟩
/-- What a pick does in a drawing. -/
def PickC (w : World) (gc : Nat) (code : List Int) (A : Option Addr) (cA : Nat) : Prop :=
  ∀ (wr : World) (c : Cu) (bs : List (Nat × Array Value × TypeId)) (n : Int), Dw w gc code A cA wr c bs → c.pos ≤ 1000000 → n ≤ 200 →
    Calls Try.prog 123 #[.pointer (some ⟨gc, 0, none⟩), .int .i64 n] wr fun e w' => e = .returned (.int .i64 (pickC code n c).1) ∧ Dw w gc code A cA w' (pickC code n c).2 bs ∧ Chg (fun g => g = gc) wr w'
theorem pick_dw (hB : RdByte w A code) (By : Bytes code) (hne : ∀ b o, A = some ⟨b, o, none⟩ → b ≠ gc) (hn : code.length ≤ 1048576) : PickC w gc code A cA := fun wr c bs n D hp h2 => by
  refine (pick_any D.cur (hB.chg D.chg hne) By hne hp hn h2).mono ?_
  rintro e w' ⟨h1, h3, h4⟩
  exact ⟨h1, D.pick h3 h4, h4⟩
end
/-! ### Trains of one's own -/
theorem legCells_at {xs : List Leg} {j : Nat} {x : Leg} (h : xs[j]? = some x) : (xs.map legRow).flatten[j * 3]? = some (.int .i64 x.to) ∧ (xs.map legRow).flatten[j * 3 + 1]? = some (.int .i64 x.run) ∧ (xs.map legRow).flatten[j * 3 + 2]? = some (.int .i64 x.stay) := by
  have hr : (xs.map legRow)[j]? = some (legRow x) := by simp [h]
  have h3 : ∀ r, r ∈ xs.map legRow → r.length = 3 := by
    intro r hr
    obtain ⟨y, _, rfl⟩ := List.mem_map.1 hr
    rfl
  exact ⟨flatten_get h3 hr (j := 0) (by omega), flatten_get h3 hr (j := 1) (by omega), flatten_get h3 hr (j := 2) (by omega)⟩
end Go.Proofs.Ythhkbfjolmgloaa
namespace Go.Proofs.Ythhkbfjolmgloaa
open Go.RowKit
set_option linter.unusedVariables false
set_option linter.unusedSimpArgs false
def legCells (xs : List Leg) : List Value := (xs.map legRow).flatten
theorem legCells_append (xs : List Leg) (x : Leg) : legCells (xs ++ [x]) = legCells xs ++ legRow x := by simp [legCells]
theorem rd_of_legs {w : World} {B n : Nat} {v : Value} {xs : List Leg} (h : w.ownsRow B 84 3 v n (legCells xs)) (hn : n = xs.length) : ∃ A c, v = .slice A xs.length c ∧ RdLeg w A xs := by
  subst hn
  rcases h.2 with ⟨h1, h2⟩ | ⟨g, cap, cur, h1, h2, h3, h4, h5, h6, h7⟩
  · obtain rfl : xs = [] := List.eq_nil_of_length_eq_zero h2
    exact ⟨none, 0, h1, fun j x hx => by simp at hx⟩
  · refine ⟨some ⟨g, 0, none⟩, cap, h1, fun j x hx => ⟨g, 0, rfl, box_lt h3, ?_⟩⟩
    have hj := lt_of_some hx
    obtain ⟨a0, a1, a2⟩ := legCells_at hx
    have key : ∀ i, i < 3 → w.cell? ⟨g, 0 + j * 3 + i, none⟩ = (legCells xs)[j * 3 + i]? := fun i hi => by
      rw [box_cell h3, ← h7, List.getElem?_take_of_lt (by omega), Nat.zero_add]
      simp
    exact ⟨(key 0 (by omega)).trans a0, (key 1 (by omega)).trans a1, (key 2 (by omega)).trans a2⟩
def trRows (ts : List Train) (vl : Nat → Value) : List (List Value) := (List.range ts.length).map fun i => trainRow (ts.getD i default) (vl i)
theorem trRows_append (ts : List Train) (t : Train) (vl : Nat → Value) (u : Value) : trRows (ts ++ [t]) (upd vl ts.length u) = trRows ts vl ++ [trainRow t u] := by
  unfold trRows
  rw [List.length_append, List.length_singleton, List.range_succ, List.map_append]
  congr 1
  · refine List.map_congr_left fun i hi => ?_
    have hi := List.mem_range.1 hi
    unfold upd
    rw [if_neg (by omega)]
    simp only [List.getD_eq_getElem?_getD]
    rw [List.getElem?_append_left hi]
  · simp [upd]
theorem trRows_flat (ts : List Train) (t : Train) (vl : Nat → Value) (u : Value) : (trRows (ts ++ [t]) (upd vl ts.length u)).flatten = (trRows ts vl).flatten ++ trainRow t u := by rw [trRows_append]; simp
theorem trRows_at {ts : List Train} {vl : Nat → Value} {j i : Nat} {t : Train} (h : ts[j]? = some t) (hi : i < 5) : (trRows ts vl).flatten[j * 5 + i]? = (trainRow t (vl j))[i]? := by
  have hj := lt_of_some h
  have hr : (trRows ts vl)[j]? = some (trainRow t (vl j)) := by
    have e : ts.getD j default = t := getD_some h
    unfold trRows
    rw [List.getElem?_map, List.getElem?_range hj, Option.map_some, e]
  have h5 : ∀ r, r ∈ trRows ts vl → r.length = 5 := by
    intro r hr
    obtain ⟨y, _, rfl⟩ := List.mem_map.1 hr
    rfl
  exact flatten_get h5 hr hi
/-- Trains of one's own. -/
structure TrI (w : World) (B : Nat) (ts : List Train) (v : Value) (vl : Nat → Value) : Prop where
  own : w.ownsRow B 80 5 v ts.length (trRows ts vl).flatten
  legs : ∀ i, i < ts.length → w.ownsRow B 84 3 (vl i) (ts.getD i default).legs.length (legCells (ts.getD i default).legs)
  far : ∀ i g, i < ts.length → (vl i).ownBlock = some g → v.ownBlock ≠ some g
theorem TrI.nil (w : World) (B : Nat) (vl : Nat → Value) : TrI w B [] (.slice none 0 0) vl := ⟨World.ownsRow_nil _ _ _ _, fun i hi => by simp at hi, fun i g hi => by simp at hi⟩
theorem TrI.keep {S : Nat → Prop} {w w' : World} {B : Nat} {ts : List Train} {v : Value} {vl : Nat → Value} (h : TrI w B ts v vl) (C : Chg S w w') (hS : ∀ g, S g → g < B) : TrI w' B ts v vl :=
  ⟨ownsRow_chg h.own C hS, fun i hi => ownsRow_chg (h.legs i hi) C hS, h.far⟩
theorem TrI.ext {w w' : World} {B : Nat} {ts : List Train} {v : Value} {vl : Nat → Value} (h : TrI w B ts v vl) (e : Ext w w') : TrI w' B ts v vl :=
  ⟨ownsRow_ext h.own e, fun i hi => ownsRow_ext (h.legs i hi) e, h.far⟩
/-- What is written in new memory alone does not touch them. -/
theorem TrI.above {S : Nat → Prop} {w0 w w' : World} {B : Nat} {ts : List Train} {v : Value} {vl : Nat → Value} (h : TrI w B ts v vl) (h0 : ∀ g, v.ownBlock = some g → g < w0.heap.size) (h1 : ∀ i g, i < ts.length → (vl i).ownBlock = some g → g < w0.heap.size) (C : Chg S w w') (hS : ∀ g, S g → g < B ∨ w0.heap.size ≤ g) : TrI w' B ts v vl :=
  ⟨ownsRow_keep h.own C (fun g hg hs => by have := (h.own.lt g hg).1; have := h0 g hg; have := hS g hs; omega), fun i hi => ownsRow_keep (h.legs i hi) C (fun g hg hs => by have := ((h.legs i hi).lt g hg).1; have := h1 i g hi hg; have := hS g hs; omega), h.far⟩
theorem TrI.lt {w : World} {B : Nat} {ts : List Train} {v : Value} {vl : Nat → Value} (h : TrI w B ts v vl) : (∀ g, v.ownBlock = some g → B ≤ g ∧ g < w.heap.size) ∧ ∀ i g, i < ts.length → (vl i).ownBlock = some g → B ≤ g ∧ g < w.heap.size :=
  ⟨fun g hg => h.own.lt g hg, fun i g hi hg => (h.legs i hi).lt g hg⟩
theorem TrI.step {w wd : World} {o : Obj} {B B' g cap n : Nat} {ts : List Train} {t : Train} {v u : Value} {vl : Nat → Value} (h : TrI w B ts v vl) (hL : w.ownsRow B' 84 3 u t.legs.length (legCells t.legs)) (hfar : ∀ g, u.ownBlock = some g → v.ownBlock ≠ some g) (hB' : B ≤ B') (hn : n = ts.length)
    (hd : (w.alloc o).grownBy wd v.ownBlock) (hown : wd.ownsRow B 80 5 (.slice (some ⟨g, 0, none⟩) (n + 1) cap) (n + 1) ((trRows ts vl).flatten ++ trainRow t u)) (hg : v.ownBlock = some g ∨ g = (w.alloc o).heap.size) :
    TrI wd B (ts ++ [t]) (.slice (some ⟨g, 0, none⟩) (n + 1) cap) (upd vl ts.length u) := by
  subst hn
  have hlen : (ts ++ [t]).length = ts.length + 1 := by simp
  have hsz : (w.alloc o).heap.size = w.heap.size + 1 := alloc_size _ _
  have hgl : ∀ i, i < ts.length → (ts ++ [t]).getD i default = ts.getD i default := fun i hi => by
    simp only [List.getD_eq_getElem?_getD]; rw [List.getElem?_append_left hi]
  have hgn : (ts ++ [t]).getD ts.length default = t := by simp
  refine ⟨by rw [hlen, trRows_flat]; exact hown, fun i hi => ?_, fun i k hi hk => ?_⟩
  · rw [hlen] at hi
    unfold upd
    by_cases e : i = ts.length
    · subst e
      rw [if_pos rfl, hgn]
      exact ownsRow_mono (World.ownsRow.kept (hL.alloc o) hd (by
        cases hk : u.ownBlock with
        | none => exact Or.inl rfl
        | some k => exact Or.inr (fun e2 => hfar k hk e2.symm))) hB'
    · rw [if_neg e, hgl i (by omega)]
      exact World.ownsRow.kept ((h.legs i (by omega)).alloc o) hd (by
        cases hk : (vl i).ownBlock with
        | none => exact Or.inl rfl
        | some k => exact Or.inr (fun e2 => h.far i k (by omega) hk e2.symm))
  · rw [hlen] at hi
    rw [ownBlock_slice]
    simp only [ne_eq, Option.some.injEq]
    intro e
    subst e
    unfold upd at hk
    by_cases e : i = ts.length
    · rw [if_pos e] at hk
      rcases hg with h4 | h4
      · exact hfar _ hk h4
      · have := (hL.lt _ hk).2; omega
    · rw [if_neg e] at hk
      rcases hg with h4 | h4
      · exact h.far i _ (by omega) hk h4
      · have := ((h.legs i (by omega)).lt _ hk).2; omega
theorem TrI.rd {w : World} {B : Nat} {ts : List Train} {v : Value} {vl : Nat → Value} (h : TrI w B ts v vl) : ∃ A c, v = .slice A ts.length c ∧ RdTrain w A ts := by
  rcases h.own.2 with ⟨h1, h2⟩ | ⟨g, cap, cur, h1, h2, h3, h4, h5, h6, h7⟩
  · obtain rfl : ts = [] := List.eq_nil_of_length_eq_zero h2
    exact ⟨none, 0, h1, fun j x hx => by simp at hx⟩
  · refine ⟨some ⟨g, 0, none⟩, cap, h1, fun j x hx => ⟨g, 0, rfl, box_lt h3, ?_⟩⟩
    have hj := lt_of_some hx
    have hxx : ts.getD j default = x := getD_some hx
    have hlj := h.legs j hj
    rw [hxx] at hlj
    obtain ⟨A4, c4, hv4, hR4⟩ := rd_of_legs hlj rfl
    have key : ∀ i, i < 5 → w.cell? ⟨g, 0 + j * 5 + i, none⟩ = (trainRow x (vl j))[i]? := fun i hi => by
      rw [← trRows_at (vl := vl) hx hi, box_cell h3, ← h7, List.getElem?_take_of_lt (by omega), Nat.zero_add]
      simp
    exact ⟨key 0 (by omega), key 1 (by omega), key 2 (by omega), key 3 (by omega), A4, c4, by rw [← hv4]; exact key 4 (by omega), hR4⟩
end Go.Proofs.Ythhkbfjolmgloaa
