/- Plain data (lines, trains, legs), how they lie in memory for reading, and what stays so while memory only grows. No condition. -/
import Derived.Test.YthhkbfjolmgloaaDoorProg
import Derived.WalkKit
import Derived.ProofKit
import Derived.Below
import Derived.Lib.Hide
import Derived.Deep.Draws
import Derived.Deep.QuietTactic
import Derived.BigQuiet
import Derived.OwnWalk
namespace Go.Proofs.YthhkbfjolmgloaaDoor
open Go.RowKit
set_option linter.unusedVariables false
set_option linter.unusedSimpArgs false
structure Leg where
  to : Int
  run : Int
  stay : Int
structure Train where
  frm : Int
  ready : Int
  due : Int
  weight : Int
  legs : List Leg
structure Line where
  tracks : List Int
  gap : Int
  trains : List Train
instance : Inhabited Leg := ⟨⟨0, 0, 0⟩⟩
instance : Inhabited Train := ⟨⟨0, 0, 0, 0, []⟩⟩

/-! ### Lists -/
theorem some_of_lt {α : Type} {l : List α} {i : Nat} (h : i < l.length) : ∃ x, l[i]? = some x := ⟨l[i], List.getElem?_eq_getElem h⟩
theorem lt_of_some {α : Type} {l : List α} {i : Nat} {x : α} (h : l[i]? = some x) : i < l.length := (List.getElem?_eq_some_iff.1 h).1
/-- The same, kept from the walk. -/
theorem hid_of_lt {α : Type} {l : List α} {i : Nat} (h : i < l.length) : ∃ x, Hid (l[i]? = some x) := some_of_lt h
theorem getD_some {α : Type} {l : List α} {i : Nat} {x d : α} (h : l[i]? = some x) : l.getD i d = x := by simp [List.getD_eq_getElem?_getD, h]
theorem drop_some {α : Type} {l : List α} {i : Nat} {x : α} (h : l[i]? = some x) : l.drop i = x :: l.drop (i + 1) := by
  obtain ⟨hi, rfl⟩ := List.getElem?_eq_some_iff.1 h
  exact List.drop_eq_getElem_cons hi
theorem drop_end {α : Type} {l : List α} {i : Nat} (h : l.length ≤ i) : l.drop i = [] := List.drop_eq_nil_of_le h
/-- A sum over a list, each element with its place. -/
def sumI {α : Type} (f : Nat → α → Int) : Nat → List α → Int
  | _, [] => 0
  | i, x :: xs => f i x + sumI f (i + 1) xs
theorem sumI_at {α : Type} (f : Nat → α → Int) {l : List α} {i : Nat} {x : α} (h : l[i]? = some x) : sumI f i (l.drop i) = f i x + sumI f (i + 1) (l.drop (i + 1)) := by
  rw [drop_some h]
  rfl
theorem sumI_end {α : Type} (f : Nat → α → Int) {l : List α} {i : Nat} (h : l.length ≤ i) : sumI f i (l.drop i) = 0 := by
  rw [drop_end h]
  rfl
/-- The first place that answers. -/
def findI {α β : Type} (f : Nat → α → Option β) : Nat → List α → Option β
  | _, [] => none
  | i, x :: xs => (f i x).or (findI f (i + 1) xs)
theorem findI_at {α β : Type} (f : Nat → α → Option β) {l : List α} {i : Nat} {x : α} (h : l[i]? = some x) : findI f i (l.drop i) = (f i x).or (findI f (i + 1) (l.drop (i + 1))) := by
  rw [drop_some h]
  rfl
theorem findI_end {α β : Type} (f : Nat → α → Option β) {l : List α} {i : Nat} (h : l.length ≤ i) : findI f i (l.drop i) = none := by
  rw [drop_end h]
  rfl
/-- What is carried from place to place. -/
def foldI {α β : Type} (f : β → Nat → α → β) : β → Nat → List α → β
  | b, _, [] => b
  | b, i, x :: xs => foldI f (f b i x) (i + 1) xs
theorem foldI_at {α β : Type} (f : β → Nat → α → β) (b : β) {l : List α} {i : Nat} {x : α} (h : l[i]? = some x) : foldI f b i (l.drop i) = foldI f (f b i x) (i + 1) (l.drop (i + 1)) := by
  rw [drop_some h]
  rfl
theorem foldI_end {α β : Type} (f : β → Nat → α → β) (b : β) {l : List α} {i : Nat} (h : l.length ≤ i) : foldI f b i (l.drop i) = b := by
  rw [drop_end h]
  rfl

/-! ### Memory that has only grown -/
abbrev Ext (w w' : World) : Prop := Below w.heap.size w w'
theorem Ext.refl (w : World) : Ext w w := Below.refl _ _
theorem Ext.trans {a b c : World} (h : Ext a b) (k : Ext b c) : Ext a c := Below.trans h (Below.mono k h.size)
theorem Ext.alloc {a b : World} (h : Ext a b) (o : Obj) : Ext a (b.alloc o) := Below.alloc h h.size o
theorem Ext.drew {a b : World} (h : Ext a b) : Ext a b.drew := Below.drew h
theorem Ext.drewN {a b : World} (h : Ext a b) (n : Nat) : Ext a (b.drewN n) := ⟨h.os, h.tape, h.output, h.size, h.block⟩
theorem Ext.setCell {a b : World} (h : Ext a b) {p : Addr} (hp : a.heap.size ≤ p.block) (u : Value) : Ext a (b.setCell p u) := Below.setCell h hp u
theorem Ext.cells {a b : World} (h : Ext a b) : (∀ g o, g < a.heap.size → b.cell? ⟨g, o, none⟩ = a.cell? ⟨g, o, none⟩) ∧ (∀ g o, g < a.heap.size → b.frozen? ⟨g, o, none⟩ = a.frozen? ⟨g, o, none⟩) :=
  ⟨fun g o hg => h.cell (p := ⟨g, o, none⟩) hg, fun g o hg => h.frozen (p := ⟨g, o, none⟩) hg⟩
theorem Ext.up {a b : World} (h : Ext a b) : ∀ g, g < a.heap.size → g < b.heap.size := fun _ hg => Nat.lt_of_lt_of_le hg h.size
theorem lt_of_cell {w : World} {b o : Nat} {v : Value} (h : w.cell? ⟨b, o, none⟩ = some v) : b < w.heap.size := World.block_lt_of_cell? w _ h
theorem Ext.box {a b : World} (h : Ext a b) {g : Nat} {o : Obj} (hg : a.heap[g]? = some o) : b.heap[g]? = some o := (h.block g (Array.getElem?_eq_some_iff.1 hg).1).trans hg
theorem box_new (w : World) (o : Obj) : (w.alloc o).heap[w.heap.size]? = some o := by
  show (w.heap.push o)[w.heap.size]? = _
  simp
theorem box_lt {w : World} {g : Nat} {o : Obj} (h : w.heap[g]? = some o) : g < w.heap.size := (Array.getElem?_eq_some_iff.1 h).1
theorem box_old {w : World} {g : Nat} {o : Obj} (h : w.heap[g]? = some o) (o' : Obj) : (w.alloc o').heap[g]? = some o := (Below.heap_alloc w o' g (box_lt h)).trans h
theorem box_cell {w : World} {g : Nat} {cs : Array Value} {t : TypeId} {fr : Nat × Nat} (h : w.heap[g]? = some (.cells cs t fr)) (j : Nat) : w.cell? ⟨g, j, none⟩ = cs[j]? := by
  simp [World.cell?, h]
theorem alloc_size (w : World) (o : Obj) : (w.alloc o).heap.size = w.heap.size + 1 := by simp

/-- Since w memory has only grown, and the named blocks hold what is told (a call's own boxes). -/
structure Lp (w wr : World) (bs : List (Nat × Array Value × TypeId)) : Prop where
  ext : Ext w wr
  box : ∀ x, x ∈ bs → wr.heap[x.1]? = some (.cells x.2.1 x.2.2 (0, 0))
section
variable {w wr w' : World} {bs : List (Nat × Array Value × TypeId)} {b1 b2 b3 b4 : Nat} {cs1 cs2 cs3 cs4 : Array Value} {t1 t2 t3 t4 : TypeId}
theorem Lp.nil (w : World) : Lp w w [] := ⟨Ext.refl w, fun _ h => by cases h⟩
theorem Lp.of_ext (h : Ext w wr) : Lp w wr [] := ⟨h, fun _ h => by cases h⟩
theorem Lp.trans (h : Lp w wr bs) (e : Ext wr w') : Lp w w' bs := ⟨h.ext.trans e, fun x hx => e.box (h.box x hx)⟩
theorem Lp.alloc (h : Lp w wr bs) (o : Obj) : Lp w (wr.alloc o) bs := h.trans ((Ext.refl _).alloc o)
theorem Lp.drewN (h : Lp w wr bs) (n : Nat) : Lp w (wr.drewN n) bs := h.trans ((Ext.refl _).drewN n)
theorem Lp.drew (h : Lp w wr bs) : Lp w wr.drew bs := h.trans (Ext.refl _).drew
theorem Lp.new (h : Lp w wr bs) (cs : Array Value) (t : TypeId) : Lp w (wr.alloc (.cells cs t)) ((wr.heap.size, cs, t) :: bs) :=
  ⟨h.ext.alloc _, fun x hx => by
    rcases List.mem_cons.1 hx with rfl | hx
    · exact box_new wr _
    · exact box_old (h.box x hx) _⟩
theorem Lp.newAt (h : Lp w wr bs) {g : Nat} (cs : Array Value) (t : TypeId) (hg : wr.heap.size = g) : Lp w (wr.alloc (.cells cs t)) ((g, cs, t) :: bs) := by subst hg; exact h.new cs t
theorem Lp.tail {b : Nat × Array Value × TypeId} (h : Lp w wr (b :: bs)) : Lp w wr bs := ⟨h.ext, fun x hx => h.box x (List.mem_cons_of_mem _ hx)⟩
theorem Lp.add (h : Lp w wr bs) {g : Nat} {cs : Array Value} {t : TypeId} (hg : wr.heap[g]? = some (.cells cs t (0, 0))) : Lp w wr ((g, cs, t) :: bs) := ⟨h.ext, fun x hx => by
    rcases List.mem_cons.1 hx with rfl | hx
    · exact hg
    · exact h.box x hx⟩
theorem Lp.start1 (w : World) (cs1 : Array Value) (t1 : TypeId) : Lp w (w.alloc (.cells cs1 t1)) [(w.heap.size, cs1, t1)] := (Lp.nil w).new cs1 t1
theorem Lp.start2 (w : World) (cs1 cs2 : Array Value) (t1 t2 : TypeId) : Lp w ((w.alloc (.cells cs1 t1)).alloc (.cells cs2 t2)) [(w.heap.size + 1, cs2, t2), (w.heap.size, cs1, t1)] := by
  have h := (Lp.start1 w cs1 t1).new cs2 t2
  rwa [alloc_size] at h
theorem Lp.at_ (h : Lp w wr bs) {g : Nat} {cs : Array Value} {t : TypeId} (hm : (g, cs, t) ∈ bs) : (∀ j, wr.cell? ⟨g, j, none⟩ = cs[j]?) ∧ g < wr.heap.size := ⟨fun j => box_cell (h.box _ hm) j, box_lt (h.box _ hm)⟩
/-- What the walk needs of it, the boxes' cells one by one. -/
theorem Lp.open0 (h : Lp w wr bs) : (∀ g o, g < w.heap.size → wr.cell? ⟨g, o, none⟩ = w.cell? ⟨g, o, none⟩) ∧ (∀ g, g < w.heap.size → g < wr.heap.size) := ⟨h.ext.cells.1, h.ext.up⟩
theorem Lp.open1 (h : Lp w wr ((b1, cs1, t1) :: bs)) : (∀ g o, g < w.heap.size → wr.cell? ⟨g, o, none⟩ = w.cell? ⟨g, o, none⟩) ∧ (∀ g, g < w.heap.size → g < wr.heap.size) ∧ (∀ j, wr.cell? ⟨b1, j, none⟩ = cs1[j]?) ∧ b1 < wr.heap.size := by
  obtain ⟨h1, h2⟩ := h.at_ (g := b1) (cs := cs1) (t := t1) (by simp)
  exact ⟨h.ext.cells.1, h.ext.up, h1, h2⟩
theorem Lp.open2 (h : Lp w wr ((b1, cs1, t1) :: (b2, cs2, t2) :: bs)) : (∀ g o, g < w.heap.size → wr.cell? ⟨g, o, none⟩ = w.cell? ⟨g, o, none⟩) ∧ (∀ g, g < w.heap.size → g < wr.heap.size) ∧ (∀ j, wr.cell? ⟨b1, j, none⟩ = cs1[j]?) ∧ b1 < wr.heap.size ∧ (∀ j, wr.cell? ⟨b2, j, none⟩ = cs2[j]?) ∧ b2 < wr.heap.size := by
  obtain ⟨k1, k2, k3, k4⟩ := h.open1
  obtain ⟨_, _, k5, k6⟩ := h.tail.open1
  exact ⟨k1, k2, k3, k4, k5, k6⟩
theorem Lp.open3 (h : Lp w wr ((b1, cs1, t1) :: (b2, cs2, t2) :: (b3, cs3, t3) :: bs)) : (∀ g o, g < w.heap.size → wr.cell? ⟨g, o, none⟩ = w.cell? ⟨g, o, none⟩) ∧ (∀ g, g < w.heap.size → g < wr.heap.size) ∧ (∀ j, wr.cell? ⟨b1, j, none⟩ = cs1[j]?) ∧ b1 < wr.heap.size ∧ (∀ j, wr.cell? ⟨b2, j, none⟩ = cs2[j]?) ∧ b2 < wr.heap.size ∧ (∀ j, wr.cell? ⟨b3, j, none⟩ = cs3[j]?) ∧ b3 < wr.heap.size := by
  obtain ⟨k1, k2, k3, k4, k5, k6⟩ := h.open2
  obtain ⟨_, _, k7, k8⟩ := h.tail.tail.open1
  exact ⟨k1, k2, k3, k4, k5, k6, k7, k8⟩
theorem Lp.open4 (h : Lp w wr ((b1, cs1, t1) :: (b2, cs2, t2) :: (b3, cs3, t3) :: (b4, cs4, t4) :: bs)) : (∀ g o, g < w.heap.size → wr.cell? ⟨g, o, none⟩ = w.cell? ⟨g, o, none⟩) ∧ (∀ g, g < w.heap.size → g < wr.heap.size) ∧ (∀ j, wr.cell? ⟨b1, j, none⟩ = cs1[j]?) ∧ b1 < wr.heap.size ∧ (∀ j, wr.cell? ⟨b2, j, none⟩ = cs2[j]?) ∧ b2 < wr.heap.size ∧ (∀ j, wr.cell? ⟨b3, j, none⟩ = cs3[j]?) ∧ b3 < wr.heap.size ∧ (∀ j, wr.cell? ⟨b4, j, none⟩ = cs4[j]?) ∧ b4 < wr.heap.size := by
  obtain ⟨k1, k2, k3, k4, k5, k6, k7, k8⟩ := h.open3
  obtain ⟨_, _, k9, k10⟩ := h.tail.tail.tail.open1
  exact ⟨k1, k2, k3, k4, k5, k6, k7, k8, k9, k10⟩
end

theorem box_frozen {w : World} {g : Nat} {cs : Array Value} {t : TypeId} (h : w.heap[g]? = some (.cells cs t (0, 0))) (j : Nat) : w.frozen? ⟨g, j, none⟩ = false := by simp [World.frozen?, h]
theorem box_set {w : World} {g : Nat} {cs : Array Value} {t : TypeId} (h : w.heap[g]? = some (.cells cs t (0, 0))) (j : Nat) (u : Value) : (w.setCell ⟨g, j, none⟩ u).heap[g]? = some (.cells (cs.setIfInBounds j u) t (0, 0)) := by
  simp [World.setCell, Array.getElem?_modify, h]
theorem box_set_far {w : World} {g g' : Nat} {o : Obj} (h : w.heap[g]? = some o) (j : Nat) (u : Value) (hne : g ≠ g') : (w.setCell ⟨g', j, none⟩ u).heap[g]? = some o := (Below.heap_setCell w ⟨g', j, none⟩ u g hne).trans h
theorem Lp.set {w wr : World} {g : Nat} {cs : Array Value} {t : TypeId} {bs : List (Nat × Array Value × TypeId)} (h : Lp w wr ((g, cs, t) :: bs)) (hg : w.heap.size ≤ g) (hne : ∀ x, x ∈ bs → x.1 ≠ g) (j : Nat) (u : Value) : Lp w (wr.setCell ⟨g, j, none⟩ u) ((g, cs.setIfInBounds j u, t) :: bs) :=
  ⟨h.ext.setCell hg u, fun x hx => by
    rcases List.mem_cons.1 hx with rfl | hx
    · exact box_set (h.box _ List.mem_cons_self) j u
    · exact box_set_far (h.box _ (List.mem_cons_of_mem _ hx)) j u (hne x hx)⟩
/-! ### Rows of data, for reading -/
/-- A row's head: where it lies. -/
def Rd {α : Type} (F : World → Nat → Nat → α → Prop) (w : World) (A : Option Addr) (xs : List α) (size : Nat) : Prop :=
  ∀ j x, xs[j]? = some x → ∃ b off, A = some ⟨b, off, none⟩ ∧ b < w.heap.size ∧ F w b (off + j * size) x
theorem Rd.ext {α : Type} {F : World → Nat → Nat → α → Prop} {w w' : World} {A : Option Addr} {xs : List α} {size : Nat} (hF : ∀ b o x, b < w.heap.size → F w b o x → F w' b o x) (h : Rd F w A xs size) (e : Ext w w') : Rd F w' A xs size := fun j x hx => by
  obtain ⟨b, off, h1, h2, h3⟩ := h j x hx
  exact ⟨b, off, h1, e.up _ h2, hF _ _ _ h2 h3⟩
theorem Rd.base {α : Type} {F : World → Nat → Nat → α → Prop} {w : World} {A : Option Addr} {xs : List α} {size : Nat} (h : Rd F w A xs size) {j : Nat} (hj : j < xs.length) : ∃ b off, A = some ⟨b, off, none⟩ ∧ b < w.heap.size := by
  obtain ⟨x, hx⟩ := some_of_lt hj
  obtain ⟨b, off, h1, h2, _⟩ := h j x hx
  exact ⟨b, off, h1, h2⟩
theorem Rd.at_ {α : Type} {F : World → Nat → Nat → α → Prop} {w : World} {b off : Nat} {xs : List α} {size : Nat} (h : Rd F w (some ⟨b, off, none⟩) xs size) {j : Nat} {x : α} (hx : xs[j]? = some x) : F w b (off + j * size) x := by
  obtain ⟨b', off', h1, _, h3⟩ := h j x hx
  simp only [Option.some.injEq, Addr.mk.injEq, and_true] at h1
  obtain ⟨rfl, rfl⟩ := h1
  exact h3
def AtInt (w : World) (b o : Nat) (x : Int) : Prop := w.cell? ⟨b, o, none⟩ = some (.int .i64 x)
def AtLeg (w : World) (b o : Nat) (x : Leg) : Prop := w.cell? ⟨b, o, none⟩ = some (.int .i64 x.to) ∧ w.cell? ⟨b, o + 1, none⟩ = some (.int .i64 x.run) ∧ w.cell? ⟨b, o + 2, none⟩ = some (.int .i64 x.stay)
abbrev RdInt (w : World) (A : Option Addr) (xs : List Int) : Prop := Rd AtInt w A xs 1
abbrev RdLeg (w : World) (A : Option Addr) (xs : List Leg) : Prop := Rd AtLeg w A xs 3
def AtTrain (w : World) (b o : Nat) (x : Train) : Prop :=
  w.cell? ⟨b, o, none⟩ = some (.int .i64 x.frm) ∧ w.cell? ⟨b, o + 1, none⟩ = some (.int .i64 x.ready) ∧ w.cell? ⟨b, o + 2, none⟩ = some (.int .i64 x.due) ∧ w.cell? ⟨b, o + 3, none⟩ = some (.int .i64 x.weight) ∧
    ∃ A4 c4, w.cell? ⟨b, o + 4, none⟩ = some (.slice A4 x.legs.length c4) ∧ RdLeg w A4 x.legs
def AtRow (w : World) (b o : Nat) (x : List Int) : Prop := ∃ A0 c0, w.cell? ⟨b, o, none⟩ = some (.slice A0 x.length c0) ∧ RdInt w A0 x
abbrev RdTrain (w : World) (A : Option Addr) (xs : List Train) : Prop := Rd AtTrain w A xs 5
abbrev RdRows (w : World) (A : Option Addr) (xs : List (List Int)) : Prop := Rd AtRow w A xs 1
section
variable {w w' : World} {A : Option Addr}
theorem RdInt.ext {xs : List Int} (h : RdInt w A xs) (e : Ext w w') : RdInt w' A xs := Rd.ext (fun b o x hb h => (e.cells.1 b o hb).trans h) h e
theorem AtLeg.ext {b o : Nat} {x : Leg} (h : AtLeg w b o x) (hb : b < w.heap.size) (e : Ext w w') : AtLeg w' b o x := ⟨(e.cells.1 b _ hb).trans h.1, (e.cells.1 b _ hb).trans h.2.1, (e.cells.1 b _ hb).trans h.2.2⟩
theorem RdLeg.ext {xs : List Leg} (h : RdLeg w A xs) (e : Ext w w') : RdLeg w' A xs := Rd.ext (fun b o x hb h => h.ext hb e) h e
theorem AtTrain.ext {b o : Nat} {x : Train} (h : AtTrain w b o x) (hb : b < w.heap.size) (e : Ext w w') : AtTrain w' b o x := by
  obtain ⟨h1, h2, h3, h4, A4, c4, h5, h6⟩ := h
  exact ⟨(e.cells.1 b _ hb).trans h1, (e.cells.1 b _ hb).trans h2, (e.cells.1 b _ hb).trans h3, (e.cells.1 b _ hb).trans h4, A4, c4, (e.cells.1 b _ hb).trans h5, h6.ext e⟩
theorem RdTrain.ext {xs : List Train} (h : RdTrain w A xs) (e : Ext w w') : RdTrain w' A xs := Rd.ext (fun b o x hb h => h.ext hb e) h e
theorem AtRow.ext {b o : Nat} {x : List Int} (h : AtRow w b o x) (hb : b < w.heap.size) (e : Ext w w') : AtRow w' b o x := by
  obtain ⟨A4, c4, h5, h6⟩ := h
  exact ⟨A4, c4, (e.cells.1 b _ hb).trans h5, h6.ext e⟩
theorem RdRows.ext {xs : List (List Int)} (h : RdRows w A xs) (e : Ext w w') : RdRows w' A xs := Rd.ext (fun b o x hb h => h.ext hb e) h e
theorem RdInt.at_ {b off : Nat} {xs : List Int} (h : RdInt w (some ⟨b, off, none⟩) xs) {j : Nat} {x : Int} (hx : xs[j]? = some x) : w.cell? ⟨b, off + j, none⟩ = some (.int .i64 x) := by
  have := Rd.at_ h hx
  rwa [Nat.mul_one] at this
theorem RdRows.at_ {b off : Nat} {xs : List (List Int)} (h : RdRows w (some ⟨b, off, none⟩) xs) {j : Nat} {x : List Int} (hx : xs[j]? = some x) : ∃ A0 c0, w.cell? ⟨b, off + j, none⟩ = some (.slice A0 x.length c0) ∧ RdInt w A0 x := by
  have := Rd.at_ h hx
  rwa [Nat.mul_one] at this
end

/-! ### A line, a plan, a train as values -/
def IsLine (w : World) (l : Line) (v : Value) : Prop := ∃ A0 c0 A2 c2, v = .agg #[.slice A0 l.tracks.length c0, .int .i64 l.gap, .slice A2 l.trains.length c2] ∧ RdInt w A0 l.tracks ∧ RdTrain w A2 l.trains
def IsPlan (w : World) (p : List (List Int)) (v : Value) : Prop := ∃ A0 c0, v = .agg #[.slice A0 p.length c0] ∧ RdRows w A0 p
def IsTrain (w : World) (t : Train) (v : Value) : Prop := ∃ A4 c4, v = .agg #[.int .i64 t.frm, .int .i64 t.ready, .int .i64 t.due, .int .i64 t.weight, .slice A4 t.legs.length c4] ∧ RdLeg w A4 t.legs
theorem IsLine.ext {w w' : World} {l : Line} {v : Value} (h : IsLine w l v) (e : Ext w w') : IsLine w' l v := by
  obtain ⟨A0, c0, A2, c2, h1, h2, h3⟩ := h
  exact ⟨A0, c0, A2, c2, h1, h2.ext e, h3.ext e⟩
theorem IsPlan.ext {w w' : World} {p : List (List Int)} {v : Value} (h : IsPlan w p v) (e : Ext w w') : IsPlan w' p v := by
  obtain ⟨A0, c0, h1, h2⟩ := h
  exact ⟨A0, c0, h1, h2.ext e⟩
theorem IsTrain.ext {w w' : World} {t : Train} {v : Value} (h : IsTrain w t v) (e : Ext w w') : IsTrain w' t v := by
  obtain ⟨A0, c0, h1, h2⟩ := h
  exact ⟨A0, c0, h1, h2.ext e⟩
theorem isTrain_mk {w : World} {x : Train} {A4 : Option Addr} {c4 : Nat} (h6 : RdLeg w A4 x.legs) : IsTrain w x (.agg #[.int .i64 x.frm, .int .i64 x.ready, .int .i64 x.due, .int .i64 x.weight, .slice A4 x.legs.length c4]) := ⟨A4, c4, rfl, h6⟩
theorem i64_eq {a b : Int} (h : a = b) : Value.int .i64 a = .int .i64 b := by rw [h]
theorem ret_i64 {a b : Int} (h : a = b) : Ending.returned (.int .i64 a) = .returned (.int .i64 b) := by rw [h]
theorem ret_bool {a b : Bool} (h : a = b) : Ending.returned (.bool a) = .returned (.bool b) := by rw [h]

/-- How many legs trains have in all. -/
def legsN : List Train → Nat
  | [] => 0
  | t :: ts => t.legs.length + legsN ts
theorem legsN_at {ts : List Train} {i : Nat} {t : Train} (h : ts[i]? = some t) : legsN (ts.drop i) = t.legs.length + legsN (ts.drop (i + 1)) := by
  rw [drop_some h]
  rfl
theorem legsN_end {ts : List Train} {i : Nat} (h : ts.length ≤ i) : legsN (ts.drop i) = 0 := by
  rw [drop_end h]
  rfl
def Line.size (l : Line) : Nat := l.tracks.length + (l.trains.length + legsN l.trains)
/-- Each list is no longer than memory has room for. -/
structure Line.Room (l : Line) : Prop where
  tracks : l.tracks.length ≤ 9223372036854775807
  trains : l.trains.length ≤ 9223372036854775807
  legs : ∀ (i : Nat) (t : Train), l.trains[i]? = some t → t.legs.length ≤ 9223372036854775807
/-! ### Blocks of a call's own -/
def legRow (x : Leg) : List Value := [.int .i64 x.to, .int .i64 x.run, .int .i64 x.stay]
theorem legRow_len (xs : List Leg) : ∀ q, q ∈ xs.map legRow → q.length = 3 := by
  intro q hq
  obtain ⟨x, _, rfl⟩ := List.mem_map.1 hq
  rfl
/-- A train's five cells, its legs at a value. -/
def trainRow (x : Train) (v : Value) : List Value := [.int .i64 x.frm, .int .i64 x.ready, .int .i64 x.due, .int .i64 x.weight, v]
/-- What the copies ask of an argument: its lists are no longer than 2^20. -/
structure Line.Small (l : Line) : Prop where
  tracks : l.tracks.length ≤ 1048576
  trains : l.trains.length ≤ 1048576
  legs : ∀ (i : Nat) (t : Train), l.trains[i]? = some t → t.legs.length ≤ 1048576
end Go.Proofs.YthhkbfjolmgloaaDoor
