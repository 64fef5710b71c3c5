/- Plain data of the program (lines, trains, legs, plans), how they lie in memory for reading, and what stays so while memory only grows. No condition.
   The laws' count of how much an argument holds: laws.szIntS, szLegS, szTrain, szTrainS, szLine, szIntSS, szPlan answer what is left, or -1. Conditions: lengths below 2^63, what is left at most 2^20.
   The laws' copies of an argument into the program's own types: laws.toLeg, toIntS, toLegS, toTrain, toTrainS, toLine, toIntSS, toPlan. Conditions: lengths at most 2^20.
   The laws' comparisons, of two values that read as the same data: laws.eqFault, eqIntS, eqLeg, eqLegS, eqTrain, eqTrainS, eqLine, eqIntSS, eqPlan answer true. No condition beside readable data shorter than 2^63.
   DERIVED: THE SHELF's CONTRACTS AT THIS DUMP, IN PLAIN WORDS (tools/lay-plain.mjs out of 'TryShelf.lean', which tools/lay-shelf.mjs wrote): THE SAME DECLARATIONS UNDER THE SAME NAMES: 'import', 'namespace', 'open', 'def', 'theorem' AND NOTHING ELSE: no command of the shelf's: FOR A HAND-IN. Each laying: the table of numbers ('.._ren') and one theorem, a field a fact of the dump's own or the kernel's comparison; each contract: ONE APPLICATION.
   Appending one element to a row of the call's own, and where the new row lies. Condition: at most 10^6 elements.
   append([]int{}, row...): a copy of a row in a block of its own. Condition: at most 10^6 elements.
   How the laws' arguments (a line, a plan, a list of numbers, bytes), read as data, lie in memory. No condition. -/
import Derived.Test.YthhkbfjolmgloaaProg
import Derived.WalkKit
import Derived.ProofKit
import Derived.Below
import Derived.Lib.Hide
import Derived.Deep.Draws
import Derived.Deep.QuietTactic
import Derived.BigQuiet
import Derived.OwnWalk
import Derived.Deep.OwnRows
import Derived.Laws.OwnMore
import Derived.Laws.MakeOwn
import Derived.StillTailTactics
import Derived.Shelf.Small.Bits
import Derived.Shelf.Small.Wraps
import Derived.Shelf.Strconv.Itoa0
import Derived.Shelf.Sort.Plain
import Derived.Ground.Names2Prog
import Derived.Shelf.Slices.Clone
import Derived.Shelf.Slices.In.SortNone
import Derived.Ground.SlsfProg
import Derived.Shelf.SlSortCmp.InsertionK
import Derived.Deep.AppendLies
import Derived.Deep.Upon
import Derived.Deep.Slices
import Derived.ChangeArms
import Derived.OpenShut
import Derived.Carry
import Derived.KernelRfl
namespace Go.Proofs.Ythhkbfjolmgloaa
open Go.RowKit
set_option linter.unusedVariables false
set_option linter.unusedSimpArgs false
structure Leg where
  to : Int
  run : Int
  stay : Int
structure Train where
  frm : Int
  ready : Int
  due : Int
  weight : Int
  legs : List Leg
structure Line where
  tracks : List Int
  gap : Int
  trains : List Train
instance : Inhabited Leg := ⟨⟨0, 0, 0⟩⟩
instance : Inhabited Train := ⟨⟨0, 0, 0, 0, []⟩⟩

/-! ### Lists -/
theorem some_of_lt {α : Type} {l : List α} {i : Nat} (h : i < l.length) : ∃ x, l[i]? = some x := ⟨l[i], List.getElem?_eq_getElem h⟩
theorem lt_of_some {α : Type} {l : List α} {i : Nat} {x : α} (h : l[i]? = some x) : i < l.length := (List.getElem?_eq_some_iff.1 h).1
/-- The same, kept from the walk. -/
theorem hid_of_lt {α : Type} {l : List α} {i : Nat} (h : i < l.length) : ∃ x, Hid (l[i]? = some x) := some_of_lt h
theorem getD_some {α : Type} {l : List α} {i : Nat} {x d : α} (h : l[i]? = some x) : l.getD i d = x := by simp [List.getD_eq_getElem?_getD, h]
theorem drop_some {α : Type} {l : List α} {i : Nat} {x : α} (h : l[i]? = some x) : l.drop i = x :: l.drop (i + 1) := by
  obtain ⟨hi, rfl⟩ := List.getElem?_eq_some_iff.1 h
  exact List.drop_eq_getElem_cons hi
theorem drop_end {α : Type} {l : List α} {i : Nat} (h : l.length ≤ i) : l.drop i = [] := List.drop_eq_nil_of_le h
/-- A sum over a list, each element with its place. -/
def sumI {α : Type} (f : Nat → α → Int) : Nat → List α → Int
  | _, [] => 0
  | i, x :: xs => f i x + sumI f (i + 1) xs
theorem sumI_at {α : Type} (f : Nat → α → Int) {l : List α} {i : Nat} {x : α} (h : l[i]? = some x) : sumI f i (l.drop i) = f i x + sumI f (i + 1) (l.drop (i + 1)) := by
  rw [drop_some h]
  rfl
theorem sumI_end {α : Type} (f : Nat → α → Int) {l : List α} {i : Nat} (h : l.length ≤ i) : sumI f i (l.drop i) = 0 := by
  rw [drop_end h]
  rfl
/-- The first place that answers. -/
def findI {α β : Type} (f : Nat → α → Option β) : Nat → List α → Option β
  | _, [] => none
  | i, x :: xs => (f i x).or (findI f (i + 1) xs)
theorem findI_at {α β : Type} (f : Nat → α → Option β) {l : List α} {i : Nat} {x : α} (h : l[i]? = some x) : findI f i (l.drop i) = (f i x).or (findI f (i + 1) (l.drop (i + 1))) := by
  rw [drop_some h]
  rfl
theorem findI_end {α β : Type} (f : Nat → α → Option β) {l : List α} {i : Nat} (h : l.length ≤ i) : findI f i (l.drop i) = none := by
  rw [drop_end h]
  rfl
/-- What is carried from place to place. -/
def foldI {α β : Type} (f : β → Nat → α → β) : β → Nat → List α → β
  | b, _, [] => b
  | b, i, x :: xs => foldI f (f b i x) (i + 1) xs
theorem foldI_at {α β : Type} (f : β → Nat → α → β) (b : β) {l : List α} {i : Nat} {x : α} (h : l[i]? = some x) : foldI f b i (l.drop i) = foldI f (f b i x) (i + 1) (l.drop (i + 1)) := by
  rw [drop_some h]
  rfl
theorem foldI_end {α β : Type} (f : β → Nat → α → β) (b : β) {l : List α} {i : Nat} (h : l.length ≤ i) : foldI f b i (l.drop i) = b := by
  rw [drop_end h]
  rfl

/-! ### Memory that has only grown -/
abbrev Ext (w w' : World) : Prop := Below w.heap.size w w'
theorem Ext.refl (w : World) : Ext w w := Below.refl _ _
theorem Ext.trans {a b c : World} (h : Ext a b) (k : Ext b c) : Ext a c := Below.trans h (Below.mono k h.size)
theorem Ext.alloc {a b : World} (h : Ext a b) (o : Obj) : Ext a (b.alloc o) := Below.alloc h h.size o
theorem Ext.drew {a b : World} (h : Ext a b) : Ext a b.drew := Below.drew h
theorem Ext.drewN {a b : World} (h : Ext a b) (n : Nat) : Ext a (b.drewN n) := ⟨h.os, h.tape, h.output, h.size, h.block⟩
theorem Ext.setCell {a b : World} (h : Ext a b) {p : Addr} (hp : a.heap.size ≤ p.block) (u : Value) : Ext a (b.setCell p u) := Below.setCell h hp u
theorem Ext.cells {a b : World} (h : Ext a b) : (∀ g o, g < a.heap.size → b.cell? ⟨g, o, none⟩ = a.cell? ⟨g, o, none⟩) ∧ (∀ g o, g < a.heap.size → b.frozen? ⟨g, o, none⟩ = a.frozen? ⟨g, o, none⟩) :=
  ⟨fun g o hg => h.cell (p := ⟨g, o, none⟩) hg, fun g o hg => h.frozen (p := ⟨g, o, none⟩) hg⟩
theorem Ext.up {a b : World} (h : Ext a b) : ∀ g, g < a.heap.size → g < b.heap.size := fun _ hg => Nat.lt_of_lt_of_le hg h.size
theorem lt_of_cell {w : World} {b o : Nat} {v : Value} (h : w.cell? ⟨b, o, none⟩ = some v) : b < w.heap.size := World.block_lt_of_cell? w _ h
theorem Ext.box {a b : World} (h : Ext a b) {g : Nat} {o : Obj} (hg : a.heap[g]? = some o) : b.heap[g]? = some o := (h.block g (Array.getElem?_eq_some_iff.1 hg).1).trans hg
theorem box_new (w : World) (o : Obj) : (w.alloc o).heap[w.heap.size]? = some o := by
  show (w.heap.push o)[w.heap.size]? = _
  simp
theorem box_lt {w : World} {g : Nat} {o : Obj} (h : w.heap[g]? = some o) : g < w.heap.size := (Array.getElem?_eq_some_iff.1 h).1
theorem box_old {w : World} {g : Nat} {o : Obj} (h : w.heap[g]? = some o) (o' : Obj) : (w.alloc o').heap[g]? = some o := (Below.heap_alloc w o' g (box_lt h)).trans h
theorem box_cell {w : World} {g : Nat} {cs : Array Value} {t : TypeId} {fr : Nat × Nat} (h : w.heap[g]? = some (.cells cs t fr)) (j : Nat) : w.cell? ⟨g, j, none⟩ = cs[j]? := by
  simp [World.cell?, h]
theorem alloc_size (w : World) (o : Obj) : (w.alloc o).heap.size = w.heap.size + 1 := by simp

/-- Since w memory has only grown, and the named blocks hold what is told (a call's own boxes). -/
structure Lp (w wr : World) (bs : List (Nat × Array Value × TypeId)) : Prop where
  ext : Ext w wr
  box : ∀ x, x ∈ bs → wr.heap[x.1]? = some (.cells x.2.1 x.2.2 (0, 0))
section
variable {w wr w' : World} {bs : List (Nat × Array Value × TypeId)} {b1 b2 b3 b4 : Nat} {cs1 cs2 cs3 cs4 : Array Value} {t1 t2 t3 t4 : TypeId}
theorem Lp.nil (w : World) : Lp w w [] := ⟨Ext.refl w, fun _ h => by cases h⟩
theorem Lp.of_ext (h : Ext w wr) : Lp w wr [] := ⟨h, fun _ h => by cases h⟩
theorem Lp.trans (h : Lp w wr bs) (e : Ext wr w') : Lp w w' bs := ⟨h.ext.trans e, fun x hx => e.box (h.box x hx)⟩
theorem Lp.alloc (h : Lp w wr bs) (o : Obj) : Lp w (wr.alloc o) bs := h.trans ((Ext.refl _).alloc o)
theorem Lp.drewN (h : Lp w wr bs) (n : Nat) : Lp w (wr.drewN n) bs := h.trans ((Ext.refl _).drewN n)
theorem Lp.drew (h : Lp w wr bs) : Lp w wr.drew bs := h.trans (Ext.refl _).drew
theorem Lp.new (h : Lp w wr bs) (cs : Array Value) (t : TypeId) : Lp w (wr.alloc (.cells cs t)) ((wr.heap.size, cs, t) :: bs) :=
  ⟨h.ext.alloc _, fun x hx => by
    rcases List.mem_cons.1 hx with rfl | hx
    · exact box_new wr _
    · exact box_old (h.box x hx) _⟩
theorem Lp.newAt (h : Lp w wr bs) {g : Nat} (cs : Array Value) (t : TypeId) (hg : wr.heap.size = g) : Lp w (wr.alloc (.cells cs t)) ((g, cs, t) :: bs) := by subst hg; exact h.new cs t
theorem Lp.tail {b : Nat × Array Value × TypeId} (h : Lp w wr (b :: bs)) : Lp w wr bs := ⟨h.ext, fun x hx => h.box x (List.mem_cons_of_mem _ hx)⟩
theorem Lp.add (h : Lp w wr bs) {g : Nat} {cs : Array Value} {t : TypeId} (hg : wr.heap[g]? = some (.cells cs t (0, 0))) : Lp w wr ((g, cs, t) :: bs) := ⟨h.ext, fun x hx => by
    rcases List.mem_cons.1 hx with rfl | hx
    · exact hg
    · exact h.box x hx⟩
theorem Lp.start1 (w : World) (cs1 : Array Value) (t1 : TypeId) : Lp w (w.alloc (.cells cs1 t1)) [(w.heap.size, cs1, t1)] := (Lp.nil w).new cs1 t1
theorem Lp.start2 (w : World) (cs1 cs2 : Array Value) (t1 t2 : TypeId) : Lp w ((w.alloc (.cells cs1 t1)).alloc (.cells cs2 t2)) [(w.heap.size + 1, cs2, t2), (w.heap.size, cs1, t1)] := by
  have h := (Lp.start1 w cs1 t1).new cs2 t2
  rwa [alloc_size] at h
theorem Lp.at_ (h : Lp w wr bs) {g : Nat} {cs : Array Value} {t : TypeId} (hm : (g, cs, t) ∈ bs) : (∀ j, wr.cell? ⟨g, j, none⟩ = cs[j]?) ∧ g < wr.heap.size := ⟨fun j => box_cell (h.box _ hm) j, box_lt (h.box _ hm)⟩
/-- What the walk needs of it, the boxes' cells one by one. -/
theorem Lp.open0 (h : Lp w wr bs) : (∀ g o, g < w.heap.size → wr.cell? ⟨g, o, none⟩ = w.cell? ⟨g, o, none⟩) ∧ (∀ g, g < w.heap.size → g < wr.heap.size) := ⟨h.ext.cells.1, h.ext.up⟩
theorem Lp.open1 (h : Lp w wr ((b1, cs1, t1) :: bs)) : (∀ g o, g < w.heap.size → wr.cell? ⟨g, o, none⟩ = w.cell? ⟨g, o, none⟩) ∧ (∀ g, g < w.heap.size → g < wr.heap.size) ∧ (∀ j, wr.cell? ⟨b1, j, none⟩ = cs1[j]?) ∧ b1 < wr.heap.size := by
  obtain ⟨h1, h2⟩ := h.at_ (g := b1) (cs := cs1) (t := t1) (by simp)
  exact ⟨h.ext.cells.1, h.ext.up, h1, h2⟩
theorem Lp.open2 (h : Lp w wr ((b1, cs1, t1) :: (b2, cs2, t2) :: bs)) : (∀ g o, g < w.heap.size → wr.cell? ⟨g, o, none⟩ = w.cell? ⟨g, o, none⟩) ∧ (∀ g, g < w.heap.size → g < wr.heap.size) ∧ (∀ j, wr.cell? ⟨b1, j, none⟩ = cs1[j]?) ∧ b1 < wr.heap.size ∧ (∀ j, wr.cell? ⟨b2, j, none⟩ = cs2[j]?) ∧ b2 < wr.heap.size := by
  obtain ⟨k1, k2, k3, k4⟩ := h.open1
  obtain ⟨_, _, k5, k6⟩ := h.tail.open1
  exact ⟨k1, k2, k3, k4, k5, k6⟩
theorem Lp.open3 (h : Lp w wr ((b1, cs1, t1) :: (b2, cs2, t2) :: (b3, cs3, t3) :: bs)) : (∀ g o, g < w.heap.size → wr.cell? ⟨g, o, none⟩ = w.cell? ⟨g, o, none⟩) ∧ (∀ g, g < w.heap.size → g < wr.heap.size) ∧ (∀ j, wr.cell? ⟨b1, j, none⟩ = cs1[j]?) ∧ b1 < wr.heap.size ∧ (∀ j, wr.cell? ⟨b2, j, none⟩ = cs2[j]?) ∧ b2 < wr.heap.size ∧ (∀ j, wr.cell? ⟨b3, j, none⟩ = cs3[j]?) ∧ b3 < wr.heap.size := by
  obtain ⟨k1, k2, k3, k4, k5, k6⟩ := h.open2
  obtain ⟨_, _, k7, k8⟩ := h.tail.tail.open1
  exact ⟨k1, k2, k3, k4, k5, k6, k7, k8⟩
theorem Lp.open4 (h : Lp w wr ((b1, cs1, t1) :: (b2, cs2, t2) :: (b3, cs3, t3) :: (b4, cs4, t4) :: bs)) : (∀ g o, g < w.heap.size → wr.cell? ⟨g, o, none⟩ = w.cell? ⟨g, o, none⟩) ∧ (∀ g, g < w.heap.size → g < wr.heap.size) ∧ (∀ j, wr.cell? ⟨b1, j, none⟩ = cs1[j]?) ∧ b1 < wr.heap.size ∧ (∀ j, wr.cell? ⟨b2, j, none⟩ = cs2[j]?) ∧ b2 < wr.heap.size ∧ (∀ j, wr.cell? ⟨b3, j, none⟩ = cs3[j]?) ∧ b3 < wr.heap.size ∧ (∀ j, wr.cell? ⟨b4, j, none⟩ = cs4[j]?) ∧ b4 < wr.heap.size := by
  obtain ⟨k1, k2, k3, k4, k5, k6, k7, k8⟩ := h.open3
  obtain ⟨_, _, k9, k10⟩ := h.tail.tail.tail.open1
  exact ⟨k1, k2, k3, k4, k5, k6, k7, k8, k9, k10⟩
end

theorem box_frozen {w : World} {g : Nat} {cs : Array Value} {t : TypeId} (h : w.heap[g]? = some (.cells cs t (0, 0))) (j : Nat) : w.frozen? ⟨g, j, none⟩ = false := by simp [World.frozen?, h]
theorem box_set {w : World} {g : Nat} {cs : Array Value} {t : TypeId} (h : w.heap[g]? = some (.cells cs t (0, 0))) (j : Nat) (u : Value) : (w.setCell ⟨g, j, none⟩ u).heap[g]? = some (.cells (cs.setIfInBounds j u) t (0, 0)) := by
  simp [World.setCell, Array.getElem?_modify, h]
theorem box_set_far {w : World} {g g' : Nat} {o : Obj} (h : w.heap[g]? = some o) (j : Nat) (u : Value) (hne : g ≠ g') : (w.setCell ⟨g', j, none⟩ u).heap[g]? = some o := (Below.heap_setCell w ⟨g', j, none⟩ u g hne).trans h
theorem Lp.set {w wr : World} {g : Nat} {cs : Array Value} {t : TypeId} {bs : List (Nat × Array Value × TypeId)} (h : Lp w wr ((g, cs, t) :: bs)) (hg : w.heap.size ≤ g) (hne : ∀ x, x ∈ bs → x.1 ≠ g) (j : Nat) (u : Value) : Lp w (wr.setCell ⟨g, j, none⟩ u) ((g, cs.setIfInBounds j u, t) :: bs) :=
  ⟨h.ext.setCell hg u, fun x hx => by
    rcases List.mem_cons.1 hx with rfl | hx
    · exact box_set (h.box _ List.mem_cons_self) j u
    · exact box_set_far (h.box _ (List.mem_cons_of_mem _ hx)) j u (hne x hx)⟩
/-! ### Rows of data, for reading -/
/-- A row's head: where it lies. -/
def Rd {α : Type} (F : World → Nat → Nat → α → Prop) (w : World) (A : Option Addr) (xs : List α) (size : Nat) : Prop :=
  ∀ j x, xs[j]? = some x → ∃ b off, A = some ⟨b, off, none⟩ ∧ b < w.heap.size ∧ F w b (off + j * size) x
theorem Rd.ext {α : Type} {F : World → Nat → Nat → α → Prop} {w w' : World} {A : Option Addr} {xs : List α} {size : Nat} (hF : ∀ b o x, b < w.heap.size → F w b o x → F w' b o x) (h : Rd F w A xs size) (e : Ext w w') : Rd F w' A xs size := fun j x hx => by
  obtain ⟨b, off, h1, h2, h3⟩ := h j x hx
  exact ⟨b, off, h1, e.up _ h2, hF _ _ _ h2 h3⟩
theorem Rd.base {α : Type} {F : World → Nat → Nat → α → Prop} {w : World} {A : Option Addr} {xs : List α} {size : Nat} (h : Rd F w A xs size) {j : Nat} (hj : j < xs.length) : ∃ b off, A = some ⟨b, off, none⟩ ∧ b < w.heap.size := by
  obtain ⟨x, hx⟩ := some_of_lt hj
  obtain ⟨b, off, h1, h2, _⟩ := h j x hx
  exact ⟨b, off, h1, h2⟩
theorem Rd.at_ {α : Type} {F : World → Nat → Nat → α → Prop} {w : World} {b off : Nat} {xs : List α} {size : Nat} (h : Rd F w (some ⟨b, off, none⟩) xs size) {j : Nat} {x : α} (hx : xs[j]? = some x) : F w b (off + j * size) x := by
  obtain ⟨b', off', h1, _, h3⟩ := h j x hx
  simp only [Option.some.injEq, Addr.mk.injEq, and_true] at h1
  obtain ⟨rfl, rfl⟩ := h1
  exact h3
def AtInt (w : World) (b o : Nat) (x : Int) : Prop := w.cell? ⟨b, o, none⟩ = some (.int .i64 x)
def AtLeg (w : World) (b o : Nat) (x : Leg) : Prop := w.cell? ⟨b, o, none⟩ = some (.int .i64 x.to) ∧ w.cell? ⟨b, o + 1, none⟩ = some (.int .i64 x.run) ∧ w.cell? ⟨b, o + 2, none⟩ = some (.int .i64 x.stay)
abbrev RdInt (w : World) (A : Option Addr) (xs : List Int) : Prop := Rd AtInt w A xs 1
abbrev RdLeg (w : World) (A : Option Addr) (xs : List Leg) : Prop := Rd AtLeg w A xs 3
def AtTrain (w : World) (b o : Nat) (x : Train) : Prop :=
  w.cell? ⟨b, o, none⟩ = some (.int .i64 x.frm) ∧ w.cell? ⟨b, o + 1, none⟩ = some (.int .i64 x.ready) ∧ w.cell? ⟨b, o + 2, none⟩ = some (.int .i64 x.due) ∧ w.cell? ⟨b, o + 3, none⟩ = some (.int .i64 x.weight) ∧
    ∃ A4 c4, w.cell? ⟨b, o + 4, none⟩ = some (.slice A4 x.legs.length c4) ∧ RdLeg w A4 x.legs
def AtRow (w : World) (b o : Nat) (x : List Int) : Prop := ∃ A0 c0, w.cell? ⟨b, o, none⟩ = some (.slice A0 x.length c0) ∧ RdInt w A0 x
abbrev RdTrain (w : World) (A : Option Addr) (xs : List Train) : Prop := Rd AtTrain w A xs 5
abbrev RdRows (w : World) (A : Option Addr) (xs : List (List Int)) : Prop := Rd AtRow w A xs 1
section
variable {w w' : World} {A : Option Addr}
theorem RdInt.ext {xs : List Int} (h : RdInt w A xs) (e : Ext w w') : RdInt w' A xs := Rd.ext (fun b o x hb h => (e.cells.1 b o hb).trans h) h e
theorem AtLeg.ext {b o : Nat} {x : Leg} (h : AtLeg w b o x) (hb : b < w.heap.size) (e : Ext w w') : AtLeg w' b o x := ⟨(e.cells.1 b _ hb).trans h.1, (e.cells.1 b _ hb).trans h.2.1, (e.cells.1 b _ hb).trans h.2.2⟩
theorem RdLeg.ext {xs : List Leg} (h : RdLeg w A xs) (e : Ext w w') : RdLeg w' A xs := Rd.ext (fun b o x hb h => h.ext hb e) h e
theorem AtTrain.ext {b o : Nat} {x : Train} (h : AtTrain w b o x) (hb : b < w.heap.size) (e : Ext w w') : AtTrain w' b o x := by
  obtain ⟨h1, h2, h3, h4, A4, c4, h5, h6⟩ := h
  exact ⟨(e.cells.1 b _ hb).trans h1, (e.cells.1 b _ hb).trans h2, (e.cells.1 b _ hb).trans h3, (e.cells.1 b _ hb).trans h4, A4, c4, (e.cells.1 b _ hb).trans h5, h6.ext e⟩
theorem RdTrain.ext {xs : List Train} (h : RdTrain w A xs) (e : Ext w w') : RdTrain w' A xs := Rd.ext (fun b o x hb h => h.ext hb e) h e
theorem AtRow.ext {b o : Nat} {x : List Int} (h : AtRow w b o x) (hb : b < w.heap.size) (e : Ext w w') : AtRow w' b o x := by
  obtain ⟨A4, c4, h5, h6⟩ := h
  exact ⟨A4, c4, (e.cells.1 b _ hb).trans h5, h6.ext e⟩
theorem RdRows.ext {xs : List (List Int)} (h : RdRows w A xs) (e : Ext w w') : RdRows w' A xs := Rd.ext (fun b o x hb h => h.ext hb e) h e
theorem RdInt.at_ {b off : Nat} {xs : List Int} (h : RdInt w (some ⟨b, off, none⟩) xs) {j : Nat} {x : Int} (hx : xs[j]? = some x) : w.cell? ⟨b, off + j, none⟩ = some (.int .i64 x) := by
  have := Rd.at_ h hx
  rwa [Nat.mul_one] at this
theorem RdRows.at_ {b off : Nat} {xs : List (List Int)} (h : RdRows w (some ⟨b, off, none⟩) xs) {j : Nat} {x : List Int} (hx : xs[j]? = some x) : ∃ A0 c0, w.cell? ⟨b, off + j, none⟩ = some (.slice A0 x.length c0) ∧ RdInt w A0 x := by
  have := Rd.at_ h hx
  rwa [Nat.mul_one] at this
end

/-! ### A line, a plan, a train as values -/
def IsLine (w : World) (l : Line) (v : Value) : Prop := ∃ A0 c0 A2 c2, v = .agg #[.slice A0 l.tracks.length c0, .int .i64 l.gap, .slice A2 l.trains.length c2] ∧ RdInt w A0 l.tracks ∧ RdTrain w A2 l.trains
def IsPlan (w : World) (p : List (List Int)) (v : Value) : Prop := ∃ A0 c0, v = .agg #[.slice A0 p.length c0] ∧ RdRows w A0 p
def IsTrain (w : World) (t : Train) (v : Value) : Prop := ∃ A4 c4, v = .agg #[.int .i64 t.frm, .int .i64 t.ready, .int .i64 t.due, .int .i64 t.weight, .slice A4 t.legs.length c4] ∧ RdLeg w A4 t.legs
theorem IsLine.ext {w w' : World} {l : Line} {v : Value} (h : IsLine w l v) (e : Ext w w') : IsLine w' l v := by
  obtain ⟨A0, c0, A2, c2, h1, h2, h3⟩ := h
  exact ⟨A0, c0, A2, c2, h1, h2.ext e, h3.ext e⟩
theorem IsPlan.ext {w w' : World} {p : List (List Int)} {v : Value} (h : IsPlan w p v) (e : Ext w w') : IsPlan w' p v := by
  obtain ⟨A0, c0, h1, h2⟩ := h
  exact ⟨A0, c0, h1, h2.ext e⟩
theorem IsTrain.ext {w w' : World} {t : Train} {v : Value} (h : IsTrain w t v) (e : Ext w w') : IsTrain w' t v := by
  obtain ⟨A0, c0, h1, h2⟩ := h
  exact ⟨A0, c0, h1, h2.ext e⟩
theorem isTrain_mk {w : World} {x : Train} {A4 : Option Addr} {c4 : Nat} (h6 : RdLeg w A4 x.legs) : IsTrain w x (.agg #[.int .i64 x.frm, .int .i64 x.ready, .int .i64 x.due, .int .i64 x.weight, .slice A4 x.legs.length c4]) := ⟨A4, c4, rfl, h6⟩
theorem i64_eq {a b : Int} (h : a = b) : Value.int .i64 a = .int .i64 b := by rw [h]
theorem ret_i64 {a b : Int} (h : a = b) : Ending.returned (.int .i64 a) = .returned (.int .i64 b) := by rw [h]
theorem ret_bool {a b : Bool} (h : a = b) : Ending.returned (.bool a) = .returned (.bool b) := by rw [h]
end Go.Proofs.Ythhkbfjolmgloaa
namespace Go.Proofs.Ythhkbfjolmgloaa
open Go.RowKit
set_option linter.unusedVariables false
set_option linter.unusedSimpArgs false
def cut (left : Int) (n : Nat) : Int := if left < n then -1 else left - n
theorem cut_neg {left : Int} {n : Nat} (h : left < n) : cut left n = -1 := if_pos h
theorem cut_ok {left : Int} {n : Nat} (h : ¬ left < n) : cut left n = left - n := if_neg h
theorem szIntS_any (A : Option Addr) (n c : Nat) (left : Int) (w : World) (hn : n ≤ 9223372036854775807) (h0 : 0 ≤ left) (h1 : left ≤ 1048576) :
    Calls Try.prog 73 #[.slice A n c, .int .i64 left] w fun e w' => e = .returned (.int .i64 (cut left n)) ∧ Ext w w' := by
  by_cases h : left < n
  all_goals
    go_enter Try.func73, Try.ntmps73
    go_wp2
    go_ret
    exact ⟨ret_i64 (by unfold cut; omega), Ext.refl _⟩
theorem szLegS_any (A : Option Addr) (n c : Nat) (left : Int) (w : World) (hn : n ≤ 9223372036854775807) (h0 : 0 ≤ left) (h1 : left ≤ 1048576) :
    Calls Try.prog 139 #[.slice A n c, .int .i64 left] w fun e w' => e = .returned (.int .i64 (cut left n)) ∧ Ext w w' := by
  by_cases h : left < n
  all_goals
    go_enter Try.func139, Try.ntmps139
    go_wp2
    go_ret
    exact ⟨ret_i64 (by unfold cut; omega), Ext.refl _⟩
theorem szTrain_any {w : World} {t : Train} {v : Value} (ht : IsTrain w t v) (left : Int) (hn : t.legs.length ≤ 9223372036854775807) (h0 : 0 ≤ left) (h1 : left ≤ 1048576) :
    Calls Try.prog 124 #[v, .int .i64 left] w fun e w' => e = .returned (.int .i64 (cut left t.legs.length)) ∧ Ext w w' := by
  obtain ⟨A4, c4, rfl, hR⟩ := ht
  by_cases h : left < t.legs.length
  · have hc := cut_neg h
    go_enter Try.func124, Try.ntmps124
    go_wp2_with (go_at_call 139; refine (szLegS_any _ _ _ _ _ hn h0 h1).mono ?_; rintro e w' ⟨rfl, hE⟩)
    go_ret
    exact ⟨ret_i64 hc.symm, Ext.trans (by repeat (first | (with_reducible assumption) | (with_reducible exact Ext.refl _) | apply Ext.alloc | apply Ext.drewN | apply Ext.drew)) hE⟩
  · have hc := cut_ok h
    have hc' : 0 ≤ left - t.legs.length := by omega
    go_enter Try.func124, Try.ntmps124
    go_wp2_with (go_at_call 139; refine (szLegS_any _ _ _ _ _ hn h0 h1).mono ?_; rintro e w' ⟨rfl, hE⟩)
    go_ret
    exact ⟨ret_i64 hc.symm, Ext.trans (by repeat (first | (with_reducible assumption) | (with_reducible exact Ext.refl _) | apply Ext.alloc | apply Ext.drewN | apply Ext.drew)) hE⟩
/-- How many legs trains have in all. -/
def legsN : List Train → Nat
  | [] => 0
  | t :: ts => t.legs.length + legsN ts
theorem legsN_at {ts : List Train} {i : Nat} {t : Train} (h : ts[i]? = some t) : legsN (ts.drop i) = t.legs.length + legsN (ts.drop (i + 1)) := by
  rw [drop_some h]
  rfl
theorem legsN_end {ts : List Train} {i : Nat} (h : ts.length ≤ i) : legsN (ts.drop i) = 0 := by
  rw [drop_end h]
  rfl
set_option maxRecDepth 100000 in
set_option maxHeartbeats 1000000 in
theorem szTrainS_any {w : World} {ts : List Train} {A : Option Addr} (c : Nat) (hA : RdTrain w A ts) (left : Int) (hn : ts.length ≤ 9223372036854775807) (hl : ∀ (i : Nat) (t : Train), ts[i]? = some t → t.legs.length ≤ 9223372036854775807) (h0 : 0 ≤ left) (h1 : left ≤ 1048576) :
    Calls Try.prog 74 #[.slice A ts.length c, .int .i64 left] w fun e w' => e = .returned (.int .i64 (cut left (ts.length + legsN ts))) ∧ Ext w w' := by
  by_cases h : left < ts.length
  · have hc : cut left (ts.length + legsN ts) = -1 := cut_neg (by omega)
    have HC := Lib.hid hc; clear hc
    go_enter Try.func74, Try.ntmps74
    go_wp2
    go_ret
    exact ⟨ret_i64 HC.out.symm, Ext.refl _⟩
  · go_enter Try.func74, Try.ntmps74
    go_wp2
    go_loopw [1, 5] (fun a j wr => ∃ (jj : Nat) (q : Int), jj ≤ ts.length ∧ j = .int .i64 jj ∧ a = .int .i64 q ∧ 0 ≤ q ∧ q ≤ 1048576 ∧ Hid (cut q (legsN (ts.drop jj)) = cut left (ts.length + legsN ts)) ∧ Ext w wr) (fun _ j _ => ts.length - (intOf j).toNat)
    case atStart => exact ⟨0, left - ts.length, Nat.zero_le _, rfl, rfl, by omega, by omega, by simp [Hid, cut]; omega, Ext.refl _⟩
    case round =>
      obtain ⟨jj, q, hjj, rfl, rfl, hq0, hq1, HS, hE0⟩ := hrel
      obtain ⟨hcl, hup⟩ := (Lp.of_ext hE0).open0
      by_cases hlt : jj < ts.length
      · obtain ⟨t, ht⟩ := hid_of_lt hlt
        obtain ⟨b, o, rfl, hb⟩ := hA.base hlt
        obtain ⟨e0, e1, e2, e3, A4, c4, e4, hR⟩ := hA.at_ ht.out
        have hT := Lib.hid (isTrain_mk (c4 := c4) (hR.ext hE0))
        have hN := hl _ _ ht.out
        by_cases hq : q < t.legs.length
        · have hcq := cut_neg hq
          go_wp2_with (go_at_call 124; refine (szTrain_any hT.out _ hN hq0 hq1).mono ?_; rintro e w' ⟨rfl, hE⟩)
          go_ret
          exact ⟨ret_i64 (by rw [← HS.out, legsN_at ht.out, cut_neg (by omega)]), hE0.trans hE⟩
        · have hcq := cut_ok hq
          have hq' : 0 ≤ q - t.legs.length := by omega
          go_wp2_with (go_at_call 124; refine (szTrain_any hT.out _ hN hq0 hq1).mono ?_; rintro e w' ⟨rfl, hE⟩)
          exact ⟨⟨jj + 1, q - t.legs.length, by omega, by go_num, rfl, by omega, by omega, by rw [← HS.out, legsN_at ht.out]; unfold Hid cut; omega, hE0.trans hE⟩, (by simp [intOf]; omega)⟩
      · have he : legsN (ts.drop jj) = 0 := legsN_end (by omega)
        have HE := Lib.hid he; clear he
        go_wp2
        go_ret
        exact ⟨ret_i64 (by rw [← HS.out, HE.out]; unfold cut; omega), hE0⟩
def Line.size (l : Line) : Nat := l.tracks.length + (l.trains.length + legsN l.trains)
/-- Each list is no longer than memory has room for. -/
structure Line.Room (l : Line) : Prop where
  tracks : l.tracks.length ≤ 9223372036854775807
  trains : l.trains.length ≤ 9223372036854775807
  legs : ∀ (i : Nat) (t : Train), l.trains[i]? = some t → t.legs.length ≤ 9223372036854775807
set_option maxRecDepth 100000 in
set_option maxHeartbeats 1000000 in
theorem szLine_any {w : World} {l : Line} {v : Value} (hl : IsLine w l v) (R : l.Room) (left : Int) (h0 : 0 ≤ left) (h1 : left ≤ 1048576) :
    Calls Try.prog 21 #[v, .int .i64 left] w fun e w' => e = .returned (.int .i64 (cut left l.size)) ∧ Ext w w' := by
  obtain ⟨A0, c0, A2, c2, rfl, hR0, hR2⟩ := hl
  have r1 := R.tracks
  have r2 := R.trains
  have HR2 := Lib.hid hR2
  by_cases h : left < l.tracks.length
  · have hc := cut_neg h
    have hc2 : cut left l.size = -1 := cut_neg (by unfold Line.size; omega)
    have HC := Lib.hid hc2; clear hc2
    go_enter Try.func21, Try.ntmps21
    go_wp2_with (go_at_call 73; refine (szIntS_any _ _ _ _ _ r1 h0 h1).mono ?_; rintro e w' ⟨rfl, hE⟩)
    go_ret
    exact ⟨ret_i64 HC.out.symm, Ext.trans (by repeat (first | (with_reducible assumption) | (with_reducible exact Ext.refl _) | apply Ext.alloc | apply Ext.drewN | apply Ext.drew)) hE⟩
  · have hc := cut_ok h
    have hc' : 0 ≤ left - l.tracks.length ∧ left - l.tracks.length ≤ 1048576 := by omega
    have hq : (left - l.tracks.length < (l.trains.length + legsN l.trains : Nat)) ∨ ¬ (left - l.tracks.length < (l.trains.length + legsN l.trains : Nat)) := Classical.em _
    rcases hq with hq | hq
    · have hcq := cut_neg hq
      have hc2 : cut left l.size = -1 := cut_neg (by unfold Line.size; omega)
      have HC := Lib.hid hc2; clear hc2
      go_enter Try.func21, Try.ntmps21
      go_wp2_with (first | (go_at_call 73; refine (szIntS_any _ _ _ _ _ r1 h0 h1).mono ?_; rintro e w1 ⟨rfl, hE⟩; have hS := (Lp.start1 w _ _).trans hE; obtain ⟨k1, k2, k3, k4⟩ := hS.open1) | (go_at_call 74; refine (szTrainS_any c2 (HR2.out.ext hS.ext) _ r2 R.legs hc'.1 hc'.2).mono ?_; rintro e w2 ⟨rfl, hE2⟩))
      go_ret
      exact ⟨ret_i64 HC.out.symm, hS.ext.trans hE2⟩
    · have hcq := cut_ok hq
      have hq' : 0 ≤ left - l.tracks.length - (l.trains.length + legsN l.trains : Nat) := by omega
      have hc2 : cut left l.size = left - l.tracks.length - (l.trains.length + legsN l.trains : Nat) := by unfold cut Line.size; omega
      have HC := Lib.hid hc2; clear hc2
      go_enter Try.func21, Try.ntmps21
      go_wp2_with (first | (go_at_call 73; refine (szIntS_any _ _ _ _ _ r1 h0 h1).mono ?_; rintro e w1 ⟨rfl, hE⟩; have hS := (Lp.start1 w _ _).trans hE; obtain ⟨k1, k2, k3, k4⟩ := hS.open1) | (go_at_call 74; refine (szTrainS_any c2 (HR2.out.ext hS.ext) _ r2 R.legs hc'.1 hc'.2).mono ?_; rintro e w2 ⟨rfl, hE2⟩))
      go_ret
      exact ⟨ret_i64 HC.out.symm, hS.ext.trans hE2⟩
end Go.Proofs.Ythhkbfjolmgloaa
namespace Go.Proofs.Ythhkbfjolmgloaa
open Go.RowKit Go.Deep
set_option linter.unusedVariables false
set_option linter.unusedSimpArgs false
theorem toLeg_any (x : Leg) (w : World) : Calls Try.prog 147 #[.agg #[.int .i64 x.to, .int .i64 x.run, .int .i64 x.stay]] w fun e w' => e = .returned (.agg #[.int .i64 x.to, .int .i64 x.run, .int .i64 x.stay]) ∧ Ext w w' := by
  go_enter Try.func147, Try.ntmps147
  go_wp2
  exact bodyPost_ret (v := .agg #[.int .i64 x.to, .int .i64 x.run, .int .i64 x.stay]) (by simp [results, Try.results147, go_sem]) rfl ⟨rfl, (by repeat (first | (with_reducible assumption) | (with_reducible exact Ext.refl _) | apply Ext.alloc | apply Ext.drewN | apply Ext.drew))⟩

/-! ### Blocks of a call's own -/
def nums (xs : List Int) : List Value := xs.map (Value.int .i64)
theorem nums_length (xs : List Int) : (nums xs).length = xs.length := by simp [nums]
theorem info3 : (Try.prog.info? 3).map (fun i => (i.zero, i.size, i.bytes)) = some (some (.int .i64 0), 1, 8) := by kernel_rfl
theorem info84 : (Try.prog.info? 84).map (fun i => (i.zero, i.size, i.bytes)) = some (some (.agg #[.int .i64 0, .int .i64 0, .int .i64 0]), 3, 24) := by kernel_rfl
theorem info80 : (Try.prog.info? 80).map (fun i => (i.zero, i.size, i.bytes)) = some (some (.agg #[.int .i64 0, .int .i64 0, .int .i64 0, .int .i64 0, .slice none 0 0]), 5, 56) := by kernel_rfl
theorem info23 : (Try.prog.info? 23).map (fun i => (i.zero, i.size, i.bytes)) = some (some (.slice none 0 0), 1, 24) := by kernel_rfl
theorem madeCells_int (n : Nat) : madeCells #[Value.int .i64 0] n = (nums (List.replicate n 0)).toArray := by
  apply Array.ext
  · simp [nums, madeCells]
  · intro i h1 h2
    simp [nums, madeCells, Nat.mod_one]
/-- Behind k steps of 'out[i] = a[i]'. -/
def upTo {α : Type} (d : α) : Nat → List α → List α
  | _, [] => []
  | 0, _ :: xs => d :: upTo d 0 xs
  | k + 1, x :: xs => x :: upTo d k xs
theorem upTo_zero {α : Type} (d : α) (xs : List α) : upTo d 0 xs = List.replicate xs.length d := by
  induction xs with
  | nil => rfl
  | cons x xs ih => simp [upTo, ih, List.replicate_succ]
theorem upTo_all {α : Type} (d : α) (xs : List α) : upTo d xs.length xs = xs := by
  induction xs with
  | nil => rfl
  | cons x xs ih => simp [upTo, ih]
theorem upTo_length {α : Type} (d : α) (k : Nat) (xs : List α) : (upTo d k xs).length = xs.length := by
  induction xs generalizing k with
  | nil => cases k <;> rfl
  | cons x xs ih => cases k <;> simp [upTo, ih]
theorem upTo_set {α : Type} (d : α) {k : Nat} {xs : List α} {x : α} (h : xs[k]? = some x) : (upTo d k xs).set k x = upTo d (k + 1) xs := by
  induction xs generalizing k with
  | nil => simp at h
  | cons y ys ih =>
    cases k with
    | zero => simp at h; subst h; simp [upTo]
    | succ k => simp at h; simp [upTo, ih h]
/-- What 'make([]T, n)' does, T of 's' cells. -/
theorem madeCells_flat (z : Array Value) (n : Nat) : madeCells z (n * z.size) = (List.replicate n z.toList).flatten.toArray := by
  have key : ∀ n i : Nat, i < n * z.size → (List.replicate n z.toList).flatten[i]? = z.toList[i % z.size]? := by
    intro n
    induction n with
    | zero => intro i h; simp at h
    | succ n ih =>
      intro i h
      rw [List.replicate_succ, List.flatten_cons, List.getElem?_append]
      by_cases hi : i < z.toList.length
      · rw [if_pos hi, Nat.mod_eq_of_lt (by simpa using hi)]
      · have hz : z.size ≤ i := by simpa using hi
        rw [if_neg hi, ih _ (by rw [Nat.succ_mul] at h; simp; omega)]
        simp only [Array.length_toList]
        rw [← Nat.mod_eq_sub_mod hz]
  apply Array.ext
  · simp [madeCells]
  · intro i h1 h2
    have hi : i < n * z.size := by simpa [madeCells] using h1
    have hz : 0 < z.size := Nat.pos_of_ne_zero (fun e => by rw [e] at hi; simp at hi)
    have hk := key n i hi
    rw [List.getElem?_eq_getElem (by simpa using h2), List.getElem?_eq_getElem (by simpa using Nat.mod_lt i hz)] at hk
    simp only [Option.some.injEq] at hk
    simp only [List.getElem_toArray, hk]
    simp [madeCells, Nat.mod_lt i hz]
theorem make_any (t e : TypeId) (z : Value) (size bytes : Nat) (ht : Try.prog.underlying t = some (.slice e)) (hinfo : (Try.prog.info? e).map (fun i => (i.zero, i.size, i.bytes)) = some (some z, size, bytes)) (hz : z.cells.size = size) (n : Nat) (hb : bytes * n ≤ 281474976710656) (h63 : n ≤ 9223372036854775807) :
    ∀ W : World, (Instr.makeSlice t (.int .i64 (n : Int)) (.int .i64 (n : Int))).run Try.prog W = .ok (.slice (some ⟨W.heap.size, 0, none⟩) n n) (W.alloc (.cells (List.replicate n z.cells.toList).flatten.toArray e)) := by
  intro W
  obtain ⟨i, hi, hzz⟩ := Option.map_eq_some_iff.1 hinfo
  simp only [Prod.mk.injEq] at hzz
  obtain ⟨hz0, hs, hby⟩ := hzz
  have h := run_make (P := Try.prog) W t e i z ht hi hz0 .i64 .i64 n n (by omega) (by omega) (by rw [hby]; have : ((bytes * n : Nat) : Int) ≤ (281474976710656 : Nat) := Int.ofNat_le.2 hb; rw [Int.natCast_mul] at this; exact this) (by omega)
  rw [Int.toNat_natCast, hs, ← hz, madeCells_flat] at h
  exact h
/-- Cells stored one behind the other. -/
def setFrom (l : List Value) (k : Nat) : List Value → List Value
  | [] => l
  | v :: vs => setFrom (l.set k v) (k + 1) vs
theorem setFrom_mid (a b c r : List Value) (h : b.length = r.length) : setFrom (a ++ (b ++ c)) a.length r = a ++ (r ++ c) := by
  induction r generalizing a b with
  | nil => cases b with
    | nil => rfl
    | cons x b => simp at h
  | cons v r ih =>
    cases b with
    | nil => simp at h
    | cons x b =>
      have h1 : (a ++ (x :: b ++ c)).set a.length v = (a ++ [v]) ++ (b ++ c) := by simp
      have h2 := ih (a ++ [v]) b (by simpa using h)
      rw [setFrom, h1]
      simp only [List.length_append, List.length_singleton] at h2
      rw [h2]
      simp
theorem flatten_len {rows : List (List Value)} {s : Nat} (hs : ∀ q, q ∈ rows → q.length = s) : rows.flatten.length = rows.length * s := by
  induction rows with
  | nil => simp
  | cons r rows ih => rw [List.flatten_cons, List.length_append, hs r (by simp), ih (fun q hq => hs q (by simp [hq])), List.length_cons, Nat.succ_mul, Nat.add_comm]
theorem flatten_set {rows : List (List Value)} {s i : Nat} {r0 r : List Value} (hs : ∀ q, q ∈ rows → q.length = s) (h : rows[i]? = some r0) (hr : r.length = s) : (rows.set i r).flatten = setFrom rows.flatten (i * s) r := by
  obtain ⟨hi, rfl⟩ := List.getElem?_eq_some_iff.1 h
  have e : rows = rows.take i ++ (rows[i] :: rows.drop (i + 1)) := by rw [← List.drop_eq_getElem_cons hi, List.take_append_drop]
  have hl : (rows.take i).flatten.length = i * s := by
    rw [flatten_len (s := s) (fun q hq => hs q (List.mem_of_mem_take hq)), List.length_take, Nat.min_eq_left (by omega)]
  have e1 : rows.flatten = (rows.take i).flatten ++ (rows[i] ++ (rows.drop (i + 1)).flatten) := by
    rw [show rows.flatten = (rows.take i ++ (rows[i] :: rows.drop (i + 1))).flatten from congrArg List.flatten e, List.flatten_append, List.flatten_cons]
  have e2 : (rows.set i r).flatten = (rows.take i).flatten ++ (r ++ (rows.drop (i + 1)).flatten) := by
    rw [List.set_eq_take_append_cons_drop, if_pos hi]
    simp
  rw [e1, e2, ← hl, setFrom_mid _ _ _ _ (by rw [hr]; exact hs _ (List.getElem_mem hi))]
theorem flatten_get {rows : List (List Value)} {s i j : Nat} {r : List Value} (hs : ∀ q, q ∈ rows → q.length = s) (h : rows[i]? = some r) (hj : j < s) : rows.flatten[i * s + j]? = r[j]? := by
  obtain ⟨hi, rfl⟩ := List.getElem?_eq_some_iff.1 h
  have e : rows = rows.take i ++ (rows[i] :: rows.drop (i + 1)) := by rw [← List.drop_eq_getElem_cons hi, List.take_append_drop]
  have hl : (rows.take i).flatten.length = i * s := by
    rw [flatten_len (s := s) (fun q hq => hs q (List.mem_of_mem_take hq)), List.length_take, Nat.min_eq_left (by omega)]
  have e1 : rows.flatten = (rows.take i).flatten ++ (rows[i] ++ (rows.drop (i + 1)).flatten) := by
    rw [show rows.flatten = (rows.take i ++ (rows[i] :: rows.drop (i + 1))).flatten from congrArg List.flatten e, List.flatten_append, List.flatten_cons]
  rw [e1, ← hl, List.getElem?_append_right (by omega), Nat.add_sub_cancel_left, List.getElem?_append_left (by rw [hs _ (List.getElem_mem hi)]; exact hj)]
def legRow (x : Leg) : List Value := [.int .i64 x.to, .int .i64 x.run, .int .i64 x.stay]
theorem legRow_len (xs : List Leg) : ∀ q, q ∈ xs.map legRow → q.length = 3 := by
  intro q hq
  obtain ⟨x, _, rfl⟩ := List.mem_map.1 hq
  rfl
theorem rdLeg_of_box {w : World} {g : Nat} {xs : List Leg} {t : TypeId} {fr : Nat × Nat} (h : w.heap[g]? = some (.cells (xs.map legRow).flatten.toArray t fr)) : RdLeg w (some ⟨g, 0, none⟩) xs := fun j x hx => by
  have hx' : (xs.map legRow)[j]? = some (legRow x) := by simp [hx]
  refine ⟨g, 0, rfl, box_lt h, ?_⟩
  unfold AtLeg
  rw [box_cell h, box_cell h, box_cell h]
  simp only [List.getElem?_toArray, Nat.zero_add]
  exact ⟨(flatten_get (legRow_len xs) hx' (show 0 < 3 by omega)).trans rfl, (flatten_get (legRow_len xs) hx' (show 1 < 3 by omega)).trans rfl, (flatten_get (legRow_len xs) hx' (show 2 < 3 by omega)).trans rfl⟩
theorem rdInt_of_box {w : World} {g : Nat} {xs : List Int} {fr : Nat × Nat} (h : w.heap[g]? = some (.cells (nums xs).toArray 3 fr)) : RdInt w (some ⟨g, 0, none⟩) xs := fun j x hx =>
  ⟨g, 0, rfl, box_lt h, by unfold AtInt; rw [box_cell h]; simp [nums, hx]⟩
set_option maxRecDepth 100000 in
set_option maxHeartbeats 1000000 in
theorem toIntS_any {w : World} {xs : List Int} {A : Option Addr} (c : Nat) (hA : RdInt w A xs) (hn : xs.length ≤ 1048576) :
    Calls Try.prog 64 #[.slice A xs.length c] w fun e w' => e = .returned (.slice (some ⟨w.heap.size, 0, none⟩) xs.length xs.length) ∧ w'.heap[w.heap.size]? = some (.cells (nums xs).toArray 3 (0, 0)) ∧ Ext w w' := by
  have hmk := fun W => run_make_row' (P := Try.prog) 23 3 (.int .i64 0) 8 Try.underlying23 info3 rfl .i64 .i64 xs.length (by omega) (by omega) W
  rw [madeCells_int, ← upTo_zero (0 : Int)] at hmk
  go_enter Try.func64, Try.ntmps64
  go_wp2
  clear hmk
  go_loopw [4] (fun j wr => ∃ (jj : Nat), jj ≤ xs.length ∧ j = .int .i64 jj ∧ Ext w wr ∧ wr.heap[w.heap.size]? = some (.cells (nums (upTo 0 jj xs)).toArray 3 (0, 0))) (fun j _ => xs.length - (intOf j).toNat)
  case atStart => exact ⟨0, Nat.zero_le _, rfl, (by repeat (first | (with_reducible assumption) | (with_reducible exact Ext.refl _) | apply Ext.alloc | apply Ext.drewN | apply Ext.drew)), box_new _ _⟩
  case round =>
    obtain ⟨jj, hjj, rfl, hE0, hB⟩ := hrel
    obtain ⟨hcl, hup⟩ := (Lp.of_ext hE0).open0
    by_cases hlt : jj < xs.length
    · obtain ⟨x, hx⟩ := hid_of_lt hlt
      obtain ⟨b, o, rfl, hb⟩ := hA.base hlt
      have hc := hA.at_ hx.out
      have hg1 := box_frozen hB jj
      have hg2 : ∃ u, wr.cell? ⟨w.heap.size, jj, none⟩ = some u := by rw [box_cell hB]; exact ⟨_, Array.getElem?_eq_getElem (by simp [nums_length, upTo_length]; exact hlt)⟩
      obtain ⟨u, hg2⟩ := hg2
      have HB := Lib.hid hB; clear hB
      go_wp2
      exact ⟨⟨jj + 1, by omega, by go_num, hE0.setCell (Nat.le_refl _) _, by rw [box_set HB.out]; rw [← upTo_set 0 hx.out]; simp [nums]⟩, (by simp [intOf]; omega)⟩
    · have he : jj = xs.length := by omega
      have HE := Lib.hid he; clear he
      have HB := Lib.hid hB; clear hB
      go_wp2
      go_ret
      exact ⟨rfl, by rw [HB.out, HE.out, upTo_all], hE0⟩
set_option maxRecDepth 100000 in
set_option maxHeartbeats 1000000 in
theorem toLegS_any {w : World} {xs : List Leg} {A : Option Addr} (c : Nat) (hA : RdLeg w A xs) (hn : xs.length ≤ 1048576) :
    Calls Try.prog 140 #[.slice A xs.length c] w fun e w' => e = .returned (.slice (some ⟨w.heap.size, 0, none⟩) xs.length xs.length) ∧ w'.heap[w.heap.size]? = some (.cells (xs.map legRow).flatten.toArray 84 (0, 0)) ∧ Ext w w' := by
  have hmk := make_any 78 84 _ 3 24 Try.underlying78 info84 rfl xs.length (by omega) (by omega)
  have hz : (Value.agg #[.int .i64 0, .int .i64 0, .int .i64 0]).cells.toList = legRow default := rfl
  rw [hz, ← List.map_replicate, ← upTo_zero] at hmk
  go_enter Try.func140, Try.ntmps140
  go_wp2
  clear hmk hz
  go_loopw [4] (fun j wr => ∃ (jj : Nat), jj ≤ xs.length ∧ j = .int .i64 jj ∧ Ext w wr ∧ wr.heap[w.heap.size]? = some (.cells ((upTo default jj xs).map legRow).flatten.toArray 84 (0, 0))) (fun j _ => xs.length - (intOf j).toNat)
  case atStart => exact ⟨0, Nat.zero_le _, rfl, (by repeat (first | (with_reducible assumption) | (with_reducible exact Ext.refl _) | apply Ext.alloc | apply Ext.drewN | apply Ext.drew)), box_new _ _⟩
  case round =>
    obtain ⟨jj, hjj, rfl, hE0, hB⟩ := hrel
    obtain ⟨hcl, hup⟩ := (Lp.of_ext hE0).open0
    have HB := Lib.hid hB; clear hB
    by_cases hlt : jj < xs.length
    · obtain ⟨x, hx⟩ := hid_of_lt hlt
      obtain ⟨b, o, rfl, hb⟩ := hA.base hlt
      obtain ⟨f0, f1, f2⟩ := hA.at_ hx.out
      obtain ⟨y, hy⟩ := hid_of_lt (l := upTo default jj xs) (i := jj) (by rw [upTo_length]; exact hlt)
      have hy' : Hid (((upTo default jj xs).map legRow)[jj]? = some (legRow y)) := by unfold Hid; rw [List.getElem?_map, hy.out]; rfl
      go_wp2_with (go_at_call 147; refine (toLeg_any x _).mono ?_; rintro e w1 ⟨rfl, hE⟩; have HB1 := Lib.hid (hE.box HB.out); have fr := box_frozen HB1.out; have g0 : w1.cell? ⟨w.heap.size, jj * 3 + 0, none⟩ = _ := (box_cell HB1.out _).trans ((List.getElem?_toArray ..).trans (flatten_get (legRow_len _) hy'.out (show 0 < 3 by omega))); have g1 : w1.cell? ⟨w.heap.size, jj * 3 + 1, none⟩ = _ := (box_cell HB1.out _).trans ((List.getElem?_toArray ..).trans (flatten_get (legRow_len _) hy'.out (show 1 < 3 by omega))); have g2 : w1.cell? ⟨w.heap.size, jj * 3 + 2, none⟩ = _ := (box_cell HB1.out _).trans ((List.getElem?_toArray ..).trans (flatten_get (legRow_len _) hy'.out (show 2 < 3 by omega))); simp only [legRow, Nat.add_zero, List.getElem?_cons_zero, List.getElem?_cons_succ] at g0 g1 g2)
      exact ⟨⟨jj + 1, by omega, by go_num, Ext.setCell (Ext.setCell (Ext.setCell (hE0.trans hE) (Nat.le_refl _) _) (Nat.le_refl _) _) (Nat.le_refl _) _, by
        rw [box_set (box_set (box_set HB1.out _ _) _ _) _ _, ← upTo_set default hx.out, List.map_set, flatten_set (legRow_len _) hy'.out (show (legRow x).length = 3 from rfl)]
        simp [setFrom, legRow]⟩, (by simp [intOf]; omega)⟩
    · have he : jj = xs.length := by omega
      have HE := Lib.hid he; clear he
      go_wp2
      go_ret
      exact ⟨rfl, by rw [HB.out, HE.out, upTo_all], hE0⟩
/-- A train's five cells, its legs at a value. -/
def trainRow (x : Train) (v : Value) : List Value := [.int .i64 x.frm, .int .i64 x.ready, .int .i64 x.due, .int .i64 x.weight, v]
/-- Legs of the call's own, from block B on. -/
def OwnLegs (B : Nat) (w : World) (v : Value) (xs : List Leg) : Prop := ∃ g, v = .slice (some ⟨g, 0, none⟩) xs.length xs.length ∧ B ≤ g ∧ w.heap[g]? = some (.cells (xs.map legRow).flatten.toArray 84 (0, 0))
theorem OwnLegs.ext {B : Nat} {w w' : World} {v : Value} {xs : List Leg} (h : OwnLegs B w v xs) (e : Ext w w') : OwnLegs B w' v xs := by
  obtain ⟨g, h1, h2, h3⟩ := h
  exact ⟨g, h1, h2, e.box h3⟩
set_option maxRecDepth 100000 in
set_option maxHeartbeats 1000000 in
theorem toTrain_any {w : World} {t : Train} {v : Value} (ht : IsTrain w t v) (hn : t.legs.length ≤ 1048576) :
    Calls Try.prog 125 #[v] w fun e w' => ∃ u, e = .returned (.agg #[.int .i64 t.frm, .int .i64 t.ready, .int .i64 t.due, .int .i64 t.weight, u]) ∧ OwnLegs w.heap.size w' u t.legs ∧ Ext w w' := by
  obtain ⟨A4, c4, rfl, hR⟩ := ht
  have HR := Lib.hid hR; clear hR
  go_enter Try.func125, Try.ntmps125
  go_wp2_with (go_at_call 140; refine (toLegS_any c4 (HR.out.ext (by repeat (first | (with_reducible assumption) | (with_reducible exact Ext.refl _) | apply Ext.alloc | apply Ext.drewN | apply Ext.drew))) hn).mono ?_; rintro e w1 ⟨rfl, hB, hE⟩; have hS := Lp.trans (bs := [(w.heap.size + 1 + 1, #[.int .i64 t.frm, .int .i64 t.ready, .int .i64 t.due, .int .i64 t.weight, .slice none 0 0], 80), (w.heap.size + 1, #[.int .i64 0, .int .i64 0, .int .i64 0, .int .i64 0, .slice none 0 0], 80)]) ((((Lp.nil w).alloc _).newAt _ _ (by simp)).newAt _ _ (by simp)) hE; obtain ⟨k1, k2, k3, k4, k5, k6⟩ := hS.open2; simp only [alloc_size] at hB; have fr1 := box_frozen (hS.box _ (List.mem_cons_self)); have fr2 := box_frozen (hS.box _ (List.mem_cons_of_mem _ List.mem_cons_self)))
  refine bodyPost_ret (v := .agg #[.int .i64 t.frm, .int .i64 t.ready, .int .i64 t.due, .int .i64 t.weight, .slice (some ⟨w.heap.size + 1 + 1 + 1, 0, none⟩) t.legs.length t.legs.length]) (by simp [results, Try.results125, go_sem, k1, k2, k3, k4, k5, k6]) rfl ⟨_, rfl, ⟨_, rfl, by omega, (by repeat (first | (with_reducible assumption) | with_reducible refine box_set_far ?_ _ _ (by omega)))⟩, (by repeat (first | (with_reducible exact hS.ext) | (with_reducible assumption) | (with_reducible exact Ext.refl _) | with_reducible apply Ext.alloc | with_reducible apply Ext.drewN | with_reducible apply Ext.drew | with_reducible refine Ext.setCell ?_ (by simp only []; omega) _))⟩
theorem OwnLegs.far {B : Nat} {w : World} {v : Value} {xs : List Leg} (h : OwnLegs B w v xs) {g : Nat} (hg : g < B) (j : Nat) (u : Value) : OwnLegs B (w.setCell ⟨g, j, none⟩ u) v xs := by
  obtain ⟨g', h1, h2, h3⟩ := h
  exact ⟨g', h1, h2, box_set_far h3 j u (by omega)⟩
theorem OwnLegs.mono {B B' : Nat} {w : World} {v : Value} {xs : List Leg} (h : OwnLegs B w v xs) (hB : B' ≤ B) : OwnLegs B' w v xs := by
  obtain ⟨g, h1, h2, h3⟩ := h
  exact ⟨g, h1, by omega, h3⟩
/-- Rows of five cells, of which the first k are the trains', their legs owned. -/
structure TrainRows (B : Nat) (w : World) (k : Nat) (rows : List (List Value)) (xs : List Train) : Prop where
  len : rows.length = xs.length
  five : ∀ q, q ∈ rows → q.length = 5
  row : ∀ (j : Nat) (x : Train), j < k → xs[j]? = some x → ∃ u, rows[j]? = some (trainRow x u) ∧ OwnLegs B w u x.legs
theorem TrainRows.map {B B' k : Nat} {w w' : World} {rows : List (List Value)} {xs : List Train} (h : TrainRows B w k rows xs) (f : ∀ u x, OwnLegs B w u x → OwnLegs B' w' u x) : TrainRows B' w' k rows xs :=
  ⟨h.len, h.five, fun j x hj hx => by
    obtain ⟨u, h1, h2⟩ := h.row j x hj hx
    exact ⟨u, h1, f _ _ h2⟩⟩
theorem TrainRows.set {B k : Nat} {w : World} {rows : List (List Value)} {xs : List Train} (h : TrainRows B w k rows xs) {x : Train} (hx : xs[k]? = some x) {u : Value} (hu : OwnLegs B w u x.legs) : TrainRows B w (k + 1) (rows.set k (trainRow x u)) xs :=
  ⟨by simpa using h.len, fun q hq => by
    rcases List.mem_or_eq_of_mem_set hq with hq | rfl
    · exact h.five q hq
    · rfl, fun j y hj hy => by
    by_cases e : k = j
    · subst e
      obtain rfl : x = y := by rw [hx] at hy; injection hy
      exact ⟨u, by rw [List.getElem?_set_self (by rw [h.len]; exact lt_of_some hx)], hu⟩
    · obtain ⟨v, h1, h2⟩ := h.row j y (by omega) hy
      exact ⟨v, by rw [List.getElem?_set_ne e]; exact h1, h2⟩⟩
/-- Trains of the call's own, from block B on. -/
def OwnTrains (B : Nat) (w : World) (v : Value) (xs : List Train) : Prop := ∃ g rows, v = .slice (some ⟨g, 0, none⟩) xs.length xs.length ∧ B ≤ g ∧ w.heap[g]? = some (.cells rows.flatten.toArray 80 (0, 0)) ∧ TrainRows B w xs.length rows xs
theorem OwnTrains.ext {B : Nat} {w w' : World} {v : Value} {xs : List Train} (h : OwnTrains B w v xs) (e : Ext w w') : OwnTrains B w' v xs := by
  obtain ⟨g, rows, h1, h2, h3, h4⟩ := h
  exact ⟨g, rows, h1, h2, e.box h3, h4.map (fun _ _ h => h.ext e)⟩
theorem OwnLegs.rd {B : Nat} {w : World} {v : Value} {xs : List Leg} (h : OwnLegs B w v xs) : ∃ A c, v = .slice A xs.length c ∧ RdLeg w A xs := by
  obtain ⟨g, h1, h2, h3⟩ := h
  exact ⟨_, _, h1, rdLeg_of_box h3⟩
theorem OwnTrains.rd {B : Nat} {w : World} {v : Value} {xs : List Train} (h : OwnTrains B w v xs) : ∃ A c, v = .slice A xs.length c ∧ RdTrain w A xs := by
  obtain ⟨g, rows, h1, h2, h3, h4⟩ := h
  refine ⟨_, _, h1, fun j x hx => ⟨g, 0, rfl, box_lt h3, ?_⟩⟩
  obtain ⟨u, hr, ho⟩ := h4.row j x (lt_of_some hx) hx
  obtain ⟨A, c, rfl, hR⟩ := ho.rd
  have hc : ∀ i, i < 5 → w.cell? ⟨g, 0 + j * 5 + i, none⟩ = (trainRow x (.slice A x.legs.length c))[i]? := fun i hi => by
    rw [box_cell h3, List.getElem?_toArray, Nat.zero_add, flatten_get h4.five hr hi]
  exact ⟨hc 0 (by omega), hc 1 (by omega), hc 2 (by omega), hc 3 (by omega), A, c, hc 4 (by omega), hR⟩
set_option maxRecDepth 100000 in
set_option maxHeartbeats 1000000 in
theorem toTrainS_any {w : World} {xs : List Train} {A : Option Addr} (c : Nat) (hA : RdTrain w A xs) (hn : xs.length ≤ 1048576) (hl : ∀ (i : Nat) (t : Train), xs[i]? = some t → t.legs.length ≤ 1048576) :
    Calls Try.prog 78 #[.slice A xs.length c] w fun e w' => ∃ v, e = .returned v ∧ OwnTrains w.heap.size w' v xs ∧ Ext w w' := by
  have hmk := make_any 31 80 _ 5 56 Try.underlying31 info80 rfl xs.length (by omega) (by omega)
  have hz : (Value.agg #[.int .i64 0, .int .i64 0, .int .i64 0, .int .i64 0, .slice none 0 0]).cells.toList = trainRow default (.slice none 0 0) := rfl
  rw [hz] at hmk
  go_enter Try.func78, Try.ntmps78
  go_wp2
  clear hmk hz
  go_loopw [4] (fun j wr => ∃ (jj : Nat) (rows : List (List Value)), jj ≤ xs.length ∧ j = .int .i64 jj ∧ Ext w wr ∧ wr.heap[w.heap.size]? = some (.cells rows.flatten.toArray 80 (0, 0)) ∧ TrainRows (w.heap.size + 1) wr jj rows xs) (fun j _ => xs.length - (intOf j).toNat)
  case atStart => exact ⟨0, _, Nat.zero_le _, rfl, (by repeat (first | (with_reducible assumption) | (with_reducible exact Ext.refl _) | apply Ext.alloc | apply Ext.drewN | apply Ext.drew)), box_new _ _, by simp, fun q hq => by rw [List.eq_of_mem_replicate hq]; rfl, fun j x hj _ => absurd hj (by omega)⟩
  case round =>
    obtain ⟨jj, rows, hjj, rfl, hE0, hB, hT⟩ := hrel
    obtain ⟨hcl, hup⟩ := (Lp.of_ext hE0).open0
    have HB := Lib.hid hB; clear hB
    have HT := Lib.hid hT; clear hT
    have hlt0 : w.heap.size < wr.heap.size := box_lt HB.out
    by_cases hlt : jj < xs.length
    · obtain ⟨x, hx⟩ := hid_of_lt hlt
      obtain ⟨b, o, rfl, hb⟩ := hA.base hlt
      obtain ⟨e0, e1, e2, e3, A4, c4, e4, hR⟩ := hA.at_ hx.out
      have hI := Lib.hid (isTrain_mk (c4 := c4) (hR.ext hE0))
      have hN := hl _ _ hx.out
      obtain ⟨r, hr⟩ := hid_of_lt (l := rows) (i := jj) (by rw [HT.out.len]; exact hlt)
      have h5 := Lib.hid (HT.out.five r (List.mem_of_getElem? hr.out))
      go_wp2_with (go_at_call 125; refine (toTrain_any hI.out hN).mono ?_; rintro e w1 ⟨u, rfl, ⟨gu, rfl, hgu, hBu⟩, hE⟩; have HU : Hid (OwnLegs wr.heap.size w1 (.slice (some ⟨gu, 0, none⟩) x.legs.length x.legs.length) x.legs) := ⟨gu, rfl, hgu, hBu⟩; clear hBu; have HB1 := Lib.hid (hE.box HB.out); have fr := box_frozen HB1.out; have hc : ∀ i, i < 5 → w1.cell? ⟨w.heap.size, jj * 5 + i, none⟩ = r[i]? := (fun i hi => (box_cell HB1.out _).trans ((List.getElem?_toArray ..).trans (flatten_get HT.out.five hr.out hi))); obtain ⟨y0, g0⟩ : ∃ y, w1.cell? ⟨w.heap.size, jj * 5, none⟩ = some y := ⟨_, (hc 0 (by omega)).trans (List.getElem?_eq_getElem (by rw [h5.out]; omega))⟩; obtain ⟨y1, g1⟩ : ∃ y, w1.cell? ⟨w.heap.size, jj * 5 + 1, none⟩ = some y := ⟨_, (hc 1 (by omega)).trans (List.getElem?_eq_getElem (by rw [h5.out]; omega))⟩; obtain ⟨y2, g2⟩ : ∃ y, w1.cell? ⟨w.heap.size, jj * 5 + 2, none⟩ = some y := ⟨_, (hc 2 (by omega)).trans (List.getElem?_eq_getElem (by rw [h5.out]; omega))⟩; obtain ⟨y3, g3⟩ : ∃ y, w1.cell? ⟨w.heap.size, jj * 5 + 3, none⟩ = some y := ⟨_, (hc 3 (by omega)).trans (List.getElem?_eq_getElem (by rw [h5.out]; omega))⟩; obtain ⟨y4, g4⟩ : ∃ y, w1.cell? ⟨w.heap.size, jj * 5 + 4, none⟩ = some y := ⟨_, (hc 4 (by omega)).trans (List.getElem?_eq_getElem (by rw [h5.out]; omega))⟩; clear hc)
      refine ⟨⟨jj + 1, rows.set jj (trainRow x (.slice (some ⟨gu, 0, none⟩) x.legs.length x.legs.length)), by omega, by go_num, Ext.setCell (Ext.setCell (Ext.setCell (Ext.setCell (Ext.setCell (hE0.trans hE) (Nat.le_refl _) _) (Nat.le_refl _) _) (Nat.le_refl _) _) (Nat.le_refl _) _) (Nat.le_refl _) _, ?_, ?_⟩, (by simp [intOf]; omega)⟩
      · rw [box_set (box_set (box_set (box_set (box_set HB1.out _ _) _ _) _ _) _ _) _ _, flatten_set HT.out.five hr.out (show (trainRow x (.slice (some ⟨gu, 0, none⟩) x.legs.length x.legs.length)).length = 5 from rfl)]
        simp [setFrom, trainRow]
      · have h1 := (HT.out.map (fun _ _ h => h.ext hE)).set hx.out (HU.out.mono (by omega))
        exact h1.map (fun _ _ h => ((((h.far (by omega) _ _).far (by omega) _ _).far (by omega) _ _).far (by omega) _ _).far (by omega) _ _)
    · have he : jj = xs.length := by omega
      have HE := Lib.hid he; clear he
      go_wp2
      go_ret
      exact ⟨_, rfl, ⟨_, rows, rfl, Nat.le_refl _, HB.out, ⟨HT.out.len, HT.out.five, fun j x hj hx => by
        obtain ⟨u, h1, h2⟩ := HT.out.row j x (by rw [HE.out]; exact hj) hx
        exact ⟨u, h1, h2.mono (by omega)⟩⟩⟩, hE0⟩
/-- Numbers of the call's own, from block B on. -/
def OwnInts (B : Nat) (w : World) (v : Value) (xs : List Int) : Prop := ∃ g, v = .slice (some ⟨g, 0, none⟩) xs.length xs.length ∧ B ≤ g ∧ w.heap[g]? = some (.cells (nums xs).toArray 3 (0, 0))
theorem OwnInts.ext {B : Nat} {w w' : World} {v : Value} {xs : List Int} (h : OwnInts B w v xs) (e : Ext w w') : OwnInts B w' v xs := by
  obtain ⟨g, h1, h2, h3⟩ := h
  exact ⟨g, h1, h2, e.box h3⟩
theorem OwnInts.rd {B : Nat} {w : World} {v : Value} {xs : List Int} (h : OwnInts B w v xs) : ∃ A c, v = .slice A xs.length c ∧ RdInt w A xs := by
  obtain ⟨g, h1, h2, h3⟩ := h
  exact ⟨_, _, h1, rdInt_of_box h3⟩
theorem OwnInts.far {B : Nat} {w : World} {v : Value} {xs : List Int} (h : OwnInts B w v xs) {g : Nat} (hg : g < B) (j : Nat) (u : Value) : OwnInts B (w.setCell ⟨g, j, none⟩ u) v xs := by
  obtain ⟨g', h1, h2, h3⟩ := h
  exact ⟨g', h1, h2, box_set_far h3 j u (by omega)⟩
theorem OwnInts.mono {B B' : Nat} {w : World} {v : Value} {xs : List Int} (h : OwnInts B w v xs) (hB : B' ≤ B) : OwnInts B' w v xs := by
  obtain ⟨g, h1, h2, h3⟩ := h
  exact ⟨g, h1, by omega, h3⟩
theorem OwnTrains.far {B : Nat} {w : World} {v : Value} {xs : List Train} (h : OwnTrains B w v xs) {g : Nat} (hg : g < B) (j : Nat) (u : Value) : OwnTrains B (w.setCell ⟨g, j, none⟩ u) v xs := by
  obtain ⟨g', rows, h1, h2, h3, h4⟩ := h
  exact ⟨g', rows, h1, h2, box_set_far h3 j u (by omega), h4.map (fun _ _ h => h.far hg j u)⟩
theorem OwnTrains.mono {B B' : Nat} {w : World} {v : Value} {xs : List Train} (h : OwnTrains B w v xs) (hB : B' ≤ B) : OwnTrains B' w v xs := by
  obtain ⟨g', rows, h1, h2, h3, h4⟩ := h
  exact ⟨g', rows, h1, by omega, h3, h4.map (fun _ _ h => h.mono hB)⟩
/-- A line of the call's own, from block B on. -/
def OwnLine (B : Nat) (w : World) (v : Value) (l : Line) : Prop := ∃ v0 v2, v = .agg #[v0, .int .i64 l.gap, v2] ∧ OwnInts B w v0 l.tracks ∧ OwnTrains B w v2 l.trains
theorem OwnLine.ext {B : Nat} {w w' : World} {v : Value} {l : Line} (h : OwnLine B w v l) (e : Ext w w') : OwnLine B w' v l := by
  obtain ⟨v0, v2, h1, h2, h3⟩ := h
  exact ⟨v0, v2, h1, h2.ext e, h3.ext e⟩
theorem OwnLine.rd {B : Nat} {w : World} {v : Value} {l : Line} (h : OwnLine B w v l) : IsLine w l v := by
  obtain ⟨v0, v2, rfl, h2, h3⟩ := h
  obtain ⟨A0, c0, rfl, k2⟩ := h2.rd
  obtain ⟨A2, c2, rfl, k3⟩ := h3.rd
  exact ⟨A0, c0, A2, c2, rfl, k2, k3⟩
/-- What the copies ask of an argument: its lists are no longer than 2^20. -/
structure Line.Small (l : Line) : Prop where
  tracks : l.tracks.length ≤ 1048576
  trains : l.trains.length ≤ 1048576
  legs : ∀ (i : Nat) (t : Train), l.trains[i]? = some t → t.legs.length ≤ 1048576
set_option maxRecDepth 100000 in
set_option maxHeartbeats 1000000 in
theorem toLine_any {w : World} {l : Line} {v : Value} (hl : IsLine w l v) (S : l.Small) :
    Calls Try.prog 23 #[v] w fun e w' => ∃ u, e = .returned u ∧ OwnLine w.heap.size w' u l ∧ Ext w w' := by
  obtain ⟨A0, c0, A2, c2, rfl, hR0, hR2⟩ := hl
  have HR0 := Lib.hid hR0; have HR2 := Lib.hid hR2; clear hR0 hR2
  have s0 := S.tracks; have s2 := S.trains
  go_enter Try.func23, Try.ntmps23
  go_wp2_with (first  | (go_at_call 64; refine (toIntS_any c0 (HR0.out.ext (by repeat (first | (with_reducible assumption) | (with_reducible exact Ext.refl _) | apply Ext.alloc | apply Ext.drewN | apply Ext.drew))) s0).mono ?_; rintro e w1 ⟨rfl, hB, hE⟩; simp only [alloc_size] at hB; have HB := Lib.hid hB; clear hB;  have hS := Lp.trans (bs := [(w.heap.size + 1 + 1, #[.slice none 0 0, .int .i64 0, .slice none 0 0], 33), (w.heap.size + 1, #[.slice none 0 0, .int .i64 0, .slice none 0 0], 33), (w.heap.size, #[.slice A0 l.tracks.length c0, .int .i64 l.gap, .slice A2 l.trains.length c2], 26)]) ((((Lp.nil w).newAt _ _ rfl).newAt _ _ (by simp)).newAt _ _ (by simp)) hE;  obtain ⟨k1, k2, k3, k4, k5, k6, k7, k8⟩ := hS.open3; have fr1 := box_frozen (hS.box _ (List.mem_cons_self)))  | (go_at_call 78; refine (toTrainS_any c2 (HR2.out.ext (by repeat (first | (with_reducible exact hS.ext) | (with_reducible assumption) | (with_reducible exact Ext.refl _) | with_reducible apply Ext.alloc | with_reducible apply Ext.drewN | with_reducible apply Ext.drew | with_reducible refine Ext.setCell ?_ (by simp only []; omega) _))) s2 S.legs).mono ?_; rintro e w2 ⟨u, rfl, ⟨gu, rows, rfl, hgu, hU1, hU2⟩, hE2⟩;  have HU : Hid (OwnTrains _ w2 (.slice (some ⟨gu, 0, none⟩) l.trains.length l.trains.length) l.trains) := ⟨gu, rows, rfl, hgu, hU1, hU2⟩; clear hU1 hU2;  have hT := Lp.trans ((hS.set (by omega) (by simp <;> omega) 0 (.slice (some ⟨w.heap.size + 1 + 1 + 1, 0, none⟩) l.tracks.length l.tracks.length)).set (by omega) (by simp <;> omega) 1 (.int .i64 l.gap)) hE2; simp only [List.setIfInBounds_toArray, List.set_cons_zero, List.set_cons_succ] at hT; clear hS k1 k2 k3 k4 k5 k6 k7 k8 fr1; obtain ⟨k1, k2, k3, k4, k5, k6, k7, k8⟩ := hT.open3; have fr1 := box_frozen (hT.box _ (List.mem_cons_self)); have fr2 := box_frozen (hT.box _ (List.mem_cons_of_mem _ List.mem_cons_self))))
  have HB2 := hE2.box (box_set_far (box_set_far HB.out 0 (.slice (some ⟨w.heap.size + 1 + 1 + 1, 0, none⟩) l.tracks.length l.tracks.length) (g' := w.heap.size + 1 + 1) (by omega)) 1 (.int .i64 l.gap) (g' := w.heap.size + 1 + 1) (by omega))
  have hq : w.heap.size + 1 + 1 < ((w1.setCell ⟨w.heap.size + 1 + 1, 0, none⟩ (.slice (some ⟨w.heap.size + 1 + 1 + 1, 0, none⟩) l.tracks.length l.tracks.length)).setCell ⟨w.heap.size + 1 + 1, 1, none⟩ (.int .i64 l.gap)).heap.size := by
    have := hE.size
    simp [World.setCell] at this ⊢
    omega
  have hX := hT.ext
  refine bodyPost_ret (v := .agg #[.slice (some ⟨w.heap.size + 1 + 1 + 1, 0, none⟩) l.tracks.length l.tracks.length, .int .i64 l.gap, .slice (some ⟨gu, 0, none⟩) l.trains.length l.trains.length]) (by simp [results, Try.results23, go_sem, k1, k2, k3, k4, k5, k6]) rfl ⟨_, rfl, ⟨_, _, rfl, ⟨_, rfl, by omega, (by repeat (first | (with_reducible assumption) | with_reducible refine box_set_far ?_ _ _ (by omega)))⟩, ?_⟩, (by repeat (first | (with_reducible exact hS.ext) | (with_reducible assumption) | (with_reducible exact Ext.refl _) | with_reducible apply Ext.alloc | with_reducible apply Ext.drewN | with_reducible apply Ext.drew | with_reducible refine Ext.setCell ?_ (by simp only []; omega) _))⟩
  exact ((((HU.out.far (by omega) _ _).far (by omega) _ _).far (by omega) _ _).far (by omega) _ _).mono (by omega)
end Go.Proofs.Ythhkbfjolmgloaa
namespace Go.Proofs.Ythhkbfjolmgloaa
open Go.RowKit
set_option linter.unusedVariables false
set_option linter.unusedSimpArgs false
theorem eqLeg_same (x : Leg) (w : World) : Calls Try.prog 148 #[.agg #[.int .i64 x.to, .int .i64 x.run, .int .i64 x.stay], .agg #[.int .i64 x.to, .int .i64 x.run, .int .i64 x.stay]] w fun e w' => e = .returned (.bool true) ∧ Ext w w' := by
  go_enter Try.func148, Try.ntmps148
  go_wp2
  go_ret
  exact ⟨rfl, (by repeat (first | (with_reducible assumption) | (with_reducible exact Ext.refl _) | apply Ext.alloc | apply Ext.drewN | apply Ext.drew))⟩
theorem eqFault_same (a b : Int) (w : World) : Calls Try.prog 25 #[.agg #[.int .i64 a, .int .i64 b], .agg #[.int .i64 a, .int .i64 b]] w fun e w' => e = .returned (.bool true) ∧ Ext w w' := by
  go_enter Try.func25, Try.ntmps25
  go_wp2
  go_ret
  exact ⟨rfl, (by repeat (first | (with_reducible assumption) | (with_reducible exact Ext.refl _) | apply Ext.alloc | apply Ext.drewN | apply Ext.drew))⟩
set_option maxRecDepth 100000 in
set_option maxHeartbeats 1000000 in
theorem eqLegS_same {w : World} {xs : List Leg} {A B : Option Addr} (c d : Nat) (hA : RdLeg w A xs) (hB : RdLeg w B xs) (hn : xs.length ≤ 9223372036854775807) :
    Calls Try.prog 141 #[.slice A xs.length c, .slice B xs.length d] w fun e w' => e = .returned (.bool true) ∧ Ext w w' := by
  go_enter Try.func141, Try.ntmps141
  go_wp2
  go_loopw [5] (fun j wr => ∃ (jj : Nat), jj ≤ xs.length ∧ j = .int .i64 jj ∧ Ext w wr) (fun j _ => xs.length - (intOf j).toNat)
  case atStart => exact ⟨0, Nat.zero_le _, rfl, (by repeat (first | (with_reducible assumption) | (with_reducible exact Ext.refl _) | apply Ext.alloc | apply Ext.drewN | apply Ext.drew))⟩
  case round =>
    obtain ⟨jj, hjj, rfl, hE0⟩ := hrel
    obtain ⟨hcl, hup⟩ := (Lp.of_ext hE0).open0
    by_cases hlt : jj < xs.length
    · obtain ⟨x, hx⟩ := hid_of_lt hlt
      obtain ⟨b, o, rfl, hb⟩ := hA.base hlt
      obtain ⟨f0, f1, f2⟩ := hA.at_ hx.out
      obtain ⟨b', o', rfl, hb'⟩ := hB.base hlt
      obtain ⟨g0, g1, g2⟩ := hB.at_ hx.out
      go_wp2
      go_still_tail 8, (by kernel_rfl)
      go_wp2_with (go_at_call 148; refine (eqLeg_same x _).mono ?_; rintro e w1 ⟨rfl, hE⟩)
      exact ⟨⟨jj + 1, by omega, by go_num, Ext.trans (by repeat (first | (with_reducible assumption) | (with_reducible exact Ext.refl _) | apply Ext.alloc | apply Ext.drewN | apply Ext.drew)) hE⟩, (by simp [intOf]; omega)⟩
    · go_wp2
      go_ret
      exact ⟨rfl, hE0⟩
set_option maxRecDepth 100000 in
set_option maxHeartbeats 1000000 in
theorem eqIntS_same {w : World} {xs : List Int} {A B : Option Addr} (c d : Nat) (hA : RdInt w A xs) (hB : RdInt w B xs) (hn : xs.length ≤ 9223372036854775807) :
    Calls Try.prog 55 #[.slice A xs.length c, .slice B xs.length d] w fun e w' => e = .returned (.bool true) ∧ Ext w w' := by
  go_enter Try.func55, Try.ntmps55
  go_wp2
  go_loopw [5] (fun j wr => ∃ (jj : Nat), jj ≤ xs.length ∧ j = .int .i64 jj ∧ Ext w wr) (fun j _ => xs.length - (intOf j).toNat)
  case atStart => exact ⟨0, Nat.zero_le _, rfl, (by repeat (first | (with_reducible assumption) | (with_reducible exact Ext.refl _) | apply Ext.alloc | apply Ext.drewN | apply Ext.drew))⟩
  case round =>
    obtain ⟨jj, hjj, rfl, hE0⟩ := hrel
    obtain ⟨hcl, hup⟩ := (Lp.of_ext hE0).open0
    by_cases hlt : jj < xs.length
    · obtain ⟨x, hx⟩ := hid_of_lt hlt
      obtain ⟨b, o, rfl, hb⟩ := hA.base hlt
      obtain ⟨b', o', rfl, hb'⟩ := hB.base hlt
      have f0 := hA.at_ hx.out
      have g0 := hB.at_ hx.out
      go_wp2
      go_quiet (fail)
      go_wp2
      exact ⟨⟨jj + 1, by omega, by go_num, (by repeat (first | (with_reducible assumption) | (with_reducible exact Ext.refl _) | apply Ext.alloc | apply Ext.drewN | apply Ext.drew))⟩, (by simp [intOf]; omega)⟩
    · go_wp2
      go_ret
      exact ⟨rfl, hE0⟩
set_option maxRecDepth 100000 in
set_option maxHeartbeats 1000000 in
theorem eqTrain_same {w : World} {x : Train} {u v : Value} (hu : IsTrain w x u) (hv : IsTrain w x v) (hn : x.legs.length ≤ 9223372036854775807) : Calls Try.prog 126 #[u, v] w fun e w' => e = .returned (.bool true) ∧ Ext w w' := by
  obtain ⟨A, c, rfl, hA⟩ := hu
  obtain ⟨B, d, rfl, hB⟩ := hv
  have HA := Lib.hid hA; have HB := Lib.hid hB; clear hA hB
  go_enter Try.func126, Try.ntmps126
  go_wp2_with (go_at_call 141; refine (eqLegS_same c d (HA.out.ext (by repeat (first | (with_reducible assumption) | (with_reducible exact Ext.refl _) | apply Ext.alloc | apply Ext.drewN | apply Ext.drew))) (HB.out.ext (by repeat (first | (with_reducible assumption) | (with_reducible exact Ext.refl _) | apply Ext.alloc | apply Ext.drewN | apply Ext.drew))) hn).mono ?_; rintro e w1 ⟨rfl, hE⟩)
  go_ret
  exact ⟨rfl, Ext.trans (by repeat (first | (with_reducible assumption) | (with_reducible exact Ext.refl _) | apply Ext.alloc | apply Ext.drewN | apply Ext.drew)) hE⟩
set_option maxRecDepth 100000 in
set_option maxHeartbeats 1000000 in
theorem eqTrainS_same {w : World} {xs : List Train} {A B : Option Addr} (c d : Nat) (hA : RdTrain w A xs) (hB : RdTrain w B xs) (hn : xs.length ≤ 9223372036854775807) (hl : ∀ (i : Nat) (t : Train), xs[i]? = some t → t.legs.length ≤ 9223372036854775807) :
    Calls Try.prog 81 #[.slice A xs.length c, .slice B xs.length d] w fun e w' => e = .returned (.bool true) ∧ Ext w w' := by
  go_enter Try.func81, Try.ntmps81
  go_wp2
  go_loopw [5] (fun j wr => ∃ (jj : Nat), jj ≤ xs.length ∧ j = .int .i64 jj ∧ Ext w wr) (fun j _ => xs.length - (intOf j).toNat)
  case atStart => exact ⟨0, Nat.zero_le _, rfl, (by repeat (first | (with_reducible assumption) | (with_reducible exact Ext.refl _) | apply Ext.alloc | apply Ext.drewN | apply Ext.drew))⟩
  case round =>
    obtain ⟨jj, hjj, rfl, hE0⟩ := hrel
    obtain ⟨hcl, hup⟩ := (Lp.of_ext hE0).open0
    by_cases hlt : jj < xs.length
    · obtain ⟨x, hx⟩ := hid_of_lt hlt
      obtain ⟨b, o, rfl, hb⟩ := hA.base hlt
      obtain ⟨b', o', rfl, hb'⟩ := hB.base hlt
      obtain ⟨e0, e1, e2, e3, A4, c4, e4, hR⟩ := hA.at_ hx.out
      obtain ⟨f0, f1, f2, f3, A5, c5, f4, hR5⟩ := hB.at_ hx.out
      have HI := Lib.hid (fun W (e : Ext w W) => isTrain_mk (c4 := c4) (hR.ext e))
      have HJ := Lib.hid (fun W (e : Ext w W) => isTrain_mk (c4 := c5) (hR5.ext e))
      have hN := hl _ _ hx.out
      go_wp2
      go_still_tail 8, (by kernel_rfl)
      go_wp2_with (go_at_call 126; refine (eqTrain_same (HI.out _ (by repeat (first | (with_reducible assumption) | (with_reducible exact Ext.refl _) | apply Ext.alloc | apply Ext.drewN | apply Ext.drew))) (HJ.out _ (by repeat (first | (with_reducible assumption) | (with_reducible exact Ext.refl _) | apply Ext.alloc | apply Ext.drewN | apply Ext.drew))) hN).mono ?_; rintro e w1 ⟨rfl, hE⟩)
      exact ⟨⟨jj + 1, by omega, by go_num, Ext.trans (by repeat (first | (with_reducible assumption) | (with_reducible exact Ext.refl _) | apply Ext.alloc | apply Ext.drewN | apply Ext.drew)) hE⟩, (by simp [intOf]; omega)⟩
    · go_wp2
      go_ret
      exact ⟨rfl, hE0⟩
set_option maxRecDepth 100000 in
set_option maxHeartbeats 1000000 in
theorem eqIntSS_same {w : World} {xs : List (List Int)} {A B : Option Addr} (c d : Nat) (hA : RdRows w A xs) (hB : RdRows w B xs) (hn : xs.length ≤ 9223372036854775807) (hl : ∀ (i : Nat) (t : List Int), xs[i]? = some t → t.length ≤ 9223372036854775807) :
    Calls Try.prog 108 #[.slice A xs.length c, .slice B xs.length d] w fun e w' => e = .returned (.bool true) ∧ Ext w w' := by
  go_enter Try.func108, Try.ntmps108
  go_wp2
  go_loopw [5] (fun j wr => ∃ (jj : Nat), jj ≤ xs.length ∧ j = .int .i64 jj ∧ Ext w wr) (fun j _ => xs.length - (intOf j).toNat)
  case atStart => exact ⟨0, Nat.zero_le _, rfl, (by repeat (first | (with_reducible assumption) | (with_reducible exact Ext.refl _) | apply Ext.alloc | apply Ext.drewN | apply Ext.drew))⟩
  case round =>
    obtain ⟨jj, hjj, rfl, hE0⟩ := hrel
    obtain ⟨hcl, hup⟩ := (Lp.of_ext hE0).open0
    by_cases hlt : jj < xs.length
    · obtain ⟨x, hx⟩ := hid_of_lt hlt
      obtain ⟨b, o, rfl, hb⟩ := hA.base hlt
      obtain ⟨b', o', rfl, hb'⟩ := hB.base hlt
      obtain ⟨A4, c4, e4, hR⟩ := hA.at_ hx.out
      obtain ⟨A5, c5, f4, hR5⟩ := hB.at_ hx.out
      have HI := Lib.hid hR; have HJ := Lib.hid hR5; clear hR hR5
      have hN := hl _ _ hx.out
      go_wp2
      go_still_tail 8, (by kernel_rfl)
      go_wp2_with (go_at_call 55; refine (eqIntS_same c4 c5 (HI.out.ext (by repeat (first | (with_reducible assumption) | (with_reducible exact Ext.refl _) | apply Ext.alloc | apply Ext.drewN | apply Ext.drew))) (HJ.out.ext (by repeat (first | (with_reducible assumption) | (with_reducible exact Ext.refl _) | apply Ext.alloc | apply Ext.drewN | apply Ext.drew))) hN).mono ?_; rintro e w1 ⟨rfl, hE⟩)
      exact ⟨⟨jj + 1, by omega, by go_num, Ext.trans (by repeat (first | (with_reducible assumption) | (with_reducible exact Ext.refl _) | apply Ext.alloc | apply Ext.drewN | apply Ext.drew)) hE⟩, (by simp [intOf]; omega)⟩
    · go_wp2
      go_ret
      exact ⟨rfl, hE0⟩
set_option maxRecDepth 100000 in
set_option maxHeartbeats 1000000 in
theorem eqLine_same {w : World} {l : Line} {u v : Value} (hu : IsLine w l u) (hv : IsLine w l v) (R : l.Room) : Calls Try.prog 26 #[u, v] w fun e w' => e = .returned (.bool true) ∧ Ext w w' := by
  obtain ⟨A0, c0, A2, c2, rfl, hA0, hA2⟩ := hu
  obtain ⟨B0, d0, B2, d2, rfl, hB0, hB2⟩ := hv
  have r1 := R.tracks; have r2 := R.trains
  have HA := Lib.hid hA0; have HB := Lib.hid hB0; have HA2 := Lib.hid hA2; have HB2 := Lib.hid hB2; clear hA0 hB0 hA2 hB2
  go_enter Try.func26, Try.ntmps26
  go_wp2_with (first  | (go_at_call 55; refine (eqIntS_same c0 d0 (HA.out.ext (by repeat (first | (with_reducible assumption) | (with_reducible exact Ext.refl _) | apply Ext.alloc | apply Ext.drewN | apply Ext.drew))) (HB.out.ext (by repeat (first | (with_reducible assumption) | (with_reducible exact Ext.refl _) | apply Ext.alloc | apply Ext.drewN | apply Ext.drew))) r1).mono ?_; rintro e w1 ⟨rfl, hE⟩; have hS := (Lp.start2 w _ _ _ _).trans hE; obtain ⟨k1, k2, k3, k4, k5, k6⟩ := hS.open2)  | (go_at_call 81; refine (eqTrainS_same c2 d2 (HA2.out.ext hS.ext) (HB2.out.ext hS.ext) r2 R.legs).mono ?_; rintro e w2 ⟨rfl, hE2⟩))
  go_ret
  exact ⟨rfl, hS.ext.trans hE2⟩
theorem eqPlan_same {w : World} {p : List (List Int)} {u v : Value} (hu : IsPlan w p u) (hv : IsPlan w p v) (hn : p.length ≤ 9223372036854775807) (hl : ∀ (i : Nat) (t : List Int), p[i]? = some t → t.length ≤ 9223372036854775807) : Calls Try.prog 42 #[u, v] w fun e w' => e = .returned (.bool true) ∧ Ext w w' := by
  obtain ⟨A, c, rfl, hA⟩ := hu
  obtain ⟨B, d, rfl, hB⟩ := hv
  have HA := Lib.hid hA; have HB := Lib.hid hB; clear hA hB
  go_enter Try.func42, Try.ntmps42
  go_wp2_with (go_at_call 108; refine (eqIntSS_same c d (HA.out.ext (by repeat (first | (with_reducible assumption) | (with_reducible exact Ext.refl _) | apply Ext.alloc | apply Ext.drewN | apply Ext.drew))) (HB.out.ext (by repeat (first | (with_reducible assumption) | (with_reducible exact Ext.refl _) | apply Ext.alloc | apply Ext.drewN | apply Ext.drew))) hn hl).mono ?_; rintro e w1 ⟨rfl, hE⟩)
  go_ret
  exact ⟨rfl, Ext.trans (by repeat (first | (with_reducible assumption) | (with_reducible exact Ext.refl _) | apply Ext.alloc | apply Ext.drewN | apply Ext.drew)) hE⟩
theorem eqClash_same (a b c d : Int) (w : World) : Calls Try.prog 44 #[.agg #[.int .i64 a, .int .i64 b, .int .i64 c, .int .i64 d], .agg #[.int .i64 a, .int .i64 b, .int .i64 c, .int .i64 d]] w fun e w' => e = .returned (.bool true) ∧ Ext w w' := by
  go_enter Try.func44, Try.ntmps44
  go_wp2
  go_ret
  exact ⟨rfl, (by repeat (first | (with_reducible assumption) | (with_reducible exact Ext.refl _) | apply Ext.alloc | apply Ext.drewN | apply Ext.drew))⟩
end Go.Proofs.Ythhkbfjolmgloaa
namespace Go.Proofs
open Go.Shelf
def Try.lays128_ren : Go.Shelf.Ren := ⟨fun | 128 => 159 | n => n, fun | 51 => 176 | 3 => 3 | 4 => 4 | 46 => 159 | 5 => 5 | 9 => 9 | n => n, fun | n => n⟩
theorem Try.lays128 : Go.Proofs.Lays.n128 Try.prog Try.lays128_ren := {
  mixed := by kernel_rfl
  f128 := Try.func159.trans (congrArg some (by kernel_rfl))
  t3 := Try.underlying3
  a3 := Try.isAgg3
  z3 := Try.sizeOf3
  v3 := Try.zeroValue3
  t4 := Try.underlying4
  a4 := Try.isAgg4
  z4 := Try.sizeOf4
  v4 := Try.zeroValue4
  t5 := Try.underlying5
  a5 := Try.isAgg5
  z5 := Try.sizeOf5
  v5 := Try.zeroValue5
  t9 := Try.underlying9
  a9 := Try.isAgg9
  z9 := Try.sizeOf9
  v9 := Try.zeroValue9
  t46 := Try.underlying159
  a46 := Try.isAgg159
  z46 := Try.sizeOf159
  v46 := Try.zeroValue159
  t51 := Try.underlying176
  a51 := Try.isAgg176
  z51 := Try.sizeOf176
  v51 := Try.zeroValue176 }
/-- bits.Len32: "Len32 returns the minimum number of bits required to represent x; the result is 0 for x == 0.": IT RETURNS 'Lib.bitLen x'; the world is as it was. ('h0', 'h1': x is a uint32.) (LAID: no walk: one application.) -/
theorem Try.bits_Len32 (x : Int) (w : World) (h0 : 0 ≤ x) (h1 : x ≤ 4294967295) :
    Calls Try.prog 159 #[.int .u32 x] w fun e w' => e = .returned (.int .i64 (Lib.bitLen x.toNat)) ∧ w' = w := Any.bits_Len32 Try.lays128 x w h0 h1
def Try.lays125_ren : Go.Shelf.Ren := ⟨fun | 125 => 144 | 128 => 159 | 129 => 160 | n => n, fun | 46 => 159 | 3 => 3 | 51 => 176 | 53 => 99 | 4 => 4 | 5 => 5 | 9 => 9 | n => n, fun | n => n⟩
theorem Try.lays125 : Go.Proofs.Lays.n125 Try.prog Try.lays125_ren := {
  mixed := by kernel_rfl
  f125 := Try.func144.trans (congrArg some (by kernel_rfl))
  f128 := Try.func159.trans (congrArg some (by kernel_rfl))
  f129 := Try.func160.trans (congrArg some (by kernel_rfl))
  t3 := Try.underlying3
  a3 := Try.isAgg3
  z3 := Try.sizeOf3
  v3 := Try.zeroValue3
  t4 := Try.underlying4
  a4 := Try.isAgg4
  z4 := Try.sizeOf4
  v4 := Try.zeroValue4
  t5 := Try.underlying5
  a5 := Try.isAgg5
  z5 := Try.sizeOf5
  v5 := Try.zeroValue5
  t9 := Try.underlying9
  a9 := Try.isAgg9
  z9 := Try.sizeOf9
  v9 := Try.zeroValue9
  t46 := Try.underlying159
  a46 := Try.isAgg159
  z46 := Try.sizeOf159
  v46 := Try.zeroValue159
  t51 := Try.underlying176
  a51 := Try.isAgg176
  z51 := Try.sizeOf176
  v51 := Try.zeroValue176
  t53 := Try.underlying99
  a53 := Try.isAgg99
  z53 := Try.sizeOf99
  v53 := Try.zeroValue99 }
/-- bits.Len: "Len returns the minimum number of bits required to represent x; the result is 0 for x == 0.": IT RETURNS 'Lib.bitLen x'; the world is as it was. (A uint has 64 bits in the model.) ITS CALLEE bits.Len64 IS MET BY ITS OWN CONTRACT OFF THE SHELF (lay that first). (LAID: no walk: one application.) -/
theorem Try.bits_Len (x : Int) (w : World) (h0 : 0 ≤ x) (h1 : x ≤ 18446744073709551615) :
    Calls Try.prog 144 #[.int .u64 x] w fun e w' => e = .returned (.int .i64 (Lib.bitLen x.toNat)) ∧ w' = w := Any.bits_Len Try.lays125 x w h0 h1
def Try.lays215_ren : Go.Shelf.Ren := ⟨fun | 215 => 149 | n => n, fun | 3 => 3 | 4 => 4 | n => n, fun | n => n⟩
theorem Try.lays215 : Go.Proofs.Lays.n215 Try.prog Try.lays215_ren := {
  mixed := by kernel_rfl
  f215 := Try.func149.trans (congrArg some (by kernel_rfl))
  t3 := Try.underlying3
  a3 := Try.isAgg3
  z3 := Try.sizeOf3
  v3 := Try.zeroValue3
  t4 := Try.underlying4
  a4 := Try.isAgg4
  z4 := Try.sizeOf4
  v4 := Try.zeroValue4 }
open Go.RowKit in
/-- cmp.isNaN at int: 'x != x': false. (LAID: no walk: one application.) -/
theorem Try.cmp_isNaN_int (x : Int) (w : World) :
    Calls Try.prog 149 #[.int .i64 x] w fun e w' => e = .returned (.bool false) ∧ w' = w := Any.cmp_isNaN_int Try.lays215 x w
def Try.lays122_ren : Go.Shelf.Ren := ⟨fun | 122 => 142 | 215 => 149 | n => n, fun | 3 => 3 | 4 => 4 | n => n, fun | n => n⟩
theorem Try.lays122 : Go.Proofs.Lays.n122 Try.prog Try.lays122_ren := {
  mixed := by kernel_rfl
  f122 := Try.func142.trans (congrArg some (by kernel_rfl))
  f215 := Try.func149.trans (congrArg some (by kernel_rfl))
  t3 := Try.underlying3
  a3 := Try.isAgg3
  z3 := Try.sizeOf3
  v3 := Try.zeroValue3
  t4 := Try.underlying4
  a4 := Try.isAgg4
  z4 := Try.sizeOf4
  v4 := Try.zeroValue4 }
open Go.RowKit in
/-- cmp.Compare at int: "Compare returns -1 if x is less than y, 0 if x equals y, +1 if x is greater than y.": IT RETURNS 'Lib.compareInt x y'; the world is as it was. (LAID: no walk: one application.) -/
theorem Try.cmp_Compare_int (x y : Int) (w : World) :
    Calls Try.prog 142 #[.int .i64 x, .int .i64 y] w fun e w' => e = .returned (.int .i64 (Lib.compareInt x y)) ∧ w' = w := Any.cmp_Compare_int Try.lays122 x y w
def Try.lays129_ren : Go.Shelf.Ren := ⟨fun | 129 => 160 | n => n, fun | 53 => 99 | 3 => 3 | 4 => 4 | 46 => 159 | 5 => 5 | 9 => 9 | n => n, fun | n => n⟩
theorem Try.lays129 : Go.Proofs.Lays.n129 Try.prog Try.lays129_ren := {
  mixed := by kernel_rfl
  f129 := Try.func160.trans (congrArg some (by kernel_rfl))
  t3 := Try.underlying3
  a3 := Try.isAgg3
  z3 := Try.sizeOf3
  v3 := Try.zeroValue3
  t4 := Try.underlying4
  a4 := Try.isAgg4
  z4 := Try.sizeOf4
  v4 := Try.zeroValue4
  t5 := Try.underlying5
  a5 := Try.isAgg5
  z5 := Try.sizeOf5
  v5 := Try.zeroValue5
  t9 := Try.underlying9
  a9 := Try.isAgg9
  z9 := Try.sizeOf9
  v9 := Try.zeroValue9
  t46 := Try.underlying159
  a46 := Try.isAgg159
  z46 := Try.sizeOf159
  v46 := Try.zeroValue159
  t53 := Try.underlying99
  a53 := Try.isAgg99
  z53 := Try.sizeOf99
  v53 := Try.zeroValue99 }
/-- bits.Len64: "Len64 returns the minimum number of bits required to represent x; the result is 0 for x == 0.": IT RETURNS 'Lib.bitLen x'; the world is as it was. ('h0', 'h1': x is a uint64.) (LAID: no walk: one application.) -/
theorem Try.bits_Len64 (x : Int) (w : World) (h0 : 0 ≤ x) (h1 : x ≤ 18446744073709551615) :
    Calls Try.prog 160 #[.int .u64 x] w fun e w' => e = .returned (.int .i64 (Lib.bitLen x.toNat)) ∧ w' = w := Any.bits_Len64 Try.lays129 x w h0 h1
def Try.lays189_ren : Go.Shelf.Ren := ⟨fun | 189 => 131 | 125 => 144 | 257 => 143 | 128 => 159 | 129 => 160 | 294 => 150 | 295 => 151 | 296 => 152 | 297 => 153 | 298 => 154 | 299 => 155 | 216 => 156 | 300 => 157 | 301 => 158 | 328 => 162 | 329 => 163 | 330 => 164 | 331 => 165 | 332 => 166 | 215 => 149 | 343 => 168 | n => n, fun | 28 => 23 | 3 => 3 | 46 => 159 | 0 => 0 | 51 => 176 | 53 => 99 | 4 => 4 | 183 => 168 | 182 => 167 | 131 => 173 | 5 => 5 | 9 => 9 | 218 => 178 | 222 => 182 | 228 => 184 | 229 => 185 | n => n, fun | n => n⟩
theorem Try.lays189 : Go.Proofs.Lays.n189 Try.prog Try.lays189_ren := {
  mixed := by kernel_rfl
  f125 := Try.func144.trans (congrArg some (by kernel_rfl))
  f128 := Try.func159.trans (congrArg some (by kernel_rfl))
  f129 := Try.func160.trans (congrArg some (by kernel_rfl))
  f189 := Try.func131.trans (congrArg some (by kernel_rfl))
  f215 := Try.func149.trans (congrArg some (by kernel_rfl))
  f216 := Try.func156.trans (congrArg some (by kernel_rfl))
  f257 := Try.func143.trans (congrArg some (by kernel_rfl))
  f294 := Try.func150.trans (congrArg some (by kernel_rfl))
  f295 := Try.func151.trans (congrArg some (by kernel_rfl))
  f296 := Try.func152.trans (congrArg some (by kernel_rfl))
  f297 := Try.func153.trans (congrArg some (by kernel_rfl))
  f298 := Try.func154.trans (congrArg some (by kernel_rfl))
  f299 := Try.func155.trans (congrArg some (by kernel_rfl))
  f300 := Try.func157.trans (congrArg some (by kernel_rfl))
  f301 := Try.func158.trans (congrArg some (by kernel_rfl))
  f328 := Try.func162.trans (congrArg some (by kernel_rfl))
  f329 := Try.func163.trans (congrArg some (by kernel_rfl))
  f330 := Try.func164.trans (congrArg some (by kernel_rfl))
  f331 := Try.func165.trans (congrArg some (by kernel_rfl))
  f332 := Try.func166.trans (congrArg some (by kernel_rfl))
  f343 := Try.func168.trans (congrArg some (by kernel_rfl))
  t0 := Try.underlying0
  a0 := Try.isAgg0
  z0 := Try.sizeOf0
  v0 := Try.zeroValue0
  t3 := Try.underlying3
  a3 := Try.isAgg3
  z3 := Try.sizeOf3
  v3 := Try.zeroValue3
  t4 := Try.underlying4
  a4 := Try.isAgg4
  z4 := Try.sizeOf4
  v4 := Try.zeroValue4
  t5 := Try.underlying5
  a5 := Try.isAgg5
  z5 := Try.sizeOf5
  v5 := Try.zeroValue5
  t9 := Try.underlying9
  a9 := Try.isAgg9
  z9 := Try.sizeOf9
  v9 := Try.zeroValue9
  t28 := Try.underlying23
  a28 := Try.isAgg23
  z28 := Try.sizeOf23
  v28 := Try.zeroValue23
  t46 := Try.underlying159
  a46 := Try.isAgg159
  z46 := Try.sizeOf159
  v46 := Try.zeroValue159
  t51 := Try.underlying176
  a51 := Try.isAgg176
  z51 := Try.sizeOf176
  v51 := Try.zeroValue176
  t53 := Try.underlying99
  a53 := Try.isAgg99
  z53 := Try.sizeOf99
  v53 := Try.zeroValue99
  t131 := Try.underlying173
  a131 := Try.isAgg173
  z131 := Try.sizeOf173
  v131 := Try.zeroValue173
  t182 := Try.underlying167
  a182 := Try.isAgg167
  z182 := Try.sizeOf167
  v182 := Try.zeroValue167
  t183 := Try.underlying168
  a183 := Try.isAgg168
  z183 := Try.sizeOf168
  v183 := Try.zeroValue168
  t218 := Try.underlying178
  a218 := Try.isAgg178
  z218 := Try.sizeOf178
  v218 := Try.zeroValue178
  t222 := Try.underlying182
  a222 := Try.isAgg182
  z222 := Try.sizeOf182
  v222 := Try.zeroValue182
  t228 := Try.underlying184
  a228 := Try.isAgg184
  z228 := Try.sizeOf184
  v228 := Try.zeroValue184
  t229 := Try.underlying185
  a229 := Try.isAgg185
  z229 := Try.sizeOf185
  v229 := Try.zeroValue185 }
open Go.Sort Go.RowKit in
theorem Try.slices_Sort_int (blk off cap : Nat) (zs : List Int) (w : World) (hH : Holds (Value.int .i64) w blk off zs.toArray) (hblk : blk < w.heap.size) (hsz : zs.length < 4611686018427387904) :
    Calls Try.prog 131 #[.slice (some ⟨blk, off, none⟩) zs.length cap] w fun e w' =>
      e = .returned (.tuple #[]) ∧ ∃ n os, w' = grow (putRow (Value.int .i64) (Sort.ahead w n) blk off (zs.mergeSort fun x y => decide (x ≤ y)).toArray) os := Any.slices_Sort_int Try.lays189 blk off cap zs w hH hblk hsz
def Try.laysNm215_ren : Go.Shelf.Ren := ⟨fun | 15 => 90 | n => n, fun | 22 => 23 | 3 => 3 | 4 => 4 | n => n, fun | n => n⟩
theorem Try.laysNm215 : Go.Proofs.Lays2.n15 Try.prog Try.laysNm215_ren := {
  mixed := by kernel_rfl
  f15 := Try.func90.trans (congrArg some (by kernel_rfl))
  t3 := Try.underlying3
  a3 := Try.isAgg3
  z3 := Try.sizeOf3
  v3 := Try.zeroValue3
  t4 := Try.underlying4
  a4 := Try.isAgg4
  z4 := Try.sizeOf4
  v4 := Try.zeroValue4
  t22 := Try.underlying23
  a22 := Try.isAgg23
  z22 := Try.sizeOf23
  v22 := Try.zeroValue23
  i3 := by kernel_rfl }
open Go.RowKit Go.Lib in
/-- slices.Clone at []int: "Clone returns a copy of the slice. The elements are copied using assignment, so this is a shallow clone. The result may have additional unused capacity. The result preserves the nilness of s.": OF A SLICE THAT IS NOT nil IT RETURNS A SLICE THAT IS NOT nil, OF THE SAME ELEMENTS, IN MEMORY OF THE CALL's OWN: in the how-to's words (6f): 'w'.ownsRow B e 1 v' n cells': v' begins at the head of a row among the blocks from B on (B: the heap's size at the call), not frozen, whose first cells are the elements · 'Below B w w'': below B all is as it was. The capacity is whatever the run-time gives. 'zs': what the cells behind the slice's address hold; 'zs.take n': its elements. (LAID: no walk: one application.) -/
theorem Try.slices_Clone_int (b off n c : Nat) (zs : List Int) (w : World) (hz : n ≤ zs.length) (hbig : n * 8 ≤ 140737488355328) (hc : ∀ j, j < zs.length → w.cell? ⟨b, off + j, none⟩ = some (.int .i64 (zs.getD j 0))) :
    Calls Try.prog 90 #[.slice (some ⟨b, off, none⟩) n c] w fun e w' => ∃ v', e = .returned v' ∧ w'.ownsRow w.heap.size 3 1 v' n ((zs.take n).map (Value.int .i64)) ∧ v' ≠ .slice none 0 0 ∧ Below w.heap.size w w' := Any.slices_Clone_int Try.laysNm215 b off n c zs w hz hbig hc
open Go.RowKit Go.Lib in
/-- The same at nil: nil comes back; the world is as it was. (LAID: no walk: one application.) -/
theorem Try.slices_Clone_int_nil (n c : Nat) (w : World) :
    Calls Try.prog 90 #[.slice none n c] w fun e w' => e = .returned (.slice none 0 0) ∧ w' = w := Any.slices_Clone_int_nil Try.laysNm215 n c w
open Go.RowKit Go.Lib in
/-- The same at a slice of length 0 that is not nil, WHATEVER ITS ADDRESS (no cell is asked for): a slice that is not nil and owns nothing comes back. (LAID: no walk: one application.) -/
theorem Try.slices_Clone_int_zero (a : Addr) (c : Nat) (w : World) :
    Calls Try.prog 90 #[.slice (some a) 0 c] w fun e w' => ∃ v', e = .returned v' ∧ w'.ownsRow w.heap.size 3 1 v' 0 [] ∧ v' ≠ .slice none 0 0 ∧ Below w.heap.size w w' := Any.slices_Clone_int_zero Try.laysNm215 a c w
open Go.RowKit Go.Sort in
/-- .. and plain. (LAID: no walk: one application.) -/
theorem Try.slices_Sort_int_none (p : Option Addr) (cap : Nat) (w : World) :
    Calls Try.prog 131 #[.slice p 0 cap] w fun e w' => e = .returned (.tuple #[]) ∧ w' = w := Any.slices_Sort_int_none Try.lays189 p cap w
def Try.laysSlF020_f145_ren : Go.Shelf.Ren := ⟨fun | 20 => 145 | n => n, fun | 24 => 133 | 22 => 132 | 3 => 3 | 25 => 135 | 4 => 4 | 0 => 0 | n => n, fun | n => n⟩
theorem Try.laysSlF020_f145 : Go.Proofs.SlLaysF0.n20 Try.prog Try.laysSlF020_f145_ren := {
  mixed := by kernel_rfl
  f20 := ⟨Try.f145.name, by decide, Try.func145.trans (congrArg some (by kernel_rfl))⟩
  t0 := Try.underlying0
  a0 := Try.isAgg0
  z0 := Try.sizeOf0
  v0 := Try.zeroValue0
  t3 := Try.underlying3
  a3 := Try.isAgg3
  z3 := Try.sizeOf3
  v3 := Try.zeroValue3
  t4 := Try.underlying4
  a4 := Try.isAgg4
  z4 := Try.sizeOf4
  v4 := Try.zeroValue4
  t22 := Try.underlying132
  a22 := Try.isAgg132
  z22 := Try.sizeOf132
  v22 := Try.zeroValue132
  t25 := Try.underlying135
  a25 := Try.isAgg135
  z25 := Try.sizeOf135
  v25 := Try.zeroValue135 }
open Go.RowKit Go.Lib Go.Sort in
theorem Try.insertionSortCmpFunc {α : Type} [Inhabited α] (k : Nat) (aE : ∀ w, (isAgg 133).run Try.prog w = .ok true w) (zE : ∀ w, (Go.sizeOf 133).run Try.prog w = .ok k w) (enc : α → List Value) (hk : ∀ x, (enc x).length = k) (h1 : ∀ x, ∀ v ∈ enc x, v.oneCell' = true) (cf : α → α → Int) (g : Nat) (cb : Array Value) (blk off cap a b : Nat) (d : Array α) (w : World) (eg : ∀ args w, (callFunc g args).run Try.prog w = .ok (.enter g args) w) (hcmp : CmpLays Try.prog g cb enc k cf blk off d.size w) (hH : HoldsK enc k w blk off d) (hblk : blk < w.heap.size) (hab : a ≤ b) (hb : b ≤ d.size) (hsz : d.size < 4611686018427387904) :
    Calls Try.prog 145 #[.slice (some ⟨blk, off, none⟩) d.size cap, .int .i64 a, .int .i64 b, .func (.func g) #[] cb] w fun e w' =>
      e = .returned (.tuple #[]) ∧ ∃ n os, w' = sortWorldK enc k w blk off n (Sort.insertionSort (ltOf cf) d a b) os := AnyQ.insertionSortCmpFunc Try.laysSlF020_f145 k aE zE enc hk h1 cf g cb blk off cap a b d w eg hcmp hH hblk hab hb hsz
end Go.Proofs
namespace Go.Proofs.Ythhkbfjolmgloaa
open Go.RowKit Go.Deep
set_option linter.unusedVariables false
set_option linter.unusedSimpArgs false
theorem info133 : (Try.prog.info? 133).map (fun i => (i.zero, i.size, i.bytes)) = some (some (.agg #[.int .i64 0, .int .i64 0]), 2, 16) := by kernel_rfl
section
variable {ops : Array Oper} {rest : List Oper} {o : Oper} {a : Act} {w : World} {Q : Exit → Act → World → Prop}
theorem app_any (hgd : o.guard = none) (s x : Operand) (t : TypeId) (ho : o.op = .call { callee := .builtin .append, args := #[s, x], argTypes := #[t, t] })
    (base : Nat) (e : TypeId) (size bytes : Nat) (z : Value) (ht : Try.prog.underlying t = some (.slice e)) (hinfo : (Try.prog.info? e).map (fun i => (i.zero, i.size, i.bytes)) = some (some z, size, bytes)) (hzs : z.cells.size = size) (hsz : 0 < size)
    (v : Value) (n : Nat) (xs : List Value) (hs : a.eval s = v) (hown : w.ownsRow base e size v n xs) (hbase : base ≤ w.heap.size)
    (blk c : Nat) (cs : Array Value) (tb : TypeId) (hx : a.eval x = .slice (some ⟨blk, 0, none⟩) 1 c) (hblk : w.heap[blk]? = some (.cells cs tb (0, 0))) (hcs : cs.size = size) (h1 : ∀ u ∈ cs.toList, u.oneCell' = true)
    (hn : n ≤ 1000000) (hb2 : bytes ≤ 1000) (H : Nat) (hH : w.heap.size = H)
    (h : ∀ g cap w', w'.ownsRow base e size (.slice (some ⟨g, 0, none⟩) (n + 1) cap) (n + 1) (xs ++ cs.toList) → w.grownBy w' v.ownBlock → (v.ownBlock = some g ∨ g = H) → g < w'.heap.size → wpList Try.prog ops Q rest (a.put o.dst (.slice (some ⟨g, 0, none⟩) (n + 1) cap)) w') : wpList Try.prog ops Q (o :: rest) a w := by
  obtain ⟨i, hi, hzz⟩ := Option.map_eq_some_iff.1 hinfo
  simp only [Prod.mk.injEq] at hzz
  obtain ⟨hz0, hz1, hz2⟩ := hzz
  refine wpList_append_lies w hgd s x t ho base e i z size bytes ht hi hz0 hz1 hz2 hzs hsz v n xs hs hown ⟨blk, 0, none⟩ 1 c cs.toList hx (by simpa using hcs) (World.news_of_block hblk) h1 (by decide) (by unfold maxLen; omega) ?_ hbase H hH h
  have : (n + 1) * bytes ≤ 1000001 * 1000 := Nat.mul_le_mul (by omega) hb2
  omega
theorem app_step {K : Act → World → Prop} {E : Prop} (hgd : o.guard = none) (s x : Operand) (t : TypeId) (ho : o.op = .call { callee := .builtin .append, args := #[s, x], argTypes := #[t, t] })
    (base : Nat) (e : TypeId) (size bytes : Nat) (z : Value) (ht : Try.prog.underlying t = some (.slice e)) (hinfo : (Try.prog.info? e).map (fun i => (i.zero, i.size, i.bytes)) = some (some z, size, bytes)) (hzs : z.cells.size = size) (hsz : 0 < size)
    (v : Value) (n : Nat) (xs : List Value) (hs : a.eval s = v) (hown : w.ownsRow base e size v n xs) (hbase : base ≤ w.heap.size)
    (blk c : Nat) (cs : Array Value) (tb : TypeId) (hx : a.eval x = .slice (some ⟨blk, 0, none⟩) 1 c) (hblk : w.heap[blk]? = some (.cells cs tb (0, 0))) (hcs : cs.size = size) (h1 : ∀ u ∈ cs.toList, u.oneCell' = true)
    (hn : n ≤ 1000000) (hb2 : bytes ≤ 1000) (H : Nat) (hH : w.heap.size = H)
    (h : ∀ g cap w', w'.ownsRow base e size (.slice (some ⟨g, 0, none⟩) (n + 1) cap) (n + 1) (xs ++ cs.toList) → w.grownBy w' v.ownBlock → (v.ownBlock = some g ∨ g = H) → g < w'.heap.size → K (a.put o.dst (.slice (some ⟨g, 0, none⟩) (n + 1) cap)) w') : if Region.wanted o (yielded ops a.tmps) = true then Oper.wp Try.prog o a w K Q else E := by
  obtain ⟨i, hi, hzz⟩ := Option.map_eq_some_iff.1 hinfo
  simp only [Prod.mk.injEq] at hzz
  obtain ⟨hz0, hz1, hz2⟩ := hzz
  refine step_append_lies w hgd s x t ho base e i z size bytes ht hi hz0 hz1 hz2 hzs hsz v n xs hs hown ⟨blk, 0, none⟩ 1 c cs.toList hx (by simpa using hcs) (World.news_of_block hblk) h1 (by decide) (by unfold maxLen; omega) ?_ hbase H hH h
  have : (n + 1) * bytes ≤ 1000001 * 1000 := Nat.mul_le_mul (by omega) hb2
  omega
end
theorem one_int (x : Int) : ∀ u ∈ (#[Value.int .i64 x] : Array Value).toList, u.oneCell' = true := by
  intro u hu
  simp at hu
  subst hu; rfl
theorem two_int (x y : Int) : ∀ u ∈ (#[Value.int .i64 x, .int .i64 y] : Array Value).toList, u.oneCell' = true := by
  intro u hu
  simp at hu
  rcases hu with rfl | rfl <;> rfl
end Go.Proofs.Ythhkbfjolmgloaa
namespace Go.Proofs.Ythhkbfjolmgloaa
open Go.RowKit Go.Deep
set_option linter.unusedVariables false
set_option linter.unusedSimpArgs false
theorem nums_one (row : List Int) : ∀ u ∈ nums row, u.oneCell' = true := by
  intro u hu
  simp only [nums, List.mem_map] at hu
  obtain ⟨x, _, rfl⟩ := hu
  rfl
theorem copy_step {ops : Array Oper} {o : Oper} {a : Act} {w : World} {Q : Exit → Act → World → Prop} {K : Act → World → Prop} {E : Prop} (hgd : o.guard = none) (s x : Operand)
    (ho : o.op = .call { callee := .builtin .append, args := #[s, x], argTypes := #[23, 23] }) (H0 : Nat) (hs : a.eval s = .slice (some ⟨H0, 0, none⟩) 0 0) (hb : w.heap[H0]? = some (.cells #[] 3 (0, 0)))
    (A : Option Addr) (c : Nat) (row : List Int) (hx : a.eval x = .slice A row.length c) (hA : RdInt w A row) (hn : row.length ≤ 1000000)
    (h : ∀ g cap w', w'.ownsRow H0 3 1 (.slice (some ⟨g, 0, none⟩) row.length cap) row.length (nums row) → w.grownBy w' (some H0) → H0 ≤ g → g < w'.heap.size → K (a.put o.dst (.slice (some ⟨g, 0, none⟩) row.length cap)) w') :
    if Region.wanted o (yielded ops a.tmps) = true then Oper.wp Try.prog o a w K Q else E := by
  obtain ⟨i, hi, hzz⟩ := Option.map_eq_some_iff.1 info3
  simp only [Prod.mk.injEq] at hzz
  obtain ⟨hz0, hz1, hz2⟩ := hzz
  have hown : w.ownsRow H0 3 1 (.slice (some ⟨H0, 0, none⟩) 0 0) 0 [] := ⟨rfl, Or.inr ⟨H0, 0, #[], rfl, Nat.le_refl _, hb, Nat.le_refl _, by simp [maxLen], rfl, rfl⟩⟩
  have hlt := box_lt hb
  cases row with
  | nil =>
    have hw : Region.wanted o (yielded ops a.tmps) = true := by simp [Region.wanted, hgd]
    rw [if_pos hw]
    have hsrc : Src Try.prog i.size 23 (.slice A 0 c) 0 [] w := by
      cases A with
      | none => exact Src.ofNil w Try.underlying23 c
      | some ad => exact Src.ofSlice w Try.underlying23 ad 0 c [] (by simp) (fun j u hu => by simp at hu) (fun _ h => by cases h)
    have hr := run_append_nothing (P := Try.prog) w 23 23 o.type 3 i Try.underlying23 hi (some ⟨H0, 0, none⟩) 0 0 (Nat.le_refl _) _ hsrc
    have hx' : a.eval x = .slice A 0 c := hx
    unfold Oper.wp execOp
    simp only [ho, resolve, invoke, builtin, Sem.run_bind, Sem.run_pure, Result.andThen_ok, List.map_toArray, List.map_cons, List.map_nil, hs, hx', hr]
    exact h H0 0 w hown ⟨rfl, rfl, rfl, Nat.le_refl _, fun _ _ _ => rfl⟩ (Nat.le_refl _) hlt
  | cons y ys =>
    obtain ⟨b, off, rfl, hbl⟩ := hA.base (j := 0) (by simp)
    refine step_append_lies w hgd s x 23 ho H0 3 i (.int .i64 0) 1 8 Try.underlying23 hi hz0 hz1 hz2 rfl (by decide) _ 0 [] hs hown ⟨b, off, none⟩ (y :: ys).length c (nums (y :: ys)) hx (by simp [nums]) (fun j u hu => ?_) (nums_one _) (by simp) (by unfold maxLen; omega) (by omega) (by omega) w.heap.size rfl ?_
    · simp only [nums, List.getElem?_map, Option.map_eq_some_iff] at hu
      obtain ⟨z, hz, rfl⟩ := hu
      have h1 := RdInt.at_ hA hz
      unfold Addr.add
      by_cases e : j = 0
      · subst e; rw [if_pos rfl]; exact h1
      · rw [if_neg e]; exact h1
    · intro g cap w' h2 h3 h4 h5
      have hle : H0 ≤ g := by
        rcases h4 with h4 | h4
        · rw [show (Value.slice (some ⟨H0, 0, none⟩) 0 0).ownBlock = some H0 from rfl] at h4
          simp only [Option.some.injEq] at h4; omega
        · omega
      rw [List.nil_append] at h2
      rw [Nat.zero_add] at h2 ⊢
      exact h g cap w' h2 h3 hle h5
end Go.Proofs.Ythhkbfjolmgloaa
namespace Go.Proofs.Ythhkbfjolmgloaa
open Go.RowKit Go.ChangeShapes Go.WideShapes Go.Deep
set_option linter.unusedVariables false
set_option linter.unusedSimpArgs false
section
variable {H : Type} {enc : TypeId × Value → H} {W : World} {sp : Nat → Bool} {held : Bool}
theorem spot_none {w : World} {a : Addr} {v : Value} (h : w.cell? a = some v) : a.spot = none := by
  unfold World.cell? at h
  split at h
  · split at h
    · cases h
    · rename_i hs
      cases e : a.spot with
      | none => rfl
      | some s => rw [e] at hs; simp at hs
  · cases h
theorem range_some {n i k : Nat} (h : (List.range n)[i]? = some k) : i < n ∧ i = k := by
  have hi := lt_of_some h
  simp only [List.length_range] at hi
  rw [List.getElem?_range hi] at h
  exact ⟨hi, Option.some.inj h⟩
/-- A slice whose elements read as 'F' says. -/
theorem trod_row {α : Type} [Inhabited α] {F : World → Nat → Nat → α → Prop} {Q : α → Prop} {t e : TypeId} {s : Nat} (ht : Try.prog.underlying t = some (.slice e)) (hs : Try.prog.cellsOf e = s) (h0 : 0 < s)
    (hF : ∀ (b o n : Nat) (cs : List Value) (y : DataW H × List MemPlace), b < W.heap.size → (∀ j, j < s → W.cell? ⟨b, o + j, none⟩ = cs[j]?) → cs.length = s → DataW.trod enc Try.prog W 0 sp held n e cs = some y → ∃ x, F W b o x ∧ Q x)
    {fuel : Nat} {cs : List Value} {x : DataW H × List MemPlace} (h : DataW.trod enc Try.prog W 0 sp held fuel t cs = some x) :
    ∃ (A : Option Addr) (c : Nat) (xs : List α), cs = [.slice A xs.length c] ∧ Rd F W A xs s ∧ xs.length ≤ 9223372036854775807 ∧ ∀ (j : Nat) (y : α), xs[j]? = some y → Q y := by
  rcases DataW.trod_slice ht h with ⟨rfl, _⟩ | ⟨a, len, cap, elems, rest, n, _, rfl, _, _, hl, hm, hlen, hel, _, _⟩
  · exact ⟨none, 0, [], rfl, fun j x hx => by simp at hx, by simp, fun j y hy => by simp at hy⟩
  · have hm' : cap ≤ 9223372036854775807 := hm
    have key : ∀ i, i < len → ∃ x : α, (∃ b off, a = ⟨b, off, none⟩ ∧ b < W.heap.size ∧ F W b (off + i * s) x) ∧ Q x := by
      intro i hi
      have he := hel i hi
      rw [hs] at he
      have hsome : ∃ y, elems[i]? = some y := some_of_lt (by omega)
      obtain ⟨y, hy⟩ := hsome
      rw [hy] at he
      obtain ⟨cs', hc, ht'⟩ := Option.bind_eq_some_iff.1 he
      obtain ⟨_, hcl, hat⟩ := World.cells?_some hc
      have hz := hat 0 h0
      have h1 : ∃ v, W.cell? ((a.add (i * s)).add 0) = some v := by
        rw [hz]
        exact ⟨_, List.getElem?_eq_getElem (by omega)⟩
      obtain ⟨v, h1⟩ := h1
      -- the head's own spot: none, by the first element
      have hsp : a.spot = none := by
        have he0 := hel 0 (by omega)
        rw [hs] at he0
        obtain ⟨y0, hy0⟩ := some_of_lt (l := elems) (i := 0) (by omega)
        rw [hy0] at he0
        obtain ⟨cs0, hc0, _⟩ := Option.bind_eq_some_iff.1 he0
        obtain ⟨_, hcl0, hat0⟩ := World.cells?_some hc0
        have q := hat0 0 h0
        have e0 : (a.add (0 * s)).add 0 = a := by simp [Addr.add]
        rw [e0, List.getElem?_eq_getElem (by omega)] at q
        exact spot_none q
      obtain ⟨b, off, spot⟩ := a
      simp only at hsp
      subst hsp
      have hadd : ∀ j, ((⟨b, off, none⟩ : Addr).add (i * s)).add j = ⟨b, off + i * s + j, none⟩ := fun j => by rw [Addr.add_lit, Addr.add_lit]
      have hb : b < W.heap.size := by
        rw [hadd] at h1
        exact lt_of_cell h1
      obtain ⟨x, hx, hq⟩ := hF b (off + i * s) n cs' y hb (fun j hj => by rw [← hat j hj, hadd]) hcl ht'
      exact ⟨x, ⟨b, off, rfl, hb, hx⟩, hq⟩
    obtain ⟨f, hf⟩ := choose_lt key
    refine ⟨some a, cap, (List.range len).map f, by simp, fun j x hx => ?_, by simpa using Nat.le_trans hl hm', fun j y hy => ?_⟩
    · simp only [List.getElem?_map, Option.map_eq_some_iff] at hx
      obtain ⟨i, hi, rfl⟩ := hx
      obtain ⟨hi', rfl⟩ := range_some hi
      obtain ⟨⟨b, off, rfl, hb, hF'⟩, _⟩ := hf j hi'
      exact ⟨b, off, rfl, hb, hF'⟩
    · simp only [List.getElem?_map, Option.map_eq_some_iff] at hy
      obtain ⟨i, hi, rfl⟩ := hy
      obtain ⟨hi', rfl⟩ := range_some hi
      exact (hf j hi').2
theorem list1 {α : Type} {l : List α} (h : l.length = 1) : ∃ a, l = [a] := by
  match l, h with
  | [a], _ => exact ⟨a, rfl⟩
theorem list3 {α : Type} {l : List α} (h : l.length = 3) : ∃ a b c, l = [a, b, c] := by
  match l, h with
  | [a, b, c], _ => exact ⟨a, b, c, rfl⟩
theorem list5 {α : Type} {l : List α} (h : l.length = 5) : ∃ a b c d e, l = [a, b, c, d, e] := by
  match l, h with
  | [a, b, c, d, e], _ => exact ⟨a, b, c, d, e, rfl⟩
theorem cellsOf3 : Try.prog.cellsOf 3 = 1 := by kernel_rfl
theorem cellsOf23 : Try.prog.cellsOf 23 = 1 := by kernel_rfl
theorem cellsOf163 : Try.prog.cellsOf 163 = 3 := by kernel_rfl
theorem cellsOf141 : Try.prog.cellsOf 141 = 1 := by kernel_rfl
theorem cellsOf143 : Try.prog.cellsOf 143 = 5 := by kernel_rfl
theorem cellsOf24 : Try.prog.cellsOf 24 = 1 := by kernel_rfl
theorem cellsOf40 : Try.prog.cellsOf 40 = 1 := by kernel_rfl
theorem cellsOf26 : Try.prog.cellsOf 26 = 3 := by kernel_rfl
theorem cellsOf55 : Try.prog.cellsOf 55 = 1 := by kernel_rfl
/-- A number that an int holds. -/
def Fit64 (x : Int) : Prop := -9223372036854775808 ≤ x ∧ x ≤ 9223372036854775807
theorem fit_of_wf {x : Int} (h : (Lit.int .i64 x).wf = true) : Fit64 x := bounds_i64 h
theorem trod_ints {fuel : Nat} {cs : List Value} {x : DataW H × List MemPlace} (h : DataW.trod enc Try.prog W 0 sp held fuel 23 cs = some x) :
    ∃ (A : Option Addr) (c : Nat) (xs : List Int), cs = [.slice A xs.length c] ∧ RdInt W A xs ∧ xs.length ≤ 9223372036854775807 ∧ ∀ (j : Nat) (y : Int), xs[j]? = some y → Fit64 y := by
  refine trod_row Try.underlying23 cellsOf3 (by omega) (fun b o n cs y hb hc hl hy => ?_) h
  obtain ⟨x, rfl, _, hw⟩ := DataW.trod_int Try.underlying3 hy
  exact ⟨x, hc 0 (by omega), fit_of_wf hw⟩
theorem trod_int3 {n : Nat} {v : Value} {y : DataW H × List MemPlace} (h : DataW.trod enc Try.prog W 0 sp held n 3 [v] = some y) : ∃ x : Int, v = .int .i64 x ∧ Fit64 x := by
  obtain ⟨x, e, _, hw⟩ := DataW.trod_int Try.underlying3 h
  exact ⟨x, by simpa using e, fit_of_wf hw⟩
theorem trod_legs {fuel : Nat} {cs : List Value} {x : DataW H × List MemPlace} (h : DataW.trod enc Try.prog W 0 sp held fuel 141 cs = some x) :
    ∃ (A : Option Addr) (c : Nat) (xs : List Leg), cs = [.slice A xs.length c] ∧ RdLeg W A xs ∧ xs.length ≤ 9223372036854775807 ∧ ∀ (j : Nat) (y : Leg), xs[j]? = some y → Fit64 y.to := by
  refine trod_row Try.underlying141 cellsOf163 (by omega) (fun b o n cs y hb hc hl hy => ?_) h
  obtain ⟨ys, m, _, _, _, hyl, hg⟩ := DataW.trod_struct Try.underlying163 hy
  obtain ⟨c0, c1, c2, rfl⟩ := list3 hl
  obtain ⟨y0, y1, y2, rfl⟩ := list3 (l := ys) hyl
  have g0 : DataW.trod enc Try.prog W 0 sp held m 3 [c0] = some y0 := by simpa [Value.cells, cellsOf3, cellsOf141, cellsOf23, cellsOf24, cellsOf40] using hg 0 _ rfl
  have g1 : DataW.trod enc Try.prog W 0 sp held m 3 [c1] = some y1 := by simpa [Value.cells, cellsOf3, cellsOf141, cellsOf23, cellsOf24, cellsOf40] using hg 1 _ rfl
  have g2 : DataW.trod enc Try.prog W 0 sp held m 3 [c2] = some y2 := by simpa [Value.cells, cellsOf3, cellsOf141, cellsOf23, cellsOf24, cellsOf40] using hg 2 _ rfl
  obtain ⟨x0, rfl, w0⟩ := trod_int3 (v := c0) g0
  obtain ⟨x1, rfl, _⟩ := trod_int3 (v := c1) g1
  obtain ⟨x2, rfl, _⟩ := trod_int3 (v := c2) g2
  exact ⟨⟨x0, x1, x2⟩, ⟨hc 0 (by omega), hc 1 (by omega), hc 2 (by omega)⟩, w0⟩
theorem trod_trains {fuel : Nat} {cs : List Value} {x : DataW H × List MemPlace} (h : DataW.trod enc Try.prog W 0 sp held fuel 24 cs = some x) :
    ∃ (A : Option Addr) (c : Nat) (xs : List Train), cs = [.slice A xs.length c] ∧ RdTrain W A xs ∧ xs.length ≤ 9223372036854775807 ∧ ∀ (j : Nat) (y : Train), xs[j]? = some y → y.legs.length ≤ 9223372036854775807 := by
  refine trod_row Try.underlying24 cellsOf143 (by omega) (fun b o n cs y hb hc hl hy => ?_) h
  obtain ⟨ys, m, _, _, _, hyl, hg⟩ := DataW.trod_struct Try.underlying143 hy
  obtain ⟨c0, c1, c2, c3, c4, rfl⟩ := list5 hl
  obtain ⟨y0, y1, y2, y3, y4, rfl⟩ := list5 (l := ys) hyl
  have g0 : DataW.trod enc Try.prog W 0 sp held m 3 [c0] = some y0 := by simpa [Value.cells, cellsOf3, cellsOf141, cellsOf23, cellsOf24, cellsOf40] using hg 0 _ rfl
  have g1 : DataW.trod enc Try.prog W 0 sp held m 3 [c1] = some y1 := by simpa [Value.cells, cellsOf3, cellsOf141, cellsOf23, cellsOf24, cellsOf40] using hg 1 _ rfl
  have g2 : DataW.trod enc Try.prog W 0 sp held m 3 [c2] = some y2 := by simpa [Value.cells, cellsOf3, cellsOf141, cellsOf23, cellsOf24, cellsOf40] using hg 2 _ rfl
  have g3 : DataW.trod enc Try.prog W 0 sp held m 3 [c3] = some y3 := by simpa [Value.cells, cellsOf3, cellsOf141, cellsOf23, cellsOf24, cellsOf40] using hg 3 _ rfl
  have g4 : DataW.trod enc Try.prog W 0 sp held m 141 [c4] = some y4 := by simpa [Value.cells, cellsOf3, cellsOf141, cellsOf23, cellsOf24, cellsOf40] using hg 4 _ rfl
  obtain ⟨x0, rfl, _⟩ := trod_int3 (v := c0) g0
  obtain ⟨x1, rfl, _⟩ := trod_int3 (v := c1) g1
  obtain ⟨x2, rfl, _⟩ := trod_int3 (v := c2) g2
  obtain ⟨x3, rfl, _⟩ := trod_int3 (v := c3) g3
  obtain ⟨A, c, xs, he, hR, hle, _⟩ := trod_legs (cs := [c4]) g4
  obtain rfl : c4 = .slice A xs.length c := by simpa using he
  exact ⟨⟨x0, x1, x2, x3, xs⟩, ⟨hc 0 (by omega), hc 1 (by omega), hc 2 (by omega), hc 3 (by omega), A, c, hc 4 (by omega), hR⟩, hle⟩
theorem trod_rows {fuel : Nat} {cs : List Value} {x : DataW H × List MemPlace} (h : DataW.trod enc Try.prog W 0 sp held fuel 40 cs = some x) :
    ∃ (A : Option Addr) (c : Nat) (xs : List (List Int)), cs = [.slice A xs.length c] ∧ RdRows W A xs ∧ xs.length ≤ 9223372036854775807 ∧ ∀ (j : Nat) (y : List Int), xs[j]? = some y → y.length ≤ 9223372036854775807 := by
  refine trod_row Try.underlying40 cellsOf23 (by omega) (fun b o n cs y hb hc hl hy => ?_) h
  obtain ⟨c0, rfl⟩ := list1 hl
  obtain ⟨A, c, xs, he, hR, hle, _⟩ := trod_ints hy
  obtain rfl : c0 = .slice A xs.length c := by simpa using he
  exact ⟨xs, ⟨A, c, hc 0 (by omega), hR⟩, hle⟩
set_option maxRecDepth 100000 in
set_option maxHeartbeats 1000000 in
theorem okWide_list {b0 t n : Nat} {v : Value} {fs : Array Field} (ht : Try.prog.underlying t = some (.struct fs)) (hc : Try.prog.cellsOf t = n) (hv : Value.okWide Try.prog W .any b0 t v) : ∃ cs : List Value, v = .agg cs.toArray ∧ cs.length = n := by
  obtain ⟨cs, rfl, hsz⟩ := okWide_struct ht hv
  rw [hc] at hsz
  exact ⟨cs.toList, by simp, by simpa using hsz⟩
set_option maxRecDepth 100000 in
set_option maxHeartbeats 1000000 in
/-- A line among the arguments. -/
theorem open_line {b0 : Nat} {v : Value} {d : DataW H} {p : List MemPlace} (hv : Value.okWide Try.prog W .any b0 26 v) (h : DataW.Trod enc Try.prog W 0 sp held 26 v d p) :
    ∃ l : Line, IsLine W l v ∧ l.tracks.length ≤ 9223372036854775807 ∧ l.trains.length ≤ 9223372036854775807 ∧ ∀ (i : Nat) (t : Train), l.trains[i]? = some t → t.legs.length ≤ 9223372036854775807 := by
  obtain ⟨cs, rfl, hsz⟩ := okWide_list Try.underlying26 cellsOf26 hv
  obtain ⟨c0, c1, c2, rfl⟩ := list3 hsz
  obtain ⟨fuel, hf⟩ := h
  obtain ⟨ys, m, _, _, _, hyl, hg⟩ := DataW.trod_struct Try.underlying26 hf
  obtain ⟨y0, y1, y2, rfl⟩ := list3 (l := ys) hyl
  have g0 : DataW.trod enc Try.prog W 0 sp held m 23 [c0] = some y0 := by simpa [Value.cells, cellsOf3, cellsOf141, cellsOf23, cellsOf24, cellsOf40] using hg 0 _ rfl
  have g1 : DataW.trod enc Try.prog W 0 sp held m 3 [c1] = some y1 := by simpa [Value.cells, cellsOf3, cellsOf141, cellsOf23, cellsOf24, cellsOf40] using hg 1 _ rfl
  have g2 : DataW.trod enc Try.prog W 0 sp held m 24 [c2] = some y2 := by simpa [Value.cells, cellsOf3, cellsOf141, cellsOf23, cellsOf24, cellsOf40] using hg 2 _ rfl
  obtain ⟨A0, k0, x0, h0, R0, l0, _⟩ := trod_ints (cs := [c0]) g0
  obtain ⟨x1, h1, _⟩ := trod_int3 (v := c1) g1
  obtain ⟨A2, k2, x2, h2, R2, l2, m2⟩ := trod_trains (cs := [c2]) g2
  obtain rfl : c0 = .slice A0 x0.length k0 := by simpa using h0
  subst h1
  obtain rfl : c2 = .slice A2 x2.length k2 := by simpa using h2
  exact ⟨⟨x0, x1, x2⟩, ⟨A0, k0, A2, k2, rfl, R0, R2⟩, l0, l2, m2⟩
set_option maxRecDepth 100000 in
set_option maxHeartbeats 1000000 in
/-- A plan among the arguments. -/
theorem open_plan {b0 : Nat} {v : Value} {d : DataW H} {p : List MemPlace} (hv : Value.okWide Try.prog W .any b0 55 v) (h : DataW.Trod enc Try.prog W 0 sp held 55 v d p) :
    ∃ l : List (List Int), IsPlan W l v ∧ l.length ≤ 9223372036854775807 ∧ ∀ (i : Nat) (t : List Int), l[i]? = some t → t.length ≤ 9223372036854775807 := by
  obtain ⟨cs, rfl, hsz⟩ := okWide_list Try.underlying55 cellsOf55 hv
  obtain ⟨c0, rfl⟩ := list1 hsz
  obtain ⟨fuel, hf⟩ := h
  obtain ⟨ys, m, _, _, _, hyl, hg⟩ := DataW.trod_struct Try.underlying55 hf
  obtain ⟨y0, rfl⟩ := list1 (l := ys) hyl
  have g0 : DataW.trod enc Try.prog W 0 sp held m 40 [c0] = some y0 := by simpa [Value.cells, cellsOf3, cellsOf141, cellsOf23, cellsOf24, cellsOf40] using hg 0 _ rfl
  obtain ⟨A0, k0, x0, h0, R0, l0, m0⟩ := trod_rows (cs := [c0]) g0
  obtain rfl : c0 = .slice A0 x0.length k0 := by simpa using h0
  exact ⟨x0, ⟨A0, k0, rfl, R0⟩, l0, m0⟩
end
end Go.Proofs.Ythhkbfjolmgloaa
