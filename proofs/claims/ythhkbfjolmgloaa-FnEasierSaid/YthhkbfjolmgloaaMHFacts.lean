/- Closed facts on the translated program that every row of this seat asks, each proved once by the kernel's reckoning; and joinedFacts put together from its parts. No condition. -/
import Derived.Test.YthhkbfjolmgloaaRows
import Derived.JoinedOf
import Derived.KernelRfl
namespace Go.Proofs.Ythhkbfjolmgloaa
theorem Try.own : ownKnob Try.prog.godebug = none := by kernel_rfl
theorem Fa.laidOut : laidOutB Try.prog = true := by kernel_rfl
theorem Fa.mapsRowed : mapsRowed Try.prog = true := by kernel_rfl
theorem Fa.stops : (Try.prog.stops == []) = true := by kernel_rfl
theorem Fa.stopKnobs : (Try.prog.stopKnobs == []) = true := by kernel_rfl
theorem Fa.plainKeys : (true == Try.prog.plainKeys) = true := by kernel_rfl
theorem Fa.stopsHeard : Try.prog.stopsHeard = true := by kernel_rfl
/-- The signs of the translation's head row, and its words. -/
def Fa.signs : List Char := ([104, 97, 114, 110, 101, 115, 115, 32, 98, 53, 98, 52, 53, 49, 52, 49, 57, 51, 53, 54, 57, 57, 97, 57, 97, 55, 99, 50, 98, 50, 57, 49, 56, 101, 101, 54, 51, 57, 56, 56, 99, 97, 100, 49, 99, 101, 53, 53, 48, 100, 53, 99, 50, 49, 51, 97, 51, 101, 101, 98, 52, 101, 48, 56, 48, 49, 53, 48, 52, 48, 53, 52, 32, 99, 117, 116, 32, 97, 116, 32, 108, 111, 111, 112, 46, 101, 120, 97, 109, 112, 108, 101, 47, 115, 116, 114, 105, 110, 103, 108, 105, 110, 101, 47, 108, 97, 119, 115, 46, 70, 110, 69, 120, 97, 99, 116, 67, 111, 110, 115, 116, 97, 110, 116, 115, 32, 108, 111, 111, 112, 46, 101, 120, 97, 109, 112, 108, 101, 47, 115, 116, 114, 105, 110, 103, 108, 105, 110, 101, 47, 108, 97, 119, 115, 46, 70, 110, 69, 120, 97, 99, 116, 76, 105, 110, 101, 79, 107, 32, 108, 111, 111, 112, 46, 101, 120, 97, 109, 112, 108, 101, 47, 115, 116, 114, 105, 110, 103, 108, 105, 110, 101, 47, 108, 97, 119, 115, 46, 70, 110, 84, 111, 112, 32, 108, 111, 111, 112, 46, 101, 120, 97, 109, 112, 108, 101, 47, 115, 116, 114, 105, 110, 103, 108, 105, 110, 101, 47, 108, 97, 119, 115, 46, 70, 110, 69, 120, 97, 99, 116, 65, 108, 111, 110, 101, 32, 108, 111, 111, 112, 46, 101, 120, 97, 109, 112, 108, 101, 47, 115, 116, 114, 105, 110, 103, 108, 105, 110, 101, 47, 108, 97, 119, 115, 46, 70, 110, 69, 120, 97, 99, 116, 76, 101, 97, 115, 116, 32, 108, 111, 111, 112, 46, 101, 120, 97, 109, 112, 108, 101, 47, 115, 116, 114, 105, 110, 103, 108, 105, 110, 101, 47, 108, 97, 119, 115, 46, 70, 110, 69, 120, 97, 99, 116, 65, 114, 114, 105, 118, 101, 115, 32, 108, 111, 111, 112, 46, 101, 120, 97, 109, 112, 108, 101, 47, 115, 116, 114, 105, 110, 103, 108, 105, 110, 101, 47, 108, 97, 119, 115, 46, 70, 110, 69, 120, 97, 99, 116, 67, 104, 101, 99, 107, 32, 108, 111, 111, 112, 46, 101, 120, 97, 109, 112, 108, 101, 47, 115, 116, 114, 105, 110, 103, 108, 105, 110, 101, 47, 108, 97, 119, 115, 46, 70, 110, 69, 120, 97, 99, 116, 67, 111, 115, 116, 32, 108, 111, 111, 112, 46, 101, 120, 97, 109, 112, 108, 101, 47, 115, 116, 114, 105, 110, 103, 108, 105, 110, 101, 47, 108, 97, 119, 115, 46, 70, 110, 69, 120, 97, 99, 116, 77, 101, 101, 116, 115, 32, 108, 111, 111, 112, 46, 101, 120, 97, 109, 112, 108, 101, 47, 115, 116, 114, 105, 110, 103, 108, 105, 110, 101, 47, 108, 97, 119, 115, 46, 70, 110, 69, 120, 97, 99, 116, 79, 114, 100, 101, 114, 32, 108, 111, 111, 112, 46, 101, 120, 97, 109, 112, 108, 101, 47, 115, 116, 114, 105, 110, 103, 108, 105, 110, 101, 47, 108, 97, 119, 115, 46, 70, 110, 80, 108, 97, 99, 101, 32, 108, 111, 111, 112, 46, 101, 120, 97, 109, 112, 108, 101, 47, 115, 116, 114, 105, 110, 103, 108, 105, 110, 101, 47, 108, 97, 119, 115, 46, 70, 110, 69, 97, 115, 105, 101, 114, 32, 108, 111, 111, 112, 46, 101, 120, 97, 109, 112, 108, 101, 47, 115, 116, 114, 105, 110, 103, 108, 105, 110, 101, 47, 108, 97, 119, 115, 46, 70, 110, 76, 97, 116, 101, 114, 32, 108, 111, 111, 112, 46, 101, 120, 97, 109, 112, 108, 101, 47, 115, 116, 114, 105, 110, 103, 108, 105, 110, 101, 47, 108, 97, 119, 115, 46, 70, 110, 69, 120, 97, 99, 116, 80, 108, 97, 99, 101, 32, 108, 111, 111, 112, 46, 101, 120, 97, 109, 112, 108, 101, 47, 115, 116, 114, 105, 110, 103, 108, 105, 110, 101, 47, 108, 97, 119, 115, 46, 70, 110, 66, 101, 115, 116, 32, 108, 111, 111, 112, 46, 101, 120, 97, 109, 112, 108, 101, 47, 115, 116, 114, 105, 110, 103, 108, 105, 110, 101, 47, 108, 97, 119, 115, 46, 70, 110, 69, 120, 97, 99, 116, 83, 111, 108, 118, 101, 32, 108, 111, 111, 112, 46, 101, 120, 97, 109, 112, 108, 101, 47, 115, 116, 114, 105, 110, 103, 108, 105, 110, 101, 47, 108, 97, 119, 115, 46, 70, 110, 83, 111, 111, 110, 101, 114, 32, 108, 111, 111, 112, 46, 101, 120, 97, 109, 112, 108, 101, 47, 115, 116, 114, 105, 110, 103, 108, 105, 110, 101, 47, 108, 97, 119, 115, 46, 70, 110, 77, 101, 101, 116, 115] : List Nat).map Char.ofNat
theorem Fa.order_signs : Try.prog.initOrder = String.ofList Fa.signs := by kernel_rfl
theorem Fa.order_list : Try.prog.initOrder.toList = Fa.signs := by rw [Fa.order_signs, String.toList_ofList]
def Fa.words : List (List Char) := behindMainWord (wordsSigns Fa.signs)
theorem Fa.order_words : behindMainWord (wordsSigns Try.prog.initOrder.toList) = Fa.words := by
  unfold Fa.words
  rw [Fa.order_list]
theorem Fa.strip : (stripLifts liftWords Fa.words) = ([], Fa.words) := by kernel_rfl
theorem Fa.head : Fa.words.head? = some "cut".toList := by kernel_rfl
theorem Fa.headLifts : Try.prog.headLifts = [] := by
  unfold Program.headLifts
  simp only [Fa.order_words, Fa.strip, ite_self]
theorem Fa.later : Try.prog.laysLater = false := by kernel_rfl
theorem Fa.reflect : Try.prog.bearsReflect = false := by kernel_rfl
theorem Fa.door : Try.prog.doorFits [] = true := by kernel_rfl
def Fa.mayFrom (P : Program) : List (List Char) → Bool
  | c :: rest =>
    ((c == "gc".toList || c == "spec".toList) && (rest.isEmpty || rest.head? == some "stop".toList)) ||
    (c == "carried".toList && rest.take 2 == ["gc".toList, "cut".toList] && !P.laysLater && !P.bearsReflect) ||
    ((stripLifts liftWords (c :: rest)).2.head? == some "cut".toList &&
      ((stripLifts liftWords (c :: rest)).1.contains "finals" || !P.laysLater) && ((stripLifts liftWords (c :: rest)).1.contains "reflectrows" || !P.bearsReflect) &&
      ((stripLifts liftWords (c :: rest)).1.contains "reflectrows" || !(stripLifts liftWords (c :: rest)).1.contains "leanrows") &&
      P.doorFits (stripLifts liftWords (c :: rest)).1)
  | [] => false
theorem Fa.mayEnter_of {P : Program} {ws : List (List Char)} (h : behindMainWord (wordsSigns P.initOrder.toList) = ws) : P.mayEnter = Fa.mayFrom P ws := by
  unfold Program.mayEnter
  rw [h]
  cases ws <;> rfl
theorem Fa.mayEnter : Try.prog.mayEnter = true := by
  rw [Fa.mayEnter_of Fa.order_words]
  generalize hw : Fa.words = ws
  have h1 := Fa.strip
  have h2 := Fa.head
  rw [hw] at h1 h2
  cases ws with
  | nil => cases h2
  | cons c rest =>
    simp only [Fa.mayFrom, h1, h2, Fa.later, Fa.reflect, Fa.door]
    simp
def Fa.liftFrom (P : Program) (ws : List (List Char)) : Bool :=
  (ws.head? == some "carried".toList && ws.take 3 != ["carried".toList, "gc".toList, "cut".toList]) || P.headLifts.contains "finals"
theorem Fa.lift_of {P : Program} {ws : List (List Char)} (h : behindMainWord (wordsSigns P.initOrder.toList) = ws) : P.liftsFinal = Fa.liftFrom P ws := by
  subst h
  rfl
theorem Fa.carried : (Fa.words.head? == some "carried".toList) = false := by kernel_rfl
theorem Fa.lifted : (false == Try.prog.liftsFinal) = true := by
  rw [Fa.lift_of Fa.order_words]
  unfold Fa.liftFrom
  rw [Fa.carried, Fa.headLifts]
  rfl
def Fa.makeFrom (P : Program) : List (List Char) → Option Make
  | c :: rest => if c == "gc".toList || c == "spec".toList then some .whole else if c == "cut".toList || (c == "finals".toList && rest.head? == some "cut".toList) then some .cut else if c == "carried".toList then some .carried else if P.headLifts.isEmpty then none else some (.lifted P.headLifts)
  | [] => none
theorem Fa.make_of {P : Program} {ws : List (List Char)} (h : behindMainWord (wordsSigns P.initOrder.toList) = ws) : P.make = Fa.makeFrom P ws := by
  unfold Program.make
  rw [h]
  cases ws <;> rfl
theorem Fa.make : (Try.prog.make == some Make.cut) = true := by
  rw [Fa.make_of Fa.order_words]
  kernel_rfl

/-- joinedFacts, from its parts. -/
theorem joined_of {P : Program} {f : FuncId} {fn : Func} {s : ChangeSpec} {c : OpenClaim}
    (h1 : c.wf (OpenSpec.ofChange s) = true) (h2 : laidOutB P = true) (h3 : mapsRowed P = true)
    (h4 : (fn.params.all (P.readableRec ·) && namedTie P c.named s.vars && (c.stops == [])) = true) (h7 : (P.stops == []) = true) (h8 : (c.knobs == []) = true) (h9 : (P.stopKnobs == []) = true)
    (h10 : (c.inPlace == P.inPlace f) = true) (h11 : (c.unfollowed == P.unfollowed f) = true) (h12 : (c.recurses == P.recurses f) = true) (h13 : (c.named == P.varsNamed f) = true)
    (h14 : ((c.maps == (fn.params.toList ++ s.plain.varTypes P).any (P.mapsRec ·)) && (c.ifaces == (fn.params.toList ++ s.plain.varTypes P).any (P.ifacesRec ·)) && (c.mapsOut == P.mapsAmong fn.resultTypes.toList) &&
  (c.loops == (fn.params.toList ++ s.plain.varTypes P).any (P.loopsFrom ·)) && (c.wideKeys == (fn.params.toList ++ s.plain.varTypes P ++ fn.resultTypes.toList).any (P.wideKeysFrom ·)) &&
  s.vars.all (P.varReadable ·) && fn.resultTypes.all (fun t => P.readableRec t && decide (t < P.types.size)) && (c.ifacesOut == fn.resultTypes.toList.any (P.ifacesRec ·)) && (c.loopsOut == fn.resultTypes.toList.any (P.loopsFrom ·))) = true)
    (h20 : (c.plainKeys == P.plainKeys) = true) (h21 : c.shortTexts.isNone = true) (h22 : P.stopsHeard = true) (h23 : P.mayEnter = true) (h24 : (c.lifted == P.liftsFinal) = true) (h25 : (P.make == some c.make) = true)
    (h26 : ((c.kinds == (if c.domain.isEmpty then [] else fn.params.toList.map fun t => match P.underlying t with | some (.int k) => some k | _ => none)) && (c.pinned == c.pinnedBy) &&
  (c.veiled == (fn.params.toList ++ s.plain.varTypes P ++ fn.resultTypes.toList).any (P.veiledRec ·)) && c.veiledFits P fn.params.toList (fn.params.toList ++ s.plain.varTypes P ++ fn.resultTypes.toList)) = true) : joinedFacts P f fn s c = true := by
  simp only [Bool.and_eq_true] at h4 h14 h26
  obtain ⟨⟨h4, h5⟩, h6⟩ := h4
  obtain ⟨⟨⟨⟨⟨⟨⟨⟨p1, p2⟩, p3⟩, p4⟩, p5⟩, p6⟩, p7⟩, p8⟩, p9⟩ := h14
  obtain ⟨⟨⟨q1, q2⟩, q3⟩, q4⟩ := h26
  unfold joinedFacts
  repeat' (first | assumption | (refine Bool.and_eq_true_iff.2 ⟨?_, ?_⟩))
end Go.Proofs.Ythhkbfjolmgloaa
