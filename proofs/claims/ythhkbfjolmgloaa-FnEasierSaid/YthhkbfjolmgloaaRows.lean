/-
  No cell of these rows narrows 'for every input' (looked for: loops, veiled, ifaces, maps, wideKeys, modest, calm, conditions, laid).
  DERIVED. THE GIVEN ROWS OF THIS SEAT. 18 by the template 'for every input the law returns true; each argument reads behind the call as it read before'; 0 by the template 'total and deterministic' (their statements: YthhkbfjolmgloaaTotals.lean).
  GIVEN WITH THE SEED: the statements are not yours to turn. If you find one false, say at which input.
  Laid BY PROGRAM, IN A SANDBOX (cutbox-rows.mjs): the forced cells as the released guide's own fill.sh prints them over the translation b5346c8866b7e113… (all of the seat's roots in one cut). By AI agents, Wed Nov 11 2026. No macro, syntax, notation, axiom, sorry.
-/
import Derived.Test.YthhkbfjolmgloaaChecked
import GoSem.Claim
import GoSem.ClaimJoined
import GoSem.ClaimMapViews
import Derived.JoinedTies
import Derived.KernelRfl
namespace Go.Proofs.Ythhkbfjolmgloaa
/- THE CELL 'sum', in the pinned program and in every row, IS THE sha256 OF THE DUMP (.gsa) THAT YthhkbfjolmgloaaProg.lean LOADS. Nothing in Lean hashes anything: it is a label: what it is worth is what the hold of that sum in a sandbox is worth. -/
noncomputable def Try.pinned : Pinned := { name := "ythhkbfjolmgloaa", sum := "b5346c8866b7e113647ecc790f5f2a57ed7e174bc4041a00168cb2b30064ff05", checked := Try.checked }
namespace Rows
def none {H : Type} : Left H := { results := [], args := [] }

/-- 'laws.FnExactConstants': WHATEVER THE INPUT: true; the input reads as it did. -/
def fnExactConstantsSpec : ChangeSpec := { name := "fnExactConstants", fn := fun _ => fun
  | [] => { results := [.lit (.bool true)], args := [] }
  | _ => none }
def fnExactConstantsRow : OpenClaim := { program := "ythhkbfjolmgloaa", sum := "b5346c8866b7e113647ecc790f5f2a57ed7e174bc4041a00168cb2b30064ff05", func := "loop.example/stringline/laws.FnExactConstants", spec := "fnExactConstants", apart := false }
def FnExactConstantsSaid : Prop := fnExactConstantsRow.holds Try.pinned (OpenSpec.ofChange fnExactConstantsSpec)

/-- ITS FALSE NEIGHBOUR: 'it returns false'. Refute it at one input. -/
def fnExactConstantsWrong : ChangeSpec := { name := "fnExactConstants", fn := fun _ => fun
  | [] => { results := [.lit (.bool false)], args := [] }
  | _ => none }
def FnExactConstantsWrongFalsely : Prop := fnExactConstantsRow.holds Try.pinned (OpenSpec.ofChange fnExactConstantsWrong)

/-- 'laws.FnExactLineOk': WHATEVER THE INPUT: true; the input reads as it did. -/
def fnExactLineOkSpec : ChangeSpec := { name := "fnExactLineOk", fn := fun _ => fun
  | [d] => { results := [.lit (.bool true)], args := [d] }
  | _ => none }
def fnExactLineOkRow : OpenClaim := { program := "ythhkbfjolmgloaa", sum := "b5346c8866b7e113647ecc790f5f2a57ed7e174bc4041a00168cb2b30064ff05", func := "loop.example/stringline/laws.FnExactLineOk", spec := "fnExactLineOk", apart := false }
def FnExactLineOkSaid : Prop := fnExactLineOkRow.holds Try.pinned (OpenSpec.ofChange fnExactLineOkSpec)

/-- ITS FALSE NEIGHBOUR: 'it returns false'. Refute it at one input. -/
def fnExactLineOkWrong : ChangeSpec := { name := "fnExactLineOk", fn := fun _ => fun
  | [d] => { results := [.lit (.bool false)], args := [d] }
  | _ => none }
def FnExactLineOkWrongFalsely : Prop := fnExactLineOkRow.holds Try.pinned (OpenSpec.ofChange fnExactLineOkWrong)

/-- 'laws.FnTop': WHATEVER THE INPUT: true; the input reads as it did. -/
def fnTopSpec : ChangeSpec := { name := "fnTop", fn := fun _ => fun
  | [d] => { results := [.lit (.bool true)], args := [d] }
  | _ => none }
def fnTopRow : OpenClaim := { program := "ythhkbfjolmgloaa", sum := "b5346c8866b7e113647ecc790f5f2a57ed7e174bc4041a00168cb2b30064ff05", func := "loop.example/stringline/laws.FnTop", spec := "fnTop", unfollowed := true, recurses := true, apart := false }
def FnTopSaid : Prop := fnTopRow.holds Try.pinned (OpenSpec.ofChange fnTopSpec)

/-- ITS FALSE NEIGHBOUR: 'it returns false'. Refute it at one input. -/
def fnTopWrong : ChangeSpec := { name := "fnTop", fn := fun _ => fun
  | [d] => { results := [.lit (.bool false)], args := [d] }
  | _ => none }
def FnTopWrongFalsely : Prop := fnTopRow.holds Try.pinned (OpenSpec.ofChange fnTopWrong)

/-- 'laws.FnExactAlone': WHATEVER THE INPUT: true; the input reads as it did. -/
def fnExactAloneSpec : ChangeSpec := { name := "fnExactAlone", fn := fun _ => fun
  | [d1, d2] => { results := [.lit (.bool true)], args := [d1, d2] }
  | _ => none }
def fnExactAloneRow : OpenClaim := { program := "ythhkbfjolmgloaa", sum := "b5346c8866b7e113647ecc790f5f2a57ed7e174bc4041a00168cb2b30064ff05", func := "loop.example/stringline/laws.FnExactAlone", spec := "fnExactAlone", apart := false }
def FnExactAloneSaid : Prop := fnExactAloneRow.holds Try.pinned (OpenSpec.ofChange fnExactAloneSpec)

/-- ITS FALSE NEIGHBOUR: 'it returns false'. Refute it at one input. -/
def fnExactAloneWrong : ChangeSpec := { name := "fnExactAlone", fn := fun _ => fun
  | [d1, d2] => { results := [.lit (.bool false)], args := [d1, d2] }
  | _ => none }
def FnExactAloneWrongFalsely : Prop := fnExactAloneRow.holds Try.pinned (OpenSpec.ofChange fnExactAloneWrong)

/-- 'laws.FnExactLeast': WHATEVER THE INPUT: true; the input reads as it did. -/
def fnExactLeastSpec : ChangeSpec := { name := "fnExactLeast", fn := fun _ => fun
  | [d] => { results := [.lit (.bool true)], args := [d] }
  | _ => none }
def fnExactLeastRow : OpenClaim := { program := "ythhkbfjolmgloaa", sum := "b5346c8866b7e113647ecc790f5f2a57ed7e174bc4041a00168cb2b30064ff05", func := "loop.example/stringline/laws.FnExactLeast", spec := "fnExactLeast", apart := false }
def FnExactLeastSaid : Prop := fnExactLeastRow.holds Try.pinned (OpenSpec.ofChange fnExactLeastSpec)

/-- ITS FALSE NEIGHBOUR: 'it returns false'. Refute it at one input. -/
def fnExactLeastWrong : ChangeSpec := { name := "fnExactLeast", fn := fun _ => fun
  | [d] => { results := [.lit (.bool false)], args := [d] }
  | _ => none }
def FnExactLeastWrongFalsely : Prop := fnExactLeastRow.holds Try.pinned (OpenSpec.ofChange fnExactLeastWrong)

/-- 'laws.FnExactArrives': WHATEVER THE INPUT: true; the input reads as it did. -/
def fnExactArrivesSpec : ChangeSpec := { name := "fnExactArrives", fn := fun _ => fun
  | [d1, d2, d3] => { results := [.lit (.bool true)], args := [d1, d2, d3] }
  | _ => none }
def fnExactArrivesRow : OpenClaim := { program := "ythhkbfjolmgloaa", sum := "b5346c8866b7e113647ecc790f5f2a57ed7e174bc4041a00168cb2b30064ff05", func := "loop.example/stringline/laws.FnExactArrives", spec := "fnExactArrives", apart := false }
def FnExactArrivesSaid : Prop := fnExactArrivesRow.holds Try.pinned (OpenSpec.ofChange fnExactArrivesSpec)

/-- ITS FALSE NEIGHBOUR: 'it returns false'. Refute it at one input. -/
def fnExactArrivesWrong : ChangeSpec := { name := "fnExactArrives", fn := fun _ => fun
  | [d1, d2, d3] => { results := [.lit (.bool false)], args := [d1, d2, d3] }
  | _ => none }
def FnExactArrivesWrongFalsely : Prop := fnExactArrivesRow.holds Try.pinned (OpenSpec.ofChange fnExactArrivesWrong)

/-- 'laws.FnExactCheck': WHATEVER THE INPUT: true; the input reads as it did. -/
def fnExactCheckSpec : ChangeSpec := { name := "fnExactCheck", fn := fun _ => fun
  | [d1, d2] => { results := [.lit (.bool true)], args := [d1, d2] }
  | _ => none }
def fnExactCheckRow : OpenClaim := { program := "ythhkbfjolmgloaa", sum := "b5346c8866b7e113647ecc790f5f2a57ed7e174bc4041a00168cb2b30064ff05", func := "loop.example/stringline/laws.FnExactCheck", spec := "fnExactCheck", unfollowed := true, recurses := true, apart := false }
def FnExactCheckSaid : Prop := fnExactCheckRow.holds Try.pinned (OpenSpec.ofChange fnExactCheckSpec)

/-- ITS FALSE NEIGHBOUR: 'it returns false'. Refute it at one input. -/
def fnExactCheckWrong : ChangeSpec := { name := "fnExactCheck", fn := fun _ => fun
  | [d1, d2] => { results := [.lit (.bool false)], args := [d1, d2] }
  | _ => none }
def FnExactCheckWrongFalsely : Prop := fnExactCheckRow.holds Try.pinned (OpenSpec.ofChange fnExactCheckWrong)

/-- 'laws.FnExactCost': WHATEVER THE INPUT: true; the input reads as it did. -/
def fnExactCostSpec : ChangeSpec := { name := "fnExactCost", fn := fun _ => fun
  | [d1, d2] => { results := [.lit (.bool true)], args := [d1, d2] }
  | _ => none }
def fnExactCostRow : OpenClaim := { program := "ythhkbfjolmgloaa", sum := "b5346c8866b7e113647ecc790f5f2a57ed7e174bc4041a00168cb2b30064ff05", func := "loop.example/stringline/laws.FnExactCost", spec := "fnExactCost", unfollowed := true, recurses := true, apart := false }
def FnExactCostSaid : Prop := fnExactCostRow.holds Try.pinned (OpenSpec.ofChange fnExactCostSpec)

/-- ITS FALSE NEIGHBOUR: 'it returns false'. Refute it at one input. -/
def fnExactCostWrong : ChangeSpec := { name := "fnExactCost", fn := fun _ => fun
  | [d1, d2] => { results := [.lit (.bool false)], args := [d1, d2] }
  | _ => none }
def FnExactCostWrongFalsely : Prop := fnExactCostRow.holds Try.pinned (OpenSpec.ofChange fnExactCostWrong)

/-- 'laws.FnExactMeets': WHATEVER THE INPUT: true; the input reads as it did. -/
def fnExactMeetsSpec : ChangeSpec := { name := "fnExactMeets", fn := fun _ => fun
  | [d1, d2] => { results := [.lit (.bool true)], args := [d1, d2] }
  | _ => none }
def fnExactMeetsRow : OpenClaim := { program := "ythhkbfjolmgloaa", sum := "b5346c8866b7e113647ecc790f5f2a57ed7e174bc4041a00168cb2b30064ff05", func := "loop.example/stringline/laws.FnExactMeets", spec := "fnExactMeets", unfollowed := true, recurses := true, apart := false }
def FnExactMeetsSaid : Prop := fnExactMeetsRow.holds Try.pinned (OpenSpec.ofChange fnExactMeetsSpec)

/-- ITS FALSE NEIGHBOUR: 'it returns false'. Refute it at one input. -/
def fnExactMeetsWrong : ChangeSpec := { name := "fnExactMeets", fn := fun _ => fun
  | [d1, d2] => { results := [.lit (.bool false)], args := [d1, d2] }
  | _ => none }
def FnExactMeetsWrongFalsely : Prop := fnExactMeetsRow.holds Try.pinned (OpenSpec.ofChange fnExactMeetsWrong)

/-- 'laws.FnExactOrder': WHATEVER THE INPUT: true; the input reads as it did. -/
def fnExactOrderSpec : ChangeSpec := { name := "fnExactOrder", fn := fun _ => fun
  | [d1, d2] => { results := [.lit (.bool true)], args := [d1, d2] }
  | _ => none }
def fnExactOrderRow : OpenClaim := { program := "ythhkbfjolmgloaa", sum := "b5346c8866b7e113647ecc790f5f2a57ed7e174bc4041a00168cb2b30064ff05", func := "loop.example/stringline/laws.FnExactOrder", spec := "fnExactOrder", unfollowed := true, recurses := true, apart := false }
def FnExactOrderSaid : Prop := fnExactOrderRow.holds Try.pinned (OpenSpec.ofChange fnExactOrderSpec)

/-- ITS FALSE NEIGHBOUR: 'it returns false'. Refute it at one input. -/
def fnExactOrderWrong : ChangeSpec := { name := "fnExactOrder", fn := fun _ => fun
  | [d1, d2] => { results := [.lit (.bool false)], args := [d1, d2] }
  | _ => none }
def FnExactOrderWrongFalsely : Prop := fnExactOrderRow.holds Try.pinned (OpenSpec.ofChange fnExactOrderWrong)

/-- 'laws.FnPlace': WHATEVER THE INPUT: true; the input reads as it did. -/
def fnPlaceSpec : ChangeSpec := { name := "fnPlace", fn := fun _ => fun
  | [d1, d2] => { results := [.lit (.bool true)], args := [d1, d2] }
  | _ => none }
def fnPlaceRow : OpenClaim := { program := "ythhkbfjolmgloaa", sum := "b5346c8866b7e113647ecc790f5f2a57ed7e174bc4041a00168cb2b30064ff05", func := "loop.example/stringline/laws.FnPlace", spec := "fnPlace", unfollowed := true, recurses := true, apart := false }
def FnPlaceSaid : Prop := fnPlaceRow.holds Try.pinned (OpenSpec.ofChange fnPlaceSpec)

/-- ITS FALSE NEIGHBOUR: 'it returns false'. Refute it at one input. -/
def fnPlaceWrong : ChangeSpec := { name := "fnPlace", fn := fun _ => fun
  | [d1, d2] => { results := [.lit (.bool false)], args := [d1, d2] }
  | _ => none }
def FnPlaceWrongFalsely : Prop := fnPlaceRow.holds Try.pinned (OpenSpec.ofChange fnPlaceWrong)

/-- 'laws.FnEasier': WHATEVER THE INPUT: true; the input reads as it did. -/
def fnEasierSpec : ChangeSpec := { name := "fnEasier", fn := fun _ => fun
  | [d1, d2] => { results := [.lit (.bool true)], args := [d1, d2] }
  | _ => none }
def fnEasierRow : OpenClaim := { program := "ythhkbfjolmgloaa", sum := "b5346c8866b7e113647ecc790f5f2a57ed7e174bc4041a00168cb2b30064ff05", func := "loop.example/stringline/laws.FnEasier", spec := "fnEasier", unfollowed := true, recurses := true, apart := false }
def FnEasierSaid : Prop := fnEasierRow.holds Try.pinned (OpenSpec.ofChange fnEasierSpec)

/-- ITS FALSE NEIGHBOUR: 'it returns false'. Refute it at one input. -/
def fnEasierWrong : ChangeSpec := { name := "fnEasier", fn := fun _ => fun
  | [d1, d2] => { results := [.lit (.bool false)], args := [d1, d2] }
  | _ => none }
def FnEasierWrongFalsely : Prop := fnEasierRow.holds Try.pinned (OpenSpec.ofChange fnEasierWrong)

/-- 'laws.FnLater': WHATEVER THE INPUT: true; the input reads as it did. -/
def fnLaterSpec : ChangeSpec := { name := "fnLater", fn := fun _ => fun
  | [d] => { results := [.lit (.bool true)], args := [d] }
  | _ => none }
def fnLaterRow : OpenClaim := { program := "ythhkbfjolmgloaa", sum := "b5346c8866b7e113647ecc790f5f2a57ed7e174bc4041a00168cb2b30064ff05", func := "loop.example/stringline/laws.FnLater", spec := "fnLater", unfollowed := true, recurses := true, apart := false }
def FnLaterSaid : Prop := fnLaterRow.holds Try.pinned (OpenSpec.ofChange fnLaterSpec)

/-- ITS FALSE NEIGHBOUR: 'it returns false'. Refute it at one input. -/
def fnLaterWrong : ChangeSpec := { name := "fnLater", fn := fun _ => fun
  | [d] => { results := [.lit (.bool false)], args := [d] }
  | _ => none }
def FnLaterWrongFalsely : Prop := fnLaterRow.holds Try.pinned (OpenSpec.ofChange fnLaterWrong)

/-- 'laws.FnExactPlace': WHATEVER THE INPUT: true; the input reads as it did. -/
def fnExactPlaceSpec : ChangeSpec := { name := "fnExactPlace", fn := fun _ => fun
  | [d1, d2] => { results := [.lit (.bool true)], args := [d1, d2] }
  | _ => none }
def fnExactPlaceRow : OpenClaim := { program := "ythhkbfjolmgloaa", sum := "b5346c8866b7e113647ecc790f5f2a57ed7e174bc4041a00168cb2b30064ff05", func := "loop.example/stringline/laws.FnExactPlace", spec := "fnExactPlace", recurses := true, apart := false }
def FnExactPlaceSaid : Prop := fnExactPlaceRow.holds Try.pinned (OpenSpec.ofChange fnExactPlaceSpec)

/-- ITS FALSE NEIGHBOUR: 'it returns false'. Refute it at one input. -/
def fnExactPlaceWrong : ChangeSpec := { name := "fnExactPlace", fn := fun _ => fun
  | [d1, d2] => { results := [.lit (.bool false)], args := [d1, d2] }
  | _ => none }
def FnExactPlaceWrongFalsely : Prop := fnExactPlaceRow.holds Try.pinned (OpenSpec.ofChange fnExactPlaceWrong)

/-- 'laws.FnBest': WHATEVER THE INPUT: true; the input reads as it did. -/
def fnBestSpec : ChangeSpec := { name := "fnBest", fn := fun _ => fun
  | [d1, d2] => { results := [.lit (.bool true)], args := [d1, d2] }
  | _ => none }
def fnBestRow : OpenClaim := { program := "ythhkbfjolmgloaa", sum := "b5346c8866b7e113647ecc790f5f2a57ed7e174bc4041a00168cb2b30064ff05", func := "loop.example/stringline/laws.FnBest", spec := "fnBest", unfollowed := true, recurses := true, apart := false }
def FnBestSaid : Prop := fnBestRow.holds Try.pinned (OpenSpec.ofChange fnBestSpec)

/-- ITS FALSE NEIGHBOUR: 'it returns false'. Refute it at one input. -/
def fnBestWrong : ChangeSpec := { name := "fnBest", fn := fun _ => fun
  | [d1, d2] => { results := [.lit (.bool false)], args := [d1, d2] }
  | _ => none }
def FnBestWrongFalsely : Prop := fnBestRow.holds Try.pinned (OpenSpec.ofChange fnBestWrong)

/-- 'laws.FnExactSolve': WHATEVER THE INPUT: true; the input reads as it did. -/
def fnExactSolveSpec : ChangeSpec := { name := "fnExactSolve", fn := fun _ => fun
  | [d] => { results := [.lit (.bool true)], args := [d] }
  | _ => none }
def fnExactSolveRow : OpenClaim := { program := "ythhkbfjolmgloaa", sum := "b5346c8866b7e113647ecc790f5f2a57ed7e174bc4041a00168cb2b30064ff05", func := "loop.example/stringline/laws.FnExactSolve", spec := "fnExactSolve", unfollowed := true, recurses := true, apart := false }
def FnExactSolveSaid : Prop := fnExactSolveRow.holds Try.pinned (OpenSpec.ofChange fnExactSolveSpec)

/-- ITS FALSE NEIGHBOUR: 'it returns false'. Refute it at one input. -/
def fnExactSolveWrong : ChangeSpec := { name := "fnExactSolve", fn := fun _ => fun
  | [d] => { results := [.lit (.bool false)], args := [d] }
  | _ => none }
def FnExactSolveWrongFalsely : Prop := fnExactSolveRow.holds Try.pinned (OpenSpec.ofChange fnExactSolveWrong)

/-- 'laws.FnSooner': WHATEVER THE INPUT: true; the input reads as it did. -/
def fnSoonerSpec : ChangeSpec := { name := "fnSooner", fn := fun _ => fun
  | [d1, d2] => { results := [.lit (.bool true)], args := [d1, d2] }
  | _ => none }
def fnSoonerRow : OpenClaim := { program := "ythhkbfjolmgloaa", sum := "b5346c8866b7e113647ecc790f5f2a57ed7e174bc4041a00168cb2b30064ff05", func := "loop.example/stringline/laws.FnSooner", spec := "fnSooner", unfollowed := true, recurses := true, apart := false }
def FnSoonerSaid : Prop := fnSoonerRow.holds Try.pinned (OpenSpec.ofChange fnSoonerSpec)

/-- ITS FALSE NEIGHBOUR: 'it returns false'. Refute it at one input. -/
def fnSoonerWrong : ChangeSpec := { name := "fnSooner", fn := fun _ => fun
  | [d1, d2] => { results := [.lit (.bool false)], args := [d1, d2] }
  | _ => none }
def FnSoonerWrongFalsely : Prop := fnSoonerRow.holds Try.pinned (OpenSpec.ofChange fnSoonerWrong)

/-- 'laws.FnMeets': WHATEVER THE INPUT: true; the input reads as it did. -/
def fnMeetsSpec : ChangeSpec := { name := "fnMeets", fn := fun _ => fun
  | [d1, d2] => { results := [.lit (.bool true)], args := [d1, d2] }
  | _ => none }
def fnMeetsRow : OpenClaim := { program := "ythhkbfjolmgloaa", sum := "b5346c8866b7e113647ecc790f5f2a57ed7e174bc4041a00168cb2b30064ff05", func := "loop.example/stringline/laws.FnMeets", spec := "fnMeets", unfollowed := true, recurses := true, apart := false }
def FnMeetsSaid : Prop := fnMeetsRow.holds Try.pinned (OpenSpec.ofChange fnMeetsSpec)

/-- ITS FALSE NEIGHBOUR: 'it returns false'. Refute it at one input. -/
def fnMeetsWrong : ChangeSpec := { name := "fnMeets", fn := fun _ => fun
  | [d1, d2] => { results := [.lit (.bool false)], args := [d1, d2] }
  | _ => none }
def FnMeetsWrongFalsely : Prop := fnMeetsRow.holds Try.pinned (OpenSpec.ofChange fnMeetsWrong)

/- THE SECOND FORM. 'bulk': how many values and letters a reading holds, each counted each time it is reached (what is shared counts as often as it is met; a slice's spare places count too). A statement '..UptoSaid' is the law's where the arguments, and the package variables that the reading takes, are together of bulk at most 1048576: NARROWER than '..Said'. Prove '..Said' where nothing that the law and all that it calls make is longer than what came in: it says more and counts as full. Else prove '..UptoSaid'. A law counts once. -/
mutual
def uptoBulk {H : Type} : DataW H → Nat
  | .lit (.string bytes) => bytes.length + 1
  | .lit _ => 1
  | .nil => 1
  | .ptr d => uptoBulk d + 1
  | .slice elems spare => uptoBulkAll elems + uptoBulkAll spare + 1
  | .agg parts => uptoBulkAll parts + 1
  | .iface _ d => uptoBulk d + 1
  | .map entries => uptoBulkEntries entries + 1
  | .held _ => 1
def uptoBulkAll {H : Type} : List (DataW H) → Nat
  | [] => 0
  | d :: r => uptoBulk d + uptoBulkAll r
def uptoBulkEntries {H : Type} : List (Lit × DataW H) → Nat
  | [] => 0
  | x :: r => uptoBulkEntry x + uptoBulkEntries r
def uptoBulkEntry {H : Type} : Lit × DataW H → Nat
  | (.string bytes, d) => bytes.length + uptoBulk d + 1
  | (_, d) => uptoBulk d + 1
 end
def uptoSmall : (H : Type) → List (DataW H) → Bool := fun _ ds => decide (uptoBulkAll ds ≤ 1048576)
def OpenSpec.upto (s : _root_.Go.ChangeSpec) : _root_.Go.OpenSpec := { _root_.Go.OpenSpec.ofChange s with cond := some uptoSmall }

/-- 'laws.FnExactConstants', WHERE WHAT IT READS IS OF BULK AT MOST 1048576: true; the input reads as it did. -/
def fnExactConstantsUptoRow : OpenClaim := { program := "ythhkbfjolmgloaa", sum := "b5346c8866b7e113647ecc790f5f2a57ed7e174bc4041a00168cb2b30064ff05", func := "loop.example/stringline/laws.FnExactConstants", spec := "fnExactConstants", apart := false, narrowed := true }
def FnExactConstantsUptoSaid : Prop := fnExactConstantsUptoRow.holds Try.pinned (OpenSpec.upto fnExactConstantsSpec)

/-- 'laws.FnExactLineOk', WHERE WHAT IT READS IS OF BULK AT MOST 1048576: true; the input reads as it did. -/
def fnExactLineOkUptoRow : OpenClaim := { program := "ythhkbfjolmgloaa", sum := "b5346c8866b7e113647ecc790f5f2a57ed7e174bc4041a00168cb2b30064ff05", func := "loop.example/stringline/laws.FnExactLineOk", spec := "fnExactLineOk", apart := false, narrowed := true }
def FnExactLineOkUptoSaid : Prop := fnExactLineOkUptoRow.holds Try.pinned (OpenSpec.upto fnExactLineOkSpec)

/-- 'laws.FnTop', WHERE WHAT IT READS IS OF BULK AT MOST 1048576: true; the input reads as it did. -/
def fnTopUptoRow : OpenClaim := { program := "ythhkbfjolmgloaa", sum := "b5346c8866b7e113647ecc790f5f2a57ed7e174bc4041a00168cb2b30064ff05", func := "loop.example/stringline/laws.FnTop", spec := "fnTop", unfollowed := true, recurses := true, apart := false, narrowed := true }
def FnTopUptoSaid : Prop := fnTopUptoRow.holds Try.pinned (OpenSpec.upto fnTopSpec)

/-- 'laws.FnExactAlone', WHERE WHAT IT READS IS OF BULK AT MOST 1048576: true; the input reads as it did. -/
def fnExactAloneUptoRow : OpenClaim := { program := "ythhkbfjolmgloaa", sum := "b5346c8866b7e113647ecc790f5f2a57ed7e174bc4041a00168cb2b30064ff05", func := "loop.example/stringline/laws.FnExactAlone", spec := "fnExactAlone", apart := false, narrowed := true }
def FnExactAloneUptoSaid : Prop := fnExactAloneUptoRow.holds Try.pinned (OpenSpec.upto fnExactAloneSpec)

/-- 'laws.FnExactLeast', WHERE WHAT IT READS IS OF BULK AT MOST 1048576: true; the input reads as it did. -/
def fnExactLeastUptoRow : OpenClaim := { program := "ythhkbfjolmgloaa", sum := "b5346c8866b7e113647ecc790f5f2a57ed7e174bc4041a00168cb2b30064ff05", func := "loop.example/stringline/laws.FnExactLeast", spec := "fnExactLeast", apart := false, narrowed := true }
def FnExactLeastUptoSaid : Prop := fnExactLeastUptoRow.holds Try.pinned (OpenSpec.upto fnExactLeastSpec)

/-- 'laws.FnExactArrives', WHERE WHAT IT READS IS OF BULK AT MOST 1048576: true; the input reads as it did. -/
def fnExactArrivesUptoRow : OpenClaim := { program := "ythhkbfjolmgloaa", sum := "b5346c8866b7e113647ecc790f5f2a57ed7e174bc4041a00168cb2b30064ff05", func := "loop.example/stringline/laws.FnExactArrives", spec := "fnExactArrives", apart := false, narrowed := true }
def FnExactArrivesUptoSaid : Prop := fnExactArrivesUptoRow.holds Try.pinned (OpenSpec.upto fnExactArrivesSpec)

/-- 'laws.FnExactCheck', WHERE WHAT IT READS IS OF BULK AT MOST 1048576: true; the input reads as it did. -/
def fnExactCheckUptoRow : OpenClaim := { program := "ythhkbfjolmgloaa", sum := "b5346c8866b7e113647ecc790f5f2a57ed7e174bc4041a00168cb2b30064ff05", func := "loop.example/stringline/laws.FnExactCheck", spec := "fnExactCheck", unfollowed := true, recurses := true, apart := false, narrowed := true }
def FnExactCheckUptoSaid : Prop := fnExactCheckUptoRow.holds Try.pinned (OpenSpec.upto fnExactCheckSpec)

/-- 'laws.FnExactCost', WHERE WHAT IT READS IS OF BULK AT MOST 1048576: true; the input reads as it did. -/
def fnExactCostUptoRow : OpenClaim := { program := "ythhkbfjolmgloaa", sum := "b5346c8866b7e113647ecc790f5f2a57ed7e174bc4041a00168cb2b30064ff05", func := "loop.example/stringline/laws.FnExactCost", spec := "fnExactCost", unfollowed := true, recurses := true, apart := false, narrowed := true }
def FnExactCostUptoSaid : Prop := fnExactCostUptoRow.holds Try.pinned (OpenSpec.upto fnExactCostSpec)

/-- 'laws.FnExactMeets', WHERE WHAT IT READS IS OF BULK AT MOST 1048576: true; the input reads as it did. -/
def fnExactMeetsUptoRow : OpenClaim := { program := "ythhkbfjolmgloaa", sum := "b5346c8866b7e113647ecc790f5f2a57ed7e174bc4041a00168cb2b30064ff05", func := "loop.example/stringline/laws.FnExactMeets", spec := "fnExactMeets", unfollowed := true, recurses := true, apart := false, narrowed := true }
def FnExactMeetsUptoSaid : Prop := fnExactMeetsUptoRow.holds Try.pinned (OpenSpec.upto fnExactMeetsSpec)

/-- 'laws.FnExactOrder', WHERE WHAT IT READS IS OF BULK AT MOST 1048576: true; the input reads as it did. -/
def fnExactOrderUptoRow : OpenClaim := { program := "ythhkbfjolmgloaa", sum := "b5346c8866b7e113647ecc790f5f2a57ed7e174bc4041a00168cb2b30064ff05", func := "loop.example/stringline/laws.FnExactOrder", spec := "fnExactOrder", unfollowed := true, recurses := true, apart := false, narrowed := true }
def FnExactOrderUptoSaid : Prop := fnExactOrderUptoRow.holds Try.pinned (OpenSpec.upto fnExactOrderSpec)

/-- 'laws.FnPlace', WHERE WHAT IT READS IS OF BULK AT MOST 1048576: true; the input reads as it did. -/
def fnPlaceUptoRow : OpenClaim := { program := "ythhkbfjolmgloaa", sum := "b5346c8866b7e113647ecc790f5f2a57ed7e174bc4041a00168cb2b30064ff05", func := "loop.example/stringline/laws.FnPlace", spec := "fnPlace", unfollowed := true, recurses := true, apart := false, narrowed := true }
def FnPlaceUptoSaid : Prop := fnPlaceUptoRow.holds Try.pinned (OpenSpec.upto fnPlaceSpec)

/-- 'laws.FnEasier', WHERE WHAT IT READS IS OF BULK AT MOST 1048576: true; the input reads as it did. -/
def fnEasierUptoRow : OpenClaim := { program := "ythhkbfjolmgloaa", sum := "b5346c8866b7e113647ecc790f5f2a57ed7e174bc4041a00168cb2b30064ff05", func := "loop.example/stringline/laws.FnEasier", spec := "fnEasier", unfollowed := true, recurses := true, apart := false, narrowed := true }
def FnEasierUptoSaid : Prop := fnEasierUptoRow.holds Try.pinned (OpenSpec.upto fnEasierSpec)

/-- 'laws.FnLater', WHERE WHAT IT READS IS OF BULK AT MOST 1048576: true; the input reads as it did. -/
def fnLaterUptoRow : OpenClaim := { program := "ythhkbfjolmgloaa", sum := "b5346c8866b7e113647ecc790f5f2a57ed7e174bc4041a00168cb2b30064ff05", func := "loop.example/stringline/laws.FnLater", spec := "fnLater", unfollowed := true, recurses := true, apart := false, narrowed := true }
def FnLaterUptoSaid : Prop := fnLaterUptoRow.holds Try.pinned (OpenSpec.upto fnLaterSpec)

/-- 'laws.FnExactPlace', WHERE WHAT IT READS IS OF BULK AT MOST 1048576: true; the input reads as it did. -/
def fnExactPlaceUptoRow : OpenClaim := { program := "ythhkbfjolmgloaa", sum := "b5346c8866b7e113647ecc790f5f2a57ed7e174bc4041a00168cb2b30064ff05", func := "loop.example/stringline/laws.FnExactPlace", spec := "fnExactPlace", recurses := true, apart := false, narrowed := true }
def FnExactPlaceUptoSaid : Prop := fnExactPlaceUptoRow.holds Try.pinned (OpenSpec.upto fnExactPlaceSpec)

/-- 'laws.FnBest', WHERE WHAT IT READS IS OF BULK AT MOST 1048576: true; the input reads as it did. -/
def fnBestUptoRow : OpenClaim := { program := "ythhkbfjolmgloaa", sum := "b5346c8866b7e113647ecc790f5f2a57ed7e174bc4041a00168cb2b30064ff05", func := "loop.example/stringline/laws.FnBest", spec := "fnBest", unfollowed := true, recurses := true, apart := false, narrowed := true }
def FnBestUptoSaid : Prop := fnBestUptoRow.holds Try.pinned (OpenSpec.upto fnBestSpec)

/-- 'laws.FnExactSolve', WHERE WHAT IT READS IS OF BULK AT MOST 1048576: true; the input reads as it did. -/
def fnExactSolveUptoRow : OpenClaim := { program := "ythhkbfjolmgloaa", sum := "b5346c8866b7e113647ecc790f5f2a57ed7e174bc4041a00168cb2b30064ff05", func := "loop.example/stringline/laws.FnExactSolve", spec := "fnExactSolve", unfollowed := true, recurses := true, apart := false, narrowed := true }
def FnExactSolveUptoSaid : Prop := fnExactSolveUptoRow.holds Try.pinned (OpenSpec.upto fnExactSolveSpec)

/-- 'laws.FnSooner', WHERE WHAT IT READS IS OF BULK AT MOST 1048576: true; the input reads as it did. -/
def fnSoonerUptoRow : OpenClaim := { program := "ythhkbfjolmgloaa", sum := "b5346c8866b7e113647ecc790f5f2a57ed7e174bc4041a00168cb2b30064ff05", func := "loop.example/stringline/laws.FnSooner", spec := "fnSooner", unfollowed := true, recurses := true, apart := false, narrowed := true }
def FnSoonerUptoSaid : Prop := fnSoonerUptoRow.holds Try.pinned (OpenSpec.upto fnSoonerSpec)

/-- 'laws.FnMeets', WHERE WHAT IT READS IS OF BULK AT MOST 1048576: true; the input reads as it did. -/
def fnMeetsUptoRow : OpenClaim := { program := "ythhkbfjolmgloaa", sum := "b5346c8866b7e113647ecc790f5f2a57ed7e174bc4041a00168cb2b30064ff05", func := "loop.example/stringline/laws.FnMeets", spec := "fnMeets", unfollowed := true, recurses := true, apart := false, narrowed := true }
def FnMeetsUptoSaid : Prop := fnMeetsUptoRow.holds Try.pinned (OpenSpec.upto fnMeetsSpec)

end Rows
end Go.Proofs.Ythhkbfjolmgloaa
