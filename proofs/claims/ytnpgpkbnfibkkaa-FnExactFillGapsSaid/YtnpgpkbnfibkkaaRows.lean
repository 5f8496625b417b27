/-
  No cell of these rows narrows 'for every input' (looked for: loops, veiled, ifaces, maps, wideKeys, modest, calm, conditions, laid).
  DERIVED. THE GIVEN ROWS OF THIS SEAT. 12 by the template 'for every input the law returns true; each argument reads behind the call as it read before'; 0 by the template 'total and deterministic' (their statements: YtnpgpkbnfibkkaaTotals.lean).
  GIVEN WITH THE SEED: the statements are not yours to turn. If you find one false, say at which input.
  Laid BY PROGRAM, IN A SANDBOX (cutbox-rows.mjs): the forced cells as the released guide's own fill.sh prints them over the translation c6416a6f8a982319… (all of the seat's roots in one cut). By AI agents, Wed Nov 11 2026. No macro, syntax, notation, axiom, sorry.
-/
import Derived.Test.YtnpgpkbnfibkkaaChecked
import GoSem.Claim
import GoSem.ClaimJoined
import GoSem.ClaimMapViews
import Derived.JoinedTies
import Derived.KernelRfl
namespace Go.Proofs.Ytnpgpkbnfibkkaa
/- THE CELL 'sum', in the pinned program and in every row, IS THE sha256 OF THE DUMP (.gsa) THAT YtnpgpkbnfibkkaaProg.lean LOADS. Nothing in Lean hashes anything: it is a label: what it is worth is what the hold of that sum in a sandbox is worth. -/
noncomputable def Try.pinned : Pinned := { name := "ytnpgpkbnfibkkaa", sum := "c6416a6f8a982319ba24c8b14d2a08eb0bdc36c5ad0923bdc492830b5bac8be6", checked := Try.checked }
namespace Rows
def none {H : Type} : Left H := { results := [], args := [] }

/-- 'laws.FnExactYearsOf': WHATEVER THE INPUT: true; the input reads as it did. -/
def fnExactYearsOfSpec : ChangeSpec := { name := "fnExactYearsOf", fn := fun _ => fun
  | [d1, d2, d3] => { results := [.lit (.bool true)], args := [d1, d2, d3] }
  | _ => none }
def fnExactYearsOfRow : OpenClaim := { program := "ytnpgpkbnfibkkaa", sum := "c6416a6f8a982319ba24c8b14d2a08eb0bdc36c5ad0923bdc492830b5bac8be6", func := "loop.example/g01302/laws.FnExactYearsOf", spec := "fnExactYearsOf", inPlace := ["math.Float64frombits", "math.Float64bits"], unfollowed := true, recurses := true, apart := false }
def FnExactYearsOfSaid : Prop := fnExactYearsOfRow.holds Try.pinned (OpenSpec.ofChange fnExactYearsOfSpec)

/-- ITS FALSE NEIGHBOUR: 'it returns false'. Refute it at one input. -/
def fnExactYearsOfWrong : ChangeSpec := { name := "fnExactYearsOf", fn := fun _ => fun
  | [d1, d2, d3] => { results := [.lit (.bool false)], args := [d1, d2, d3] }
  | _ => none }
def FnExactYearsOfWrongFalsely : Prop := fnExactYearsOfRow.holds Try.pinned (OpenSpec.ofChange fnExactYearsOfWrong)

/-- 'laws.FnExactFloodOf': WHATEVER THE INPUT: true; the input reads as it did. -/
def fnExactFloodOfSpec : ChangeSpec := { name := "fnExactFloodOf", fn := fun _ => fun
  | [d1, d2, d3] => { results := [.lit (.bool true)], args := [d1, d2, d3] }
  | _ => none }
def fnExactFloodOfRow : OpenClaim := { program := "ytnpgpkbnfibkkaa", sum := "c6416a6f8a982319ba24c8b14d2a08eb0bdc36c5ad0923bdc492830b5bac8be6", func := "loop.example/g01302/laws.FnExactFloodOf", spec := "fnExactFloodOf", inPlace := ["math.Float64frombits", "math.Float64bits"], unfollowed := true, recurses := true, apart := false }
def FnExactFloodOfSaid : Prop := fnExactFloodOfRow.holds Try.pinned (OpenSpec.ofChange fnExactFloodOfSpec)

/-- ITS FALSE NEIGHBOUR: 'it returns false'. Refute it at one input. -/
def fnExactFloodOfWrong : ChangeSpec := { name := "fnExactFloodOf", fn := fun _ => fun
  | [d1, d2, d3] => { results := [.lit (.bool false)], args := [d1, d2, d3] }
  | _ => none }
def FnExactFloodOfWrongFalsely : Prop := fnExactFloodOfRow.holds Try.pinned (OpenSpec.ofChange fnExactFloodOfWrong)

/-- 'laws.FnExactRatingLevel': WHATEVER THE INPUT: true; the input reads as it did. -/
def fnExactRatingLevelSpec : ChangeSpec := { name := "fnExactRatingLevel", fn := fun _ => fun
  | [d1, d2, d3, d4] => { results := [.lit (.bool true)], args := [d1, d2, d3, d4] }
  | _ => none }
def fnExactRatingLevelRow : OpenClaim := { program := "ytnpgpkbnfibkkaa", sum := "c6416a6f8a982319ba24c8b14d2a08eb0bdc36c5ad0923bdc492830b5bac8be6", func := "loop.example/g01302/laws.FnExactRatingLevel", spec := "fnExactRatingLevel", inPlace := ["math.Float64frombits", "math.Float64bits"], apart := false }
def FnExactRatingLevelSaid : Prop := fnExactRatingLevelRow.holds Try.pinned (OpenSpec.ofChange fnExactRatingLevelSpec)

/-- ITS FALSE NEIGHBOUR: 'it returns false'. Refute it at one input. -/
def fnExactRatingLevelWrong : ChangeSpec := { name := "fnExactRatingLevel", fn := fun _ => fun
  | [d1, d2, d3, d4] => { results := [.lit (.bool false)], args := [d1, d2, d3, d4] }
  | _ => none }
def FnExactRatingLevelWrongFalsely : Prop := fnExactRatingLevelRow.holds Try.pinned (OpenSpec.ofChange fnExactRatingLevelWrong)

/-- 'laws.FnRatings': WHATEVER THE INPUT: true; the input reads as it did. -/
def fnRatingsSpec : ChangeSpec := { name := "fnRatings", fn := fun _ => fun
  | [d1, d2] => { results := [.lit (.bool true)], args := [d1, d2] }
  | _ => none }
def fnRatingsRow : OpenClaim := { program := "ytnpgpkbnfibkkaa", sum := "c6416a6f8a982319ba24c8b14d2a08eb0bdc36c5ad0923bdc492830b5bac8be6", func := "loop.example/g01302/laws.FnRatings", spec := "fnRatings", inPlace := ["math.Float64bits", "math.Float64frombits"], unfollowed := true, recurses := true, apart := false }
def FnRatingsSaid : Prop := fnRatingsRow.holds Try.pinned (OpenSpec.ofChange fnRatingsSpec)

/-- ITS FALSE NEIGHBOUR: 'it returns false'. Refute it at one input. -/
def fnRatingsWrong : ChangeSpec := { name := "fnRatings", fn := fun _ => fun
  | [d1, d2] => { results := [.lit (.bool false)], args := [d1, d2] }
  | _ => none }
def FnRatingsWrongFalsely : Prop := fnRatingsRow.holds Try.pinned (OpenSpec.ofChange fnRatingsWrong)

/-- 'laws.FnExactFitFloods': WHATEVER THE INPUT: true; the input reads as it did. -/
def fnExactFitFloodsSpec : ChangeSpec := { name := "fnExactFitFloods", fn := fun _ => fun
  | [d] => { results := [.lit (.bool true)], args := [d] }
  | _ => none }
def fnExactFitFloodsRow : OpenClaim := { program := "ytnpgpkbnfibkkaa", sum := "c6416a6f8a982319ba24c8b14d2a08eb0bdc36c5ad0923bdc492830b5bac8be6", func := "loop.example/g01302/laws.FnExactFitFloods", spec := "fnExactFitFloods", inPlace := ["math.sqrt", "math.Float64bits", "math.Float64frombits"], unfollowed := true, recurses := true, apart := false }
def FnExactFitFloodsSaid : Prop := fnExactFitFloodsRow.holds Try.pinned (OpenSpec.ofChange fnExactFitFloodsSpec)

/-- ITS FALSE NEIGHBOUR: 'it returns false'. Refute it at one input. -/
def fnExactFitFloodsWrong : ChangeSpec := { name := "fnExactFitFloods", fn := fun _ => fun
  | [d] => { results := [.lit (.bool false)], args := [d] }
  | _ => none }
def FnExactFitFloodsWrongFalsely : Prop := fnExactFitFloodsRow.holds Try.pinned (OpenSpec.ofChange fnExactFitFloodsWrong)

/-- 'laws.FnExactRatingFlow': WHATEVER THE INPUT: true; the input reads as it did. -/
def fnExactRatingFlowSpec : ChangeSpec := { name := "fnExactRatingFlow", fn := fun _ => fun
  | [d1, d2, d3, d4] => { results := [.lit (.bool true)], args := [d1, d2, d3, d4] }
  | _ => none }
def fnExactRatingFlowRow : OpenClaim := { program := "ytnpgpkbnfibkkaa", sum := "c6416a6f8a982319ba24c8b14d2a08eb0bdc36c5ad0923bdc492830b5bac8be6", func := "loop.example/g01302/laws.FnExactRatingFlow", spec := "fnExactRatingFlow", inPlace := ["math.Float64frombits", "math.Float64bits"], unfollowed := true, recurses := true, apart := false }
def FnExactRatingFlowSaid : Prop := fnExactRatingFlowRow.holds Try.pinned (OpenSpec.ofChange fnExactRatingFlowSpec)

/-- ITS FALSE NEIGHBOUR: 'it returns false'. Refute it at one input. -/
def fnExactRatingFlowWrong : ChangeSpec := { name := "fnExactRatingFlow", fn := fun _ => fun
  | [d1, d2, d3, d4] => { results := [.lit (.bool false)], args := [d1, d2, d3, d4] }
  | _ => none }
def FnExactRatingFlowWrongFalsely : Prop := fnExactRatingFlowRow.holds Try.pinned (OpenSpec.ofChange fnExactRatingFlowWrong)

/-- 'laws.FnExactFillGaps': WHATEVER THE INPUT: true; the input reads as it did. -/
def fnExactFillGapsSpec : ChangeSpec := { name := "fnExactFillGaps", fn := fun _ => fun
  | [d1, d2] => { results := [.lit (.bool true)], args := [d1, d2] }
  | _ => none }
def fnExactFillGapsRow : OpenClaim := { program := "ytnpgpkbnfibkkaa", sum := "c6416a6f8a982319ba24c8b14d2a08eb0bdc36c5ad0923bdc492830b5bac8be6", func := "loop.example/g01302/laws.FnExactFillGaps", spec := "fnExactFillGaps", inPlace := ["math.Float64bits", "math.Float64frombits"], unfollowed := true, recurses := true, apart := false }
def FnExactFillGapsSaid : Prop := fnExactFillGapsRow.holds Try.pinned (OpenSpec.ofChange fnExactFillGapsSpec)

/-- ITS FALSE NEIGHBOUR: 'it returns false'. Refute it at one input. -/
def fnExactFillGapsWrong : ChangeSpec := { name := "fnExactFillGaps", fn := fun _ => fun
  | [d1, d2] => { results := [.lit (.bool false)], args := [d1, d2] }
  | _ => none }
def FnExactFillGapsWrongFalsely : Prop := fnExactFillGapsRow.holds Try.pinned (OpenSpec.ofChange fnExactFillGapsWrong)

/-- 'laws.FnExactRecedeRate': WHATEVER THE INPUT: true; the input reads as it did. -/
def fnExactRecedeRateSpec : ChangeSpec := { name := "fnExactRecedeRate", fn := fun _ => fun
  | [d] => { results := [.lit (.bool true)], args := [d] }
  | _ => none }
def fnExactRecedeRateRow : OpenClaim := { program := "ytnpgpkbnfibkkaa", sum := "c6416a6f8a982319ba24c8b14d2a08eb0bdc36c5ad0923bdc492830b5bac8be6", func := "loop.example/g01302/laws.FnExactRecedeRate", spec := "fnExactRecedeRate", inPlace := ["math.Float64frombits", "math.Float64bits"], unfollowed := true, recurses := true, apart := false }
def FnExactRecedeRateSaid : Prop := fnExactRecedeRateRow.holds Try.pinned (OpenSpec.ofChange fnExactRecedeRateSpec)

/-- ITS FALSE NEIGHBOUR: 'it returns false'. Refute it at one input. -/
def fnExactRecedeRateWrong : ChangeSpec := { name := "fnExactRecedeRate", fn := fun _ => fun
  | [d] => { results := [.lit (.bool false)], args := [d] }
  | _ => none }
def FnExactRecedeRateWrongFalsely : Prop := fnExactRecedeRateRow.holds Try.pinned (OpenSpec.ofChange fnExactRecedeRateWrong)

/-- 'laws.FnSeparated': WHATEVER THE INPUT: true; the input reads as it did. -/
def fnSeparatedSpec : ChangeSpec := { name := "fnSeparated", fn := fun _ => fun
  | [d1, d2] => { results := [.lit (.bool true)], args := [d1, d2] }
  | _ => none }
def fnSeparatedRow : OpenClaim := { program := "ytnpgpkbnfibkkaa", sum := "c6416a6f8a982319ba24c8b14d2a08eb0bdc36c5ad0923bdc492830b5bac8be6", func := "loop.example/g01302/laws.FnSeparated", spec := "fnSeparated", inPlace := ["math.Float64bits", "math.Float64frombits"], unfollowed := true, recurses := true, apart := false }
def FnSeparatedSaid : Prop := fnSeparatedRow.holds Try.pinned (OpenSpec.ofChange fnSeparatedSpec)

/-- ITS FALSE NEIGHBOUR: 'it returns false'. Refute it at one input. -/
def fnSeparatedWrong : ChangeSpec := { name := "fnSeparated", fn := fun _ => fun
  | [d1, d2] => { results := [.lit (.bool false)], args := [d1, d2] }
  | _ => none }
def FnSeparatedWrongFalsely : Prop := fnSeparatedRow.holds Try.pinned (OpenSpec.ofChange fnSeparatedWrong)

/-- 'laws.FnExactFitRating': WHATEVER THE INPUT: true; the input reads as it did. -/
def fnExactFitRatingSpec : ChangeSpec := { name := "fnExactFitRating", fn := fun _ => fun
  | [d1, d2, d3] => { results := [.lit (.bool true)], args := [d1, d2, d3] }
  | _ => none }
def fnExactFitRatingRow : OpenClaim := { program := "ytnpgpkbnfibkkaa", sum := "c6416a6f8a982319ba24c8b14d2a08eb0bdc36c5ad0923bdc492830b5bac8be6", func := "loop.example/g01302/laws.FnExactFitRating", spec := "fnExactFitRating", inPlace := ["math.Float64frombits", "math.Float64bits"], unfollowed := true, recurses := true, apart := false }
def FnExactFitRatingSaid : Prop := fnExactFitRatingRow.holds Try.pinned (OpenSpec.ofChange fnExactFitRatingSpec)

/-- ITS FALSE NEIGHBOUR: 'it returns false'. Refute it at one input. -/
def fnExactFitRatingWrong : ChangeSpec := { name := "fnExactFitRating", fn := fun _ => fun
  | [d1, d2, d3] => { results := [.lit (.bool false)], args := [d1, d2, d3] }
  | _ => none }
def FnExactFitRatingWrongFalsely : Prop := fnExactFitRatingRow.holds Try.pinned (OpenSpec.ofChange fnExactFitRatingWrong)

/-- 'laws.FnExactRatingMiss': WHATEVER THE INPUT: true; the input reads as it did. -/
def fnExactRatingMissSpec : ChangeSpec := { name := "fnExactRatingMiss", fn := fun _ => fun
  | [d1, d2, d3, d4, d5] => { results := [.lit (.bool true)], args := [d1, d2, d3, d4, d5] }
  | _ => none }
def fnExactRatingMissRow : OpenClaim := { program := "ytnpgpkbnfibkkaa", sum := "c6416a6f8a982319ba24c8b14d2a08eb0bdc36c5ad0923bdc492830b5bac8be6", func := "loop.example/g01302/laws.FnExactRatingMiss", spec := "fnExactRatingMiss", inPlace := ["math.Float64frombits", "math.Float64bits"], unfollowed := true, recurses := true, apart := false }
def FnExactRatingMissSaid : Prop := fnExactRatingMissRow.holds Try.pinned (OpenSpec.ofChange fnExactRatingMissSpec)

/-- ITS FALSE NEIGHBOUR: 'it returns false'. Refute it at one input. -/
def fnExactRatingMissWrong : ChangeSpec := { name := "fnExactRatingMiss", fn := fun _ => fun
  | [d1, d2, d3, d4, d5] => { results := [.lit (.bool false)], args := [d1, d2, d3, d4, d5] }
  | _ => none }
def FnExactRatingMissWrongFalsely : Prop := fnExactRatingMissRow.holds Try.pinned (OpenSpec.ofChange fnExactRatingMissWrong)

/-- 'laws.FnExactSameRecords': WHATEVER THE INPUT: true; the input reads as it did. -/
def fnExactSameRecordsSpec : ChangeSpec := { name := "fnExactSameRecords", fn := fun _ => fun
  | [d1, d2] => { results := [.lit (.bool true)], args := [d1, d2] }
  | _ => none }
def fnExactSameRecordsRow : OpenClaim := { program := "ytnpgpkbnfibkkaa", sum := "c6416a6f8a982319ba24c8b14d2a08eb0bdc36c5ad0923bdc492830b5bac8be6", func := "loop.example/g01302/laws.FnExactSameRecords", spec := "fnExactSameRecords", inPlace := ["math.Float32bits", "math.Float64bits"], unfollowed := true, recurses := true, apart := false }
def FnExactSameRecordsSaid : Prop := fnExactSameRecordsRow.holds Try.pinned (OpenSpec.ofChange fnExactSameRecordsSpec)

/-- ITS FALSE NEIGHBOUR: 'it returns false'. Refute it at one input. -/
def fnExactSameRecordsWrong : ChangeSpec := { name := "fnExactSameRecords", fn := fun _ => fun
  | [d1, d2] => { results := [.lit (.bool false)], args := [d1, d2] }
  | _ => none }
def FnExactSameRecordsWrongFalsely : Prop := fnExactSameRecordsRow.holds Try.pinned (OpenSpec.ofChange fnExactSameRecordsWrong)

/- THE SECOND FORM. 'bulk': how many values and letters a reading holds, each counted each time it is reached (what is shared counts as often as it is met; a slice's spare places count too). A statement '..UptoSaid' is the law's where the arguments, and the package variables that the reading takes, are together of bulk at most 1048576: NARROWER than '..Said'. Prove '..Said' where nothing that the law and all that it calls make is longer than what came in: it says more and counts as full. Else prove '..UptoSaid'. A law counts once. -/
mutual
def uptoBulk {H : Type} : DataW H → Nat
  | .lit (.string bytes) => bytes.length + 1
  | .lit _ => 1
  | .nil => 1
  | .ptr d => uptoBulk d + 1
  | .slice elems spare => uptoBulkAll elems + uptoBulkAll spare + 1
  | .agg parts => uptoBulkAll parts + 1
  | .iface _ d => uptoBulk d + 1
  | .map entries => uptoBulkEntries entries + 1
  | .held _ => 1
def uptoBulkAll {H : Type} : List (DataW H) → Nat
  | [] => 0
  | d :: r => uptoBulk d + uptoBulkAll r
def uptoBulkEntries {H : Type} : List (Lit × DataW H) → Nat
  | [] => 0
  | x :: r => uptoBulkEntry x + uptoBulkEntries r
def uptoBulkEntry {H : Type} : Lit × DataW H → Nat
  | (.string bytes, d) => bytes.length + uptoBulk d + 1
  | (_, d) => uptoBulk d + 1
 end
def uptoSmall : (H : Type) → List (DataW H) → Bool := fun _ ds => decide (uptoBulkAll ds ≤ 1048576)
def OpenSpec.upto (s : _root_.Go.ChangeSpec) : _root_.Go.OpenSpec := { _root_.Go.OpenSpec.ofChange s with cond := some uptoSmall }

/-- 'laws.FnExactYearsOf', WHERE WHAT IT READS IS OF BULK AT MOST 1048576: true; the input reads as it did. -/
def fnExactYearsOfUptoRow : OpenClaim := { program := "ytnpgpkbnfibkkaa", sum := "c6416a6f8a982319ba24c8b14d2a08eb0bdc36c5ad0923bdc492830b5bac8be6", func := "loop.example/g01302/laws.FnExactYearsOf", spec := "fnExactYearsOf", inPlace := ["math.Float64frombits", "math.Float64bits"], unfollowed := true, recurses := true, apart := false, narrowed := true }
def FnExactYearsOfUptoSaid : Prop := fnExactYearsOfUptoRow.holds Try.pinned (OpenSpec.upto fnExactYearsOfSpec)

/-- 'laws.FnExactFloodOf', WHERE WHAT IT READS IS OF BULK AT MOST 1048576: true; the input reads as it did. -/
def fnExactFloodOfUptoRow : OpenClaim := { program := "ytnpgpkbnfibkkaa", sum := "c6416a6f8a982319ba24c8b14d2a08eb0bdc36c5ad0923bdc492830b5bac8be6", func := "loop.example/g01302/laws.FnExactFloodOf", spec := "fnExactFloodOf", inPlace := ["math.Float64frombits", "math.Float64bits"], unfollowed := true, recurses := true, apart := false, narrowed := true }
def FnExactFloodOfUptoSaid : Prop := fnExactFloodOfUptoRow.holds Try.pinned (OpenSpec.upto fnExactFloodOfSpec)

/-- 'laws.FnExactRatingLevel', WHERE WHAT IT READS IS OF BULK AT MOST 1048576: true; the input reads as it did. -/
def fnExactRatingLevelUptoRow : OpenClaim := { program := "ytnpgpkbnfibkkaa", sum := "c6416a6f8a982319ba24c8b14d2a08eb0bdc36c5ad0923bdc492830b5bac8be6", func := "loop.example/g01302/laws.FnExactRatingLevel", spec := "fnExactRatingLevel", inPlace := ["math.Float64frombits", "math.Float64bits"], apart := false, narrowed := true }
def FnExactRatingLevelUptoSaid : Prop := fnExactRatingLevelUptoRow.holds Try.pinned (OpenSpec.upto fnExactRatingLevelSpec)

/-- 'laws.FnRatings', WHERE WHAT IT READS IS OF BULK AT MOST 1048576: true; the input reads as it did. -/
def fnRatingsUptoRow : OpenClaim := { program := "ytnpgpkbnfibkkaa", sum := "c6416a6f8a982319ba24c8b14d2a08eb0bdc36c5ad0923bdc492830b5bac8be6", func := "loop.example/g01302/laws.FnRatings", spec := "fnRatings", inPlace := ["math.Float64bits", "math.Float64frombits"], unfollowed := true, recurses := true, apart := false, narrowed := true }
def FnRatingsUptoSaid : Prop := fnRatingsUptoRow.holds Try.pinned (OpenSpec.upto fnRatingsSpec)

/-- 'laws.FnExactFitFloods', WHERE WHAT IT READS IS OF BULK AT MOST 1048576: true; the input reads as it did. -/
def fnExactFitFloodsUptoRow : OpenClaim := { program := "ytnpgpkbnfibkkaa", sum := "c6416a6f8a982319ba24c8b14d2a08eb0bdc36c5ad0923bdc492830b5bac8be6", func := "loop.example/g01302/laws.FnExactFitFloods", spec := "fnExactFitFloods", inPlace := ["math.sqrt", "math.Float64bits", "math.Float64frombits"], unfollowed := true, recurses := true, apart := false, narrowed := true }
def FnExactFitFloodsUptoSaid : Prop := fnExactFitFloodsUptoRow.holds Try.pinned (OpenSpec.upto fnExactFitFloodsSpec)

/-- 'laws.FnExactRatingFlow', WHERE WHAT IT READS IS OF BULK AT MOST 1048576: true; the input reads as it did. -/
def fnExactRatingFlowUptoRow : OpenClaim := { program := "ytnpgpkbnfibkkaa", sum := "c6416a6f8a982319ba24c8b14d2a08eb0bdc36c5ad0923bdc492830b5bac8be6", func := "loop.example/g01302/laws.FnExactRatingFlow", spec := "fnExactRatingFlow", inPlace := ["math.Float64frombits", "math.Float64bits"], unfollowed := true, recurses := true, apart := false, narrowed := true }
def FnExactRatingFlowUptoSaid : Prop := fnExactRatingFlowUptoRow.holds Try.pinned (OpenSpec.upto fnExactRatingFlowSpec)

/-- 'laws.FnExactFillGaps', WHERE WHAT IT READS IS OF BULK AT MOST 1048576: true; the input reads as it did. -/
def fnExactFillGapsUptoRow : OpenClaim := { program := "ytnpgpkbnfibkkaa", sum := "c6416a6f8a982319ba24c8b14d2a08eb0bdc36c5ad0923bdc492830b5bac8be6", func := "loop.example/g01302/laws.FnExactFillGaps", spec := "fnExactFillGaps", inPlace := ["math.Float64bits", "math.Float64frombits"], unfollowed := true, recurses := true, apart := false, narrowed := true }
def FnExactFillGapsUptoSaid : Prop := fnExactFillGapsUptoRow.holds Try.pinned (OpenSpec.upto fnExactFillGapsSpec)

/-- 'laws.FnExactRecedeRate', WHERE WHAT IT READS IS OF BULK AT MOST 1048576: true; the input reads as it did. -/
def fnExactRecedeRateUptoRow : OpenClaim := { program := "ytnpgpkbnfibkkaa", sum := "c6416a6f8a982319ba24c8b14d2a08eb0bdc36c5ad0923bdc492830b5bac8be6", func := "loop.example/g01302/laws.FnExactRecedeRate", spec := "fnExactRecedeRate", inPlace := ["math.Float64frombits", "math.Float64bits"], unfollowed := true, recurses := true, apart := false, narrowed := true }
def FnExactRecedeRateUptoSaid : Prop := fnExactRecedeRateUptoRow.holds Try.pinned (OpenSpec.upto fnExactRecedeRateSpec)

/-- 'laws.FnSeparated', WHERE WHAT IT READS IS OF BULK AT MOST 1048576: true; the input reads as it did. -/
def fnSeparatedUptoRow : OpenClaim := { program := "ytnpgpkbnfibkkaa", sum := "c6416a6f8a982319ba24c8b14d2a08eb0bdc36c5ad0923bdc492830b5bac8be6", func := "loop.example/g01302/laws.FnSeparated", spec := "fnSeparated", inPlace := ["math.Float64bits", "math.Float64frombits"], unfollowed := true, recurses := true, apart := false, narrowed := true }
def FnSeparatedUptoSaid : Prop := fnSeparatedUptoRow.holds Try.pinned (OpenSpec.upto fnSeparatedSpec)

/-- 'laws.FnExactFitRating', WHERE WHAT IT READS IS OF BULK AT MOST 1048576: true; the input reads as it did. -/
def fnExactFitRatingUptoRow : OpenClaim := { program := "ytnpgpkbnfibkkaa", sum := "c6416a6f8a982319ba24c8b14d2a08eb0bdc36c5ad0923bdc492830b5bac8be6", func := "loop.example/g01302/laws.FnExactFitRating", spec := "fnExactFitRating", inPlace := ["math.Float64frombits", "math.Float64bits"], unfollowed := true, recurses := true, apart := false, narrowed := true }
def FnExactFitRatingUptoSaid : Prop := fnExactFitRatingUptoRow.holds Try.pinned (OpenSpec.upto fnExactFitRatingSpec)

/-- 'laws.FnExactRatingMiss', WHERE WHAT IT READS IS OF BULK AT MOST 1048576: true; the input reads as it did. -/
def fnExactRatingMissUptoRow : OpenClaim := { program := "ytnpgpkbnfibkkaa", sum := "c6416a6f8a982319ba24c8b14d2a08eb0bdc36c5ad0923bdc492830b5bac8be6", func := "loop.example/g01302/laws.FnExactRatingMiss", spec := "fnExactRatingMiss", inPlace := ["math.Float64frombits", "math.Float64bits"], unfollowed := true, recurses := true, apart := false, narrowed := true }
def FnExactRatingMissUptoSaid : Prop := fnExactRatingMissUptoRow.holds Try.pinned (OpenSpec.upto fnExactRatingMissSpec)

/-- 'laws.FnExactSameRecords', WHERE WHAT IT READS IS OF BULK AT MOST 1048576: true; the input reads as it did. -/
def fnExactSameRecordsUptoRow : OpenClaim := { program := "ytnpgpkbnfibkkaa", sum := "c6416a6f8a982319ba24c8b14d2a08eb0bdc36c5ad0923bdc492830b5bac8be6", func := "loop.example/g01302/laws.FnExactSameRecords", spec := "fnExactSameRecords", inPlace := ["math.Float32bits", "math.Float64bits"], unfollowed := true, recurses := true, apart := false, narrowed := true }
def FnExactSameRecordsUptoSaid : Prop := fnExactSameRecordsUptoRow.holds Try.pinned (OpenSpec.upto fnExactSameRecordsSpec)

end Rows
end Go.Proofs.Ytnpgpkbnfibkkaa
