/-
  No cell of these rows narrows 'for every input' (looked for: loops, veiled, ifaces, maps, wideKeys, modest, calm, conditions, laid).
  DERIVED. THE GIVEN ROWS OF THIS SEAT. 12 by the template 'for every input the law returns true; each argument reads behind the call as it read before'; 0 by the template 'total and deterministic' (their statements: YtdbkbkopcnkgcaaTotals.lean).
  GIVEN WITH THE SEED: the statements are not yours to turn. If you find one false, say at which input.
  Laid BY PROGRAM, IN A SANDBOX (cutbox-rows.mjs): the forced cells as the released guide's own fill.sh prints them over the translation bb417f17bab7c8ce… (all of the seat's roots in one cut). By AI agents, Wed Nov 11 2026. No macro, syntax, notation, axiom, sorry.
-/
import Derived.Test.YtdbkbkopcnkgcaaChecked
import GoSem.Claim
import GoSem.ClaimJoined
import GoSem.ClaimMapViews
import Derived.JoinedTies
import Derived.KernelRfl
namespace Go.Proofs.Ytdbkbkopcnkgcaa
/- THE CELL 'sum', in the pinned program and in every row, IS THE sha256 OF THE DUMP (.gsa) THAT YtdbkbkopcnkgcaaProg.lean LOADS. Nothing in Lean hashes anything: it is a label: what it is worth is what the hold of that sum in a sandbox is worth. -/
noncomputable def Try.pinned : Pinned := { name := "ytdbkbkopcnkgcaa", sum := "bb417f17bab7c8ceb4db598b5ca2f120e9704b645d71b22f14eb5c69c1ebdf2c", checked := Try.checked }
namespace Rows
def none {H : Type} : Left H := { results := [], args := [] }

/-- 'parlkeep3.ForestShape': WHATEVER THE INPUT: true; the input reads as it did. -/
def forestShapeSpec : ChangeSpec := { name := "forestShape", fn := fun _ => fun
  | [d1, d2] => { results := [.lit (.bool true)], args := [d1, d2] }
  | _ => none }
def forestShapeRow : OpenClaim := { program := "ytdbkbkopcnkgcaa", sum := "bb417f17bab7c8ceb4db598b5ca2f120e9704b645d71b22f14eb5c69c1ebdf2c", func := "parlance/parlkeep3.ForestShape", spec := "forestShape", unfollowed := true, recurses := true, plainKeys := false, apart := false }
def ForestShapeSaid : Prop := forestShapeRow.holds Try.pinned (OpenSpec.ofChange forestShapeSpec)

/-- ITS FALSE NEIGHBOUR: 'it returns false'. Refute it at one input. -/
def forestShapeWrong : ChangeSpec := { name := "forestShape", fn := fun _ => fun
  | [d1, d2] => { results := [.lit (.bool false)], args := [d1, d2] }
  | _ => none }
def ForestShapeWrongFalsely : Prop := forestShapeRow.holds Try.pinned (OpenSpec.ofChange forestShapeWrong)

/-- 'parlkeep3.ForestMirrored': WHATEVER THE INPUT: true; the input reads as it did. -/
def forestMirroredSpec : ChangeSpec := { name := "forestMirrored", fn := fun _ => fun
  | [d1, d2] => { results := [.lit (.bool true)], args := [d1, d2] }
  | _ => none }
def forestMirroredRow : OpenClaim := { program := "ytdbkbkopcnkgcaa", sum := "bb417f17bab7c8ceb4db598b5ca2f120e9704b645d71b22f14eb5c69c1ebdf2c", func := "parlance/parlkeep3.ForestMirrored", spec := "forestMirrored", unfollowed := true, recurses := true, plainKeys := false, apart := false }
def ForestMirroredSaid : Prop := forestMirroredRow.holds Try.pinned (OpenSpec.ofChange forestMirroredSpec)

/-- ITS FALSE NEIGHBOUR: 'it returns false'. Refute it at one input. -/
def forestMirroredWrong : ChangeSpec := { name := "forestMirrored", fn := fun _ => fun
  | [d1, d2] => { results := [.lit (.bool false)], args := [d1, d2] }
  | _ => none }
def ForestMirroredWrongFalsely : Prop := forestMirroredRow.holds Try.pinned (OpenSpec.ofChange forestMirroredWrong)

/-- 'parlkeep3.ForestBuilt': WHATEVER THE INPUT: true; the input reads as it did. -/
def forestBuiltSpec : ChangeSpec := { name := "forestBuilt", fn := fun _ => fun
  | [d1, d2] => { results := [.lit (.bool true)], args := [d1, d2] }
  | _ => none }
def forestBuiltRow : OpenClaim := { program := "ytdbkbkopcnkgcaa", sum := "bb417f17bab7c8ceb4db598b5ca2f120e9704b645d71b22f14eb5c69c1ebdf2c", func := "parlance/parlkeep3.ForestBuilt", spec := "forestBuilt", unfollowed := true, recurses := true, plainKeys := false, apart := false }
def ForestBuiltSaid : Prop := forestBuiltRow.holds Try.pinned (OpenSpec.ofChange forestBuiltSpec)

/-- ITS FALSE NEIGHBOUR: 'it returns false'. Refute it at one input. -/
def forestBuiltWrong : ChangeSpec := { name := "forestBuilt", fn := fun _ => fun
  | [d1, d2] => { results := [.lit (.bool false)], args := [d1, d2] }
  | _ => none }
def ForestBuiltWrongFalsely : Prop := forestBuiltRow.holds Try.pinned (OpenSpec.ofChange forestBuiltWrong)

/-- 'parlkeep3.ForestLess': WHATEVER THE INPUT: true; the input reads as it did. -/
def forestLessSpec : ChangeSpec := { name := "forestLess", fn := fun _ => fun
  | [d1, d2, d3] => { results := [.lit (.bool true)], args := [d1, d2, d3] }
  | _ => none }
def forestLessRow : OpenClaim := { program := "ytdbkbkopcnkgcaa", sum := "bb417f17bab7c8ceb4db598b5ca2f120e9704b645d71b22f14eb5c69c1ebdf2c", func := "parlance/parlkeep3.ForestLess", spec := "forestLess", unfollowed := true, recurses := true, plainKeys := false, apart := false }
def ForestLessSaid : Prop := forestLessRow.holds Try.pinned (OpenSpec.ofChange forestLessSpec)

/-- ITS FALSE NEIGHBOUR: 'it returns false'. Refute it at one input. -/
def forestLessWrong : ChangeSpec := { name := "forestLess", fn := fun _ => fun
  | [d1, d2, d3] => { results := [.lit (.bool false)], args := [d1, d2, d3] }
  | _ => none }
def ForestLessWrongFalsely : Prop := forestLessRow.holds Try.pinned (OpenSpec.ofChange forestLessWrong)

/-- 'parlkeep3.MeanListed': WHATEVER THE INPUT: true; the input reads as it did. -/
def meanListedSpec : ChangeSpec := { name := "meanListed", fn := fun _ => fun
  | [d1, d2, d3] => { results := [.lit (.bool true)], args := [d1, d2, d3] }
  | _ => none }
def meanListedRow : OpenClaim := { program := "ytdbkbkopcnkgcaa", sum := "bb417f17bab7c8ceb4db598b5ca2f120e9704b645d71b22f14eb5c69c1ebdf2c", func := "parlance/parlkeep3.MeanListed", spec := "meanListed", unfollowed := true, recurses := true, plainKeys := false, apart := false }
def MeanListedSaid : Prop := meanListedRow.holds Try.pinned (OpenSpec.ofChange meanListedSpec)

/-- ITS FALSE NEIGHBOUR: 'it returns false'. Refute it at one input. -/
def meanListedWrong : ChangeSpec := { name := "meanListed", fn := fun _ => fun
  | [d1, d2, d3] => { results := [.lit (.bool false)], args := [d1, d2, d3] }
  | _ => none }
def MeanListedWrongFalsely : Prop := meanListedRow.holds Try.pinned (OpenSpec.ofChange meanListedWrong)

/-- 'parlkeep3.MeanMore': WHATEVER THE INPUT: true; the input reads as it did. -/
def meanMoreSpec : ChangeSpec := { name := "meanMore", fn := fun _ => fun
  | [d1, d2, d3] => { results := [.lit (.bool true)], args := [d1, d2, d3] }
  | _ => none }
def meanMoreRow : OpenClaim := { program := "ytdbkbkopcnkgcaa", sum := "bb417f17bab7c8ceb4db598b5ca2f120e9704b645d71b22f14eb5c69c1ebdf2c", func := "parlance/parlkeep3.MeanMore", spec := "meanMore", unfollowed := true, recurses := true, plainKeys := false, apart := false }
def MeanMoreSaid : Prop := meanMoreRow.holds Try.pinned (OpenSpec.ofChange meanMoreSpec)

/-- ITS FALSE NEIGHBOUR: 'it returns false'. Refute it at one input. -/
def meanMoreWrong : ChangeSpec := { name := "meanMore", fn := fun _ => fun
  | [d1, d2, d3] => { results := [.lit (.bool false)], args := [d1, d2, d3] }
  | _ => none }
def MeanMoreWrongFalsely : Prop := meanMoreRow.holds Try.pinned (OpenSpec.ofChange meanMoreWrong)

/-- 'parlkeep3.MeanMirrored': WHATEVER THE INPUT: true; the input reads as it did. -/
def meanMirroredSpec : ChangeSpec := { name := "meanMirrored", fn := fun _ => fun
  | [d1, d2] => { results := [.lit (.bool true)], args := [d1, d2] }
  | _ => none }
def meanMirroredRow : OpenClaim := { program := "ytdbkbkopcnkgcaa", sum := "bb417f17bab7c8ceb4db598b5ca2f120e9704b645d71b22f14eb5c69c1ebdf2c", func := "parlance/parlkeep3.MeanMirrored", spec := "meanMirrored", unfollowed := true, recurses := true, plainKeys := false, apart := false }
def MeanMirroredSaid : Prop := meanMirroredRow.holds Try.pinned (OpenSpec.ofChange meanMirroredSpec)

/-- ITS FALSE NEIGHBOUR: 'it returns false'. Refute it at one input. -/
def meanMirroredWrong : ChangeSpec := { name := "meanMirrored", fn := fun _ => fun
  | [d1, d2] => { results := [.lit (.bool false)], args := [d1, d2] }
  | _ => none }
def MeanMirroredWrongFalsely : Prop := meanMirroredRow.holds Try.pinned (OpenSpec.ofChange meanMirroredWrong)

/-- 'parlkeep3.MeanJoined': WHATEVER THE INPUT: true; the input reads as it did. -/
def meanJoinedSpec : ChangeSpec := { name := "meanJoined", fn := fun _ => fun
  | [d1, d2] => { results := [.lit (.bool true)], args := [d1, d2] }
  | _ => none }
def meanJoinedRow : OpenClaim := { program := "ytdbkbkopcnkgcaa", sum := "bb417f17bab7c8ceb4db598b5ca2f120e9704b645d71b22f14eb5c69c1ebdf2c", func := "parlance/parlkeep3.MeanJoined", spec := "meanJoined", unfollowed := true, recurses := true, plainKeys := false, apart := false }
def MeanJoinedSaid : Prop := meanJoinedRow.holds Try.pinned (OpenSpec.ofChange meanJoinedSpec)

/-- ITS FALSE NEIGHBOUR: 'it returns false'. Refute it at one input. -/
def meanJoinedWrong : ChangeSpec := { name := "meanJoined", fn := fun _ => fun
  | [d1, d2] => { results := [.lit (.bool false)], args := [d1, d2] }
  | _ => none }
def MeanJoinedWrongFalsely : Prop := meanJoinedRow.holds Try.pinned (OpenSpec.ofChange meanJoinedWrong)

/-- 'parlkeep3.MeanNamed': WHATEVER THE INPUT: true; the input reads as it did. -/
def meanNamedSpec : ChangeSpec := { name := "meanNamed", fn := fun _ => fun
  | [d1, d2, d3] => { results := [.lit (.bool true)], args := [d1, d2, d3] }
  | _ => none }
def meanNamedRow : OpenClaim := { program := "ytdbkbkopcnkgcaa", sum := "bb417f17bab7c8ceb4db598b5ca2f120e9704b645d71b22f14eb5c69c1ebdf2c", func := "parlance/parlkeep3.MeanNamed", spec := "meanNamed", unfollowed := true, recurses := true, plainKeys := false, apart := false }
def MeanNamedSaid : Prop := meanNamedRow.holds Try.pinned (OpenSpec.ofChange meanNamedSpec)

/-- ITS FALSE NEIGHBOUR: 'it returns false'. Refute it at one input. -/
def meanNamedWrong : ChangeSpec := { name := "meanNamed", fn := fun _ => fun
  | [d1, d2, d3] => { results := [.lit (.bool false)], args := [d1, d2, d3] }
  | _ => none }
def MeanNamedWrongFalsely : Prop := meanNamedRow.holds Try.pinned (OpenSpec.ofChange meanNamedWrong)

/-- 'parlkeep3.MeanOwn': WHATEVER THE INPUT: true; the input reads as it did. -/
def meanOwnSpec : ChangeSpec := { name := "meanOwn", fn := fun _ => fun
  | [d1, d2] => { results := [.lit (.bool true)], args := [d1, d2] }
  | _ => none }
def meanOwnRow : OpenClaim := { program := "ytdbkbkopcnkgcaa", sum := "bb417f17bab7c8ceb4db598b5ca2f120e9704b645d71b22f14eb5c69c1ebdf2c", func := "parlance/parlkeep3.MeanOwn", spec := "meanOwn", unfollowed := true, recurses := true, plainKeys := false, apart := false }
def MeanOwnSaid : Prop := meanOwnRow.holds Try.pinned (OpenSpec.ofChange meanOwnSpec)

/-- ITS FALSE NEIGHBOUR: 'it returns false'. Refute it at one input. -/
def meanOwnWrong : ChangeSpec := { name := "meanOwn", fn := fun _ => fun
  | [d1, d2] => { results := [.lit (.bool false)], args := [d1, d2] }
  | _ => none }
def MeanOwnWrongFalsely : Prop := meanOwnRow.holds Try.pinned (OpenSpec.ofChange meanOwnWrong)

/-- 'parlkeep3.PredictOnly': WHATEVER THE INPUT: true; the input reads as it did. -/
def predictOnlySpec : ChangeSpec := { name := "predictOnly", fn := fun _ => fun
  | [d1, d2] => { results := [.lit (.bool true)], args := [d1, d2] }
  | _ => none }
def predictOnlyRow : OpenClaim := { program := "ytdbkbkopcnkgcaa", sum := "bb417f17bab7c8ceb4db598b5ca2f120e9704b645d71b22f14eb5c69c1ebdf2c", func := "parlance/parlkeep3.PredictOnly", spec := "predictOnly", unfollowed := true, recurses := true, plainKeys := false, apart := false }
def PredictOnlySaid : Prop := predictOnlyRow.holds Try.pinned (OpenSpec.ofChange predictOnlySpec)

/-- ITS FALSE NEIGHBOUR: 'it returns false'. Refute it at one input. -/
def predictOnlyWrong : ChangeSpec := { name := "predictOnly", fn := fun _ => fun
  | [d1, d2] => { results := [.lit (.bool false)], args := [d1, d2] }
  | _ => none }
def PredictOnlyWrongFalsely : Prop := predictOnlyRow.holds Try.pinned (OpenSpec.ofChange predictOnlyWrong)

/-- 'parlkeep3.FeedBack': WHATEVER THE INPUT: true; the input reads as it did. -/
def feedBackSpec : ChangeSpec := { name := "feedBack", fn := fun _ => fun
  | [d1, d2, d3, d4] => { results := [.lit (.bool true)], args := [d1, d2, d3, d4] }
  | _ => none }
def feedBackRow : OpenClaim := { program := "ytdbkbkopcnkgcaa", sum := "bb417f17bab7c8ceb4db598b5ca2f120e9704b645d71b22f14eb5c69c1ebdf2c", func := "parlance/parlkeep3.FeedBack", spec := "feedBack", unfollowed := true, recurses := true, plainKeys := false, apart := false }
def FeedBackSaid : Prop := feedBackRow.holds Try.pinned (OpenSpec.ofChange feedBackSpec)

/-- ITS FALSE NEIGHBOUR: 'it returns false'. Refute it at one input. -/
def feedBackWrong : ChangeSpec := { name := "feedBack", fn := fun _ => fun
  | [d1, d2, d3, d4] => { results := [.lit (.bool false)], args := [d1, d2, d3, d4] }
  | _ => none }
def FeedBackWrongFalsely : Prop := feedBackRow.holds Try.pinned (OpenSpec.ofChange feedBackWrong)

/- THE SECOND FORM. 'bulk': how many values and letters a reading holds, each counted each time it is reached (what is shared counts as often as it is met; a slice's spare places count too). A statement '..UptoSaid' is the law's where the arguments, and the package variables that the reading takes, are together of bulk at most 1048576: NARROWER than '..Said'. Prove '..Said' where nothing that the law and all that it calls make is longer than what came in: it says more and counts as full. Else prove '..UptoSaid'. A law counts once. -/
mutual
def uptoBulk {H : Type} : DataW H → Nat
  | .lit (.string bytes) => bytes.length + 1
  | .lit _ => 1
  | .nil => 1
  | .ptr d => uptoBulk d + 1
  | .slice elems spare => uptoBulkAll elems + uptoBulkAll spare + 1
  | .agg parts => uptoBulkAll parts + 1
  | .iface _ d => uptoBulk d + 1
  | .map entries => uptoBulkEntries entries + 1
  | .held _ => 1
def uptoBulkAll {H : Type} : List (DataW H) → Nat
  | [] => 0
  | d :: r => uptoBulk d + uptoBulkAll r
def uptoBulkEntries {H : Type} : List (Lit × DataW H) → Nat
  | [] => 0
  | x :: r => uptoBulkEntry x + uptoBulkEntries r
def uptoBulkEntry {H : Type} : Lit × DataW H → Nat
  | (.string bytes, d) => bytes.length + uptoBulk d + 1
  | (_, d) => uptoBulk d + 1
 end
def uptoSmall : (H : Type) → List (DataW H) → Bool := fun _ ds => decide (uptoBulkAll ds ≤ 1048576)
def OpenSpec.upto (s : _root_.Go.ChangeSpec) : _root_.Go.OpenSpec := { _root_.Go.OpenSpec.ofChange s with cond := some uptoSmall }

/-- 'parlkeep3.ForestShape', WHERE WHAT IT READS IS OF BULK AT MOST 1048576: true; the input reads as it did. -/
def forestShapeUptoRow : OpenClaim := { program := "ytdbkbkopcnkgcaa", sum := "bb417f17bab7c8ceb4db598b5ca2f120e9704b645d71b22f14eb5c69c1ebdf2c", func := "parlance/parlkeep3.ForestShape", spec := "forestShape", unfollowed := true, recurses := true, plainKeys := false, apart := false, narrowed := true }
def ForestShapeUptoSaid : Prop := forestShapeUptoRow.holds Try.pinned (OpenSpec.upto forestShapeSpec)

/-- 'parlkeep3.ForestMirrored', WHERE WHAT IT READS IS OF BULK AT MOST 1048576: true; the input reads as it did. -/
def forestMirroredUptoRow : OpenClaim := { program := "ytdbkbkopcnkgcaa", sum := "bb417f17bab7c8ceb4db598b5ca2f120e9704b645d71b22f14eb5c69c1ebdf2c", func := "parlance/parlkeep3.ForestMirrored", spec := "forestMirrored", unfollowed := true, recurses := true, plainKeys := false, apart := false, narrowed := true }
def ForestMirroredUptoSaid : Prop := forestMirroredUptoRow.holds Try.pinned (OpenSpec.upto forestMirroredSpec)

/-- 'parlkeep3.ForestBuilt', WHERE WHAT IT READS IS OF BULK AT MOST 1048576: true; the input reads as it did. -/
def forestBuiltUptoRow : OpenClaim := { program := "ytdbkbkopcnkgcaa", sum := "bb417f17bab7c8ceb4db598b5ca2f120e9704b645d71b22f14eb5c69c1ebdf2c", func := "parlance/parlkeep3.ForestBuilt", spec := "forestBuilt", unfollowed := true, recurses := true, plainKeys := false, apart := false, narrowed := true }
def ForestBuiltUptoSaid : Prop := forestBuiltUptoRow.holds Try.pinned (OpenSpec.upto forestBuiltSpec)

/-- 'parlkeep3.ForestLess', WHERE WHAT IT READS IS OF BULK AT MOST 1048576: true; the input reads as it did. -/
def forestLessUptoRow : OpenClaim := { program := "ytdbkbkopcnkgcaa", sum := "bb417f17bab7c8ceb4db598b5ca2f120e9704b645d71b22f14eb5c69c1ebdf2c", func := "parlance/parlkeep3.ForestLess", spec := "forestLess", unfollowed := true, recurses := true, plainKeys := false, apart := false, narrowed := true }
def ForestLessUptoSaid : Prop := forestLessUptoRow.holds Try.pinned (OpenSpec.upto forestLessSpec)

/-- 'parlkeep3.MeanListed', WHERE WHAT IT READS IS OF BULK AT MOST 1048576: true; the input reads as it did. -/
def meanListedUptoRow : OpenClaim := { program := "ytdbkbkopcnkgcaa", sum := "bb417f17bab7c8ceb4db598b5ca2f120e9704b645d71b22f14eb5c69c1ebdf2c", func := "parlance/parlkeep3.MeanListed", spec := "meanListed", unfollowed := true, recurses := true, plainKeys := false, apart := false, narrowed := true }
def MeanListedUptoSaid : Prop := meanListedUptoRow.holds Try.pinned (OpenSpec.upto meanListedSpec)

/-- 'parlkeep3.MeanMore', WHERE WHAT IT READS IS OF BULK AT MOST 1048576: true; the input reads as it did. -/
def meanMoreUptoRow : OpenClaim := { program := "ytdbkbkopcnkgcaa", sum := "bb417f17bab7c8ceb4db598b5ca2f120e9704b645d71b22f14eb5c69c1ebdf2c", func := "parlance/parlkeep3.MeanMore", spec := "meanMore", unfollowed := true, recurses := true, plainKeys := false, apart := false, narrowed := true }
def MeanMoreUptoSaid : Prop := meanMoreUptoRow.holds Try.pinned (OpenSpec.upto meanMoreSpec)

/-- 'parlkeep3.MeanMirrored', WHERE WHAT IT READS IS OF BULK AT MOST 1048576: true; the input reads as it did. -/
def meanMirroredUptoRow : OpenClaim := { program := "ytdbkbkopcnkgcaa", sum := "bb417f17bab7c8ceb4db598b5ca2f120e9704b645d71b22f14eb5c69c1ebdf2c", func := "parlance/parlkeep3.MeanMirrored", spec := "meanMirrored", unfollowed := true, recurses := true, plainKeys := false, apart := false, narrowed := true }
def MeanMirroredUptoSaid : Prop := meanMirroredUptoRow.holds Try.pinned (OpenSpec.upto meanMirroredSpec)

/-- 'parlkeep3.MeanJoined', WHERE WHAT IT READS IS OF BULK AT MOST 1048576: true; the input reads as it did. -/
def meanJoinedUptoRow : OpenClaim := { program := "ytdbkbkopcnkgcaa", sum := "bb417f17bab7c8ceb4db598b5ca2f120e9704b645d71b22f14eb5c69c1ebdf2c", func := "parlance/parlkeep3.MeanJoined", spec := "meanJoined", unfollowed := true, recurses := true, plainKeys := false, apart := false, narrowed := true }
def MeanJoinedUptoSaid : Prop := meanJoinedUptoRow.holds Try.pinned (OpenSpec.upto meanJoinedSpec)

/-- 'parlkeep3.MeanNamed', WHERE WHAT IT READS IS OF BULK AT MOST 1048576: true; the input reads as it did. -/
def meanNamedUptoRow : OpenClaim := { program := "ytdbkbkopcnkgcaa", sum := "bb417f17bab7c8ceb4db598b5ca2f120e9704b645d71b22f14eb5c69c1ebdf2c", func := "parlance/parlkeep3.MeanNamed", spec := "meanNamed", unfollowed := true, recurses := true, plainKeys := false, apart := false, narrowed := true }
def MeanNamedUptoSaid : Prop := meanNamedUptoRow.holds Try.pinned (OpenSpec.upto meanNamedSpec)

/-- 'parlkeep3.MeanOwn', WHERE WHAT IT READS IS OF BULK AT MOST 1048576: true; the input reads as it did. -/
def meanOwnUptoRow : OpenClaim := { program := "ytdbkbkopcnkgcaa", sum := "bb417f17bab7c8ceb4db598b5ca2f120e9704b645d71b22f14eb5c69c1ebdf2c", func := "parlance/parlkeep3.MeanOwn", spec := "meanOwn", unfollowed := true, recurses := true, plainKeys := false, apart := false, narrowed := true }
def MeanOwnUptoSaid : Prop := meanOwnUptoRow.holds Try.pinned (OpenSpec.upto meanOwnSpec)

/-- 'parlkeep3.PredictOnly', WHERE WHAT IT READS IS OF BULK AT MOST 1048576: true; the input reads as it did. -/
def predictOnlyUptoRow : OpenClaim := { program := "ytdbkbkopcnkgcaa", sum := "bb417f17bab7c8ceb4db598b5ca2f120e9704b645d71b22f14eb5c69c1ebdf2c", func := "parlance/parlkeep3.PredictOnly", spec := "predictOnly", unfollowed := true, recurses := true, plainKeys := false, apart := false, narrowed := true }
def PredictOnlyUptoSaid : Prop := predictOnlyUptoRow.holds Try.pinned (OpenSpec.upto predictOnlySpec)

/-- 'parlkeep3.FeedBack', WHERE WHAT IT READS IS OF BULK AT MOST 1048576: true; the input reads as it did. -/
def feedBackUptoRow : OpenClaim := { program := "ytdbkbkopcnkgcaa", sum := "bb417f17bab7c8ceb4db598b5ca2f120e9704b645d71b22f14eb5c69c1ebdf2c", func := "parlance/parlkeep3.FeedBack", spec := "feedBack", unfollowed := true, recurses := true, plainKeys := false, apart := false, narrowed := true }
def FeedBackUptoSaid : Prop := feedBackUptoRow.holds Try.pinned (OpenSpec.upto feedBackSpec)

end Rows
end Go.Proofs.Ytdbkbkopcnkgcaa
