/-
  No cell of these rows narrows 'for every input' (looked for: loops, veiled, ifaces, maps, wideKeys, modest, calm, conditions, laid).
  DERIVED. THE GIVEN ROWS OF THIS SEAT. 14 by the template 'for every input the law returns true; each argument reads behind the call as it read before'; 0 by the template 'total and deterministic' (their statements: YtcndbohiiodndaaTotals.lean).
  GIVEN WITH THE SEED: the statements are not yours to turn. If you find one false, say at which input.
  Laid BY PROGRAM, IN A SANDBOX (cutbox-rows.mjs): the forced cells as the released guide's own fill.sh prints them over the translation 11fac4120b6960ec… (all of the seat's roots in one cut). By AI agents, Wed Nov 11 2026. No macro, syntax, notation, axiom, sorry.
-/
import Derived.Test.YtcndbohiiodndaaChecked
import GoSem.Claim
import GoSem.ClaimJoined
import GoSem.ClaimMapViews
import Derived.JoinedTies
import Derived.KernelRfl
namespace Go.Proofs.Ytcndbohiiodndaa
/- THE CELL 'sum', in the pinned program and in every row, IS THE sha256 OF THE DUMP (.gsa) THAT YtcndbohiiodndaaProg.lean LOADS. Nothing in Lean hashes anything: it is a label: what it is worth is what the hold of that sum in a sandbox is worth. -/
noncomputable def Try.pinned : Pinned := { name := "ytcndbohiiodndaa", sum := "11fac4120b6960ecc6100486b82a98cdc094bcd5329daa88bbead6c43d2bae30", checked := Try.checked }
namespace Rows
def none {H : Type} : Left H := { results := [], args := [] }

/-- 'parlkeep3.FeedWords': WHATEVER THE INPUT: true; the input reads as it did. -/
def feedWordsSpec : ChangeSpec := { name := "feedWords", fn := fun _ => fun
  | [d1, d2] => { results := [.lit (.bool true)], args := [d1, d2] }
  | _ => none }
def feedWordsRow : OpenClaim := { program := "ytcndbohiiodndaa", sum := "11fac4120b6960ecc6100486b82a98cdc094bcd5329daa88bbead6c43d2bae30", func := "parlance/parlkeep3.FeedWords", spec := "feedWords", unfollowed := true, recurses := true, plainKeys := false, apart := false }
def FeedWordsSaid : Prop := feedWordsRow.holds Try.pinned (OpenSpec.ofChange feedWordsSpec)

/-- ITS FALSE NEIGHBOUR: 'it returns false'. Refute it at one input. -/
def feedWordsWrong : ChangeSpec := { name := "feedWords", fn := fun _ => fun
  | [d1, d2] => { results := [.lit (.bool false)], args := [d1, d2] }
  | _ => none }
def FeedWordsWrongFalsely : Prop := feedWordsRow.holds Try.pinned (OpenSpec.ofChange feedWordsWrong)

/-- 'parlkeep3.MeanListed': WHATEVER THE INPUT: true; the input reads as it did. -/
def meanListedSpec : ChangeSpec := { name := "meanListed", fn := fun _ => fun
  | [d1, d2, d3] => { results := [.lit (.bool true)], args := [d1, d2, d3] }
  | _ => none }
def meanListedRow : OpenClaim := { program := "ytcndbohiiodndaa", sum := "11fac4120b6960ecc6100486b82a98cdc094bcd5329daa88bbead6c43d2bae30", func := "parlance/parlkeep3.MeanListed", spec := "meanListed", unfollowed := true, recurses := true, plainKeys := false, apart := false }
def MeanListedSaid : Prop := meanListedRow.holds Try.pinned (OpenSpec.ofChange meanListedSpec)

/-- ITS FALSE NEIGHBOUR: 'it returns false'. Refute it at one input. -/
def meanListedWrong : ChangeSpec := { name := "meanListed", fn := fun _ => fun
  | [d1, d2, d3] => { results := [.lit (.bool false)], args := [d1, d2, d3] }
  | _ => none }
def MeanListedWrongFalsely : Prop := meanListedRow.holds Try.pinned (OpenSpec.ofChange meanListedWrong)

/-- 'parlkeep3.EarleyItems': WHATEVER THE INPUT: true; the input reads as it did. -/
def earleyItemsSpec : ChangeSpec := { name := "earleyItems", fn := fun _ => fun
  | [d1, d2, d3, d4] => { results := [.lit (.bool true)], args := [d1, d2, d3, d4] }
  | _ => none }
def earleyItemsRow : OpenClaim := { program := "ytcndbohiiodndaa", sum := "11fac4120b6960ecc6100486b82a98cdc094bcd5329daa88bbead6c43d2bae30", func := "parlance/parlkeep3.EarleyItems", spec := "earleyItems", unfollowed := true, recurses := true, plainKeys := false, apart := false }
def EarleyItemsSaid : Prop := earleyItemsRow.holds Try.pinned (OpenSpec.ofChange earleyItemsSpec)

/-- ITS FALSE NEIGHBOUR: 'it returns false'. Refute it at one input. -/
def earleyItemsWrong : ChangeSpec := { name := "earleyItems", fn := fun _ => fun
  | [d1, d2, d3, d4] => { results := [.lit (.bool false)], args := [d1, d2, d3, d4] }
  | _ => none }
def EarleyItemsWrongFalsely : Prop := earleyItemsRow.holds Try.pinned (OpenSpec.ofChange earleyItemsWrong)

/-- 'parlkeep3.CykParts': WHATEVER THE INPUT: true; the input reads as it did. -/
def cykPartsSpec : ChangeSpec := { name := "cykParts", fn := fun _ => fun
  | [d1, d2, d3, d4] => { results := [.lit (.bool true)], args := [d1, d2, d3, d4] }
  | _ => none }
def cykPartsRow : OpenClaim := { program := "ytcndbohiiodndaa", sum := "11fac4120b6960ecc6100486b82a98cdc094bcd5329daa88bbead6c43d2bae30", func := "parlance/parlkeep3.CykParts", spec := "cykParts", unfollowed := true, recurses := true, plainKeys := false, apart := false }
def CykPartsSaid : Prop := cykPartsRow.holds Try.pinned (OpenSpec.ofChange cykPartsSpec)

/-- ITS FALSE NEIGHBOUR: 'it returns false'. Refute it at one input. -/
def cykPartsWrong : ChangeSpec := { name := "cykParts", fn := fun _ => fun
  | [d1, d2, d3, d4] => { results := [.lit (.bool false)], args := [d1, d2, d3, d4] }
  | _ => none }
def CykPartsWrongFalsely : Prop := cykPartsRow.holds Try.pinned (OpenSpec.ofChange cykPartsWrong)

/-- 'parlkeep3.CykJoins': WHATEVER THE INPUT: true; the input reads as it did. -/
def cykJoinsSpec : ChangeSpec := { name := "cykJoins", fn := fun _ => fun
  | [d1, d2, d3, d4] => { results := [.lit (.bool true)], args := [d1, d2, d3, d4] }
  | _ => none }
def cykJoinsRow : OpenClaim := { program := "ytcndbohiiodndaa", sum := "11fac4120b6960ecc6100486b82a98cdc094bcd5329daa88bbead6c43d2bae30", func := "parlance/parlkeep3.CykJoins", spec := "cykJoins", unfollowed := true, recurses := true, plainKeys := false, apart := false }
def CykJoinsSaid : Prop := cykJoinsRow.holds Try.pinned (OpenSpec.ofChange cykJoinsSpec)

/-- ITS FALSE NEIGHBOUR: 'it returns false'. Refute it at one input. -/
def cykJoinsWrong : ChangeSpec := { name := "cykJoins", fn := fun _ => fun
  | [d1, d2, d3, d4] => { results := [.lit (.bool false)], args := [d1, d2, d3, d4] }
  | _ => none }
def CykJoinsWrongFalsely : Prop := cykJoinsRow.holds Try.pinned (OpenSpec.ofChange cykJoinsWrong)

/-- 'parlkeep3.MeanMore': WHATEVER THE INPUT: true; the input reads as it did. -/
def meanMoreSpec : ChangeSpec := { name := "meanMore", fn := fun _ => fun
  | [d1, d2, d3] => { results := [.lit (.bool true)], args := [d1, d2, d3] }
  | _ => none }
def meanMoreRow : OpenClaim := { program := "ytcndbohiiodndaa", sum := "11fac4120b6960ecc6100486b82a98cdc094bcd5329daa88bbead6c43d2bae30", func := "parlance/parlkeep3.MeanMore", spec := "meanMore", unfollowed := true, recurses := true, plainKeys := false, apart := false }
def MeanMoreSaid : Prop := meanMoreRow.holds Try.pinned (OpenSpec.ofChange meanMoreSpec)

/-- ITS FALSE NEIGHBOUR: 'it returns false'. Refute it at one input. -/
def meanMoreWrong : ChangeSpec := { name := "meanMore", fn := fun _ => fun
  | [d1, d2, d3] => { results := [.lit (.bool false)], args := [d1, d2, d3] }
  | _ => none }
def MeanMoreWrongFalsely : Prop := meanMoreRow.holds Try.pinned (OpenSpec.ofChange meanMoreWrong)

/-- 'parlkeep3.MeanMirrored': WHATEVER THE INPUT: true; the input reads as it did. -/
def meanMirroredSpec : ChangeSpec := { name := "meanMirrored", fn := fun _ => fun
  | [d1, d2] => { results := [.lit (.bool true)], args := [d1, d2] }
  | _ => none }
def meanMirroredRow : OpenClaim := { program := "ytcndbohiiodndaa", sum := "11fac4120b6960ecc6100486b82a98cdc094bcd5329daa88bbead6c43d2bae30", func := "parlance/parlkeep3.MeanMirrored", spec := "meanMirrored", unfollowed := true, recurses := true, plainKeys := false, apart := false }
def MeanMirroredSaid : Prop := meanMirroredRow.holds Try.pinned (OpenSpec.ofChange meanMirroredSpec)

/-- ITS FALSE NEIGHBOUR: 'it returns false'. Refute it at one input. -/
def meanMirroredWrong : ChangeSpec := { name := "meanMirrored", fn := fun _ => fun
  | [d1, d2] => { results := [.lit (.bool false)], args := [d1, d2] }
  | _ => none }
def MeanMirroredWrongFalsely : Prop := meanMirroredRow.holds Try.pinned (OpenSpec.ofChange meanMirroredWrong)

/-- 'parlkeep3.MeanJoined': WHATEVER THE INPUT: true; the input reads as it did. -/
def meanJoinedSpec : ChangeSpec := { name := "meanJoined", fn := fun _ => fun
  | [d1, d2] => { results := [.lit (.bool true)], args := [d1, d2] }
  | _ => none }
def meanJoinedRow : OpenClaim := { program := "ytcndbohiiodndaa", sum := "11fac4120b6960ecc6100486b82a98cdc094bcd5329daa88bbead6c43d2bae30", func := "parlance/parlkeep3.MeanJoined", spec := "meanJoined", unfollowed := true, recurses := true, plainKeys := false, apart := false }
def MeanJoinedSaid : Prop := meanJoinedRow.holds Try.pinned (OpenSpec.ofChange meanJoinedSpec)

/-- ITS FALSE NEIGHBOUR: 'it returns false'. Refute it at one input. -/
def meanJoinedWrong : ChangeSpec := { name := "meanJoined", fn := fun _ => fun
  | [d1, d2] => { results := [.lit (.bool false)], args := [d1, d2] }
  | _ => none }
def MeanJoinedWrongFalsely : Prop := meanJoinedRow.holds Try.pinned (OpenSpec.ofChange meanJoinedWrong)

/-- 'parlkeep3.MeanNamed': WHATEVER THE INPUT: true; the input reads as it did. -/
def meanNamedSpec : ChangeSpec := { name := "meanNamed", fn := fun _ => fun
  | [d1, d2, d3] => { results := [.lit (.bool true)], args := [d1, d2, d3] }
  | _ => none }
def meanNamedRow : OpenClaim := { program := "ytcndbohiiodndaa", sum := "11fac4120b6960ecc6100486b82a98cdc094bcd5329daa88bbead6c43d2bae30", func := "parlance/parlkeep3.MeanNamed", spec := "meanNamed", unfollowed := true, recurses := true, plainKeys := false, apart := false }
def MeanNamedSaid : Prop := meanNamedRow.holds Try.pinned (OpenSpec.ofChange meanNamedSpec)

/-- ITS FALSE NEIGHBOUR: 'it returns false'. Refute it at one input. -/
def meanNamedWrong : ChangeSpec := { name := "meanNamed", fn := fun _ => fun
  | [d1, d2, d3] => { results := [.lit (.bool false)], args := [d1, d2, d3] }
  | _ => none }
def MeanNamedWrongFalsely : Prop := meanNamedRow.holds Try.pinned (OpenSpec.ofChange meanNamedWrong)

/-- 'parlkeep3.MeanOwn': WHATEVER THE INPUT: true; the input reads as it did. -/
def meanOwnSpec : ChangeSpec := { name := "meanOwn", fn := fun _ => fun
  | [d1, d2] => { results := [.lit (.bool true)], args := [d1, d2] }
  | _ => none }
def meanOwnRow : OpenClaim := { program := "ytcndbohiiodndaa", sum := "11fac4120b6960ecc6100486b82a98cdc094bcd5329daa88bbead6c43d2bae30", func := "parlance/parlkeep3.MeanOwn", spec := "meanOwn", unfollowed := true, recurses := true, plainKeys := false, apart := false }
def MeanOwnSaid : Prop := meanOwnRow.holds Try.pinned (OpenSpec.ofChange meanOwnSpec)

/-- ITS FALSE NEIGHBOUR: 'it returns false'. Refute it at one input. -/
def meanOwnWrong : ChangeSpec := { name := "meanOwn", fn := fun _ => fun
  | [d1, d2] => { results := [.lit (.bool false)], args := [d1, d2] }
  | _ => none }
def MeanOwnWrongFalsely : Prop := meanOwnRow.holds Try.pinned (OpenSpec.ofChange meanOwnWrong)

/-- 'parlkeep3.EarleyBegins': WHATEVER THE INPUT: true; the input reads as it did. -/
def earleyBeginsSpec : ChangeSpec := { name := "earleyBegins", fn := fun _ => fun
  | [d1, d2, d3] => { results := [.lit (.bool true)], args := [d1, d2, d3] }
  | _ => none }
def earleyBeginsRow : OpenClaim := { program := "ytcndbohiiodndaa", sum := "11fac4120b6960ecc6100486b82a98cdc094bcd5329daa88bbead6c43d2bae30", func := "parlance/parlkeep3.EarleyBegins", spec := "earleyBegins", unfollowed := true, recurses := true, plainKeys := false, apart := false }
def EarleyBeginsSaid : Prop := earleyBeginsRow.holds Try.pinned (OpenSpec.ofChange earleyBeginsSpec)

/-- ITS FALSE NEIGHBOUR: 'it returns false'. Refute it at one input. -/
def earleyBeginsWrong : ChangeSpec := { name := "earleyBegins", fn := fun _ => fun
  | [d1, d2, d3] => { results := [.lit (.bool false)], args := [d1, d2, d3] }
  | _ => none }
def EarleyBeginsWrongFalsely : Prop := earleyBeginsRow.holds Try.pinned (OpenSpec.ofChange earleyBeginsWrong)

/-- 'parlkeep3.PredictOnly': WHATEVER THE INPUT: true; the input reads as it did. -/
def predictOnlySpec : ChangeSpec := { name := "predictOnly", fn := fun _ => fun
  | [d1, d2] => { results := [.lit (.bool true)], args := [d1, d2] }
  | _ => none }
def predictOnlyRow : OpenClaim := { program := "ytcndbohiiodndaa", sum := "11fac4120b6960ecc6100486b82a98cdc094bcd5329daa88bbead6c43d2bae30", func := "parlance/parlkeep3.PredictOnly", spec := "predictOnly", unfollowed := true, recurses := true, plainKeys := false, apart := false }
def PredictOnlySaid : Prop := predictOnlyRow.holds Try.pinned (OpenSpec.ofChange predictOnlySpec)

/-- ITS FALSE NEIGHBOUR: 'it returns false'. Refute it at one input. -/
def predictOnlyWrong : ChangeSpec := { name := "predictOnly", fn := fun _ => fun
  | [d1, d2] => { results := [.lit (.bool false)], args := [d1, d2] }
  | _ => none }
def PredictOnlyWrongFalsely : Prop := predictOnlyRow.holds Try.pinned (OpenSpec.ofChange predictOnlyWrong)

/-- 'parlkeep3.FeedBack': WHATEVER THE INPUT: true; the input reads as it did. -/
def feedBackSpec : ChangeSpec := { name := "feedBack", fn := fun _ => fun
  | [d1, d2, d3, d4] => { results := [.lit (.bool true)], args := [d1, d2, d3, d4] }
  | _ => none }
def feedBackRow : OpenClaim := { program := "ytcndbohiiodndaa", sum := "11fac4120b6960ecc6100486b82a98cdc094bcd5329daa88bbead6c43d2bae30", func := "parlance/parlkeep3.FeedBack", spec := "feedBack", unfollowed := true, recurses := true, plainKeys := false, apart := false }
def FeedBackSaid : Prop := feedBackRow.holds Try.pinned (OpenSpec.ofChange feedBackSpec)

/-- ITS FALSE NEIGHBOUR: 'it returns false'. Refute it at one input. -/
def feedBackWrong : ChangeSpec := { name := "feedBack", fn := fun _ => fun
  | [d1, d2, d3, d4] => { results := [.lit (.bool false)], args := [d1, d2, d3, d4] }
  | _ => none }
def FeedBackWrongFalsely : Prop := feedBackRow.holds Try.pinned (OpenSpec.ofChange feedBackWrong)

/-- 'parlkeep3.FeedOwn': WHATEVER THE INPUT: true; the input reads as it did. -/
def feedOwnSpec : ChangeSpec := { name := "feedOwn", fn := fun _ => fun
  | [d1, d2] => { results := [.lit (.bool true)], args := [d1, d2] }
  | _ => none }
def feedOwnRow : OpenClaim := { program := "ytcndbohiiodndaa", sum := "11fac4120b6960ecc6100486b82a98cdc094bcd5329daa88bbead6c43d2bae30", func := "parlance/parlkeep3.FeedOwn", spec := "feedOwn", unfollowed := true, recurses := true, plainKeys := false, apart := false }
def FeedOwnSaid : Prop := feedOwnRow.holds Try.pinned (OpenSpec.ofChange feedOwnSpec)

/-- ITS FALSE NEIGHBOUR: 'it returns false'. Refute it at one input. -/
def feedOwnWrong : ChangeSpec := { name := "feedOwn", fn := fun _ => fun
  | [d1, d2] => { results := [.lit (.bool false)], args := [d1, d2] }
  | _ => none }
def FeedOwnWrongFalsely : Prop := feedOwnRow.holds Try.pinned (OpenSpec.ofChange feedOwnWrong)

/- THE SECOND FORM. 'bulk': how many values and letters a reading holds, each counted each time it is reached (what is shared counts as often as it is met; a slice's spare places count too). A statement '..UptoSaid' is the law's where the arguments, and the package variables that the reading takes, are together of bulk at most 1048576: NARROWER than '..Said'. Prove '..Said' where nothing that the law and all that it calls make is longer than what came in: it says more and counts as full. Else prove '..UptoSaid'. A law counts once. -/
mutual
def uptoBulk {H : Type} : DataW H → Nat
  | .lit (.string bytes) => bytes.length + 1
  | .lit _ => 1
  | .nil => 1
  | .ptr d => uptoBulk d + 1
  | .slice elems spare => uptoBulkAll elems + uptoBulkAll spare + 1
  | .agg parts => uptoBulkAll parts + 1
  | .iface _ d => uptoBulk d + 1
  | .map entries => uptoBulkEntries entries + 1
  | .held _ => 1
def uptoBulkAll {H : Type} : List (DataW H) → Nat
  | [] => 0
  | d :: r => uptoBulk d + uptoBulkAll r
def uptoBulkEntries {H : Type} : List (Lit × DataW H) → Nat
  | [] => 0
  | x :: r => uptoBulkEntry x + uptoBulkEntries r
def uptoBulkEntry {H : Type} : Lit × DataW H → Nat
  | (.string bytes, d) => bytes.length + uptoBulk d + 1
  | (_, d) => uptoBulk d + 1
 end
def uptoSmall : (H : Type) → List (DataW H) → Bool := fun _ ds => decide (uptoBulkAll ds ≤ 1048576)
def OpenSpec.upto (s : _root_.Go.ChangeSpec) : _root_.Go.OpenSpec := { _root_.Go.OpenSpec.ofChange s with cond := some uptoSmall }

/-- 'parlkeep3.FeedWords', WHERE WHAT IT READS IS OF BULK AT MOST 1048576: true; the input reads as it did. -/
def feedWordsUptoRow : OpenClaim := { program := "ytcndbohiiodndaa", sum := "11fac4120b6960ecc6100486b82a98cdc094bcd5329daa88bbead6c43d2bae30", func := "parlance/parlkeep3.FeedWords", spec := "feedWords", unfollowed := true, recurses := true, plainKeys := false, apart := false, narrowed := true }
def FeedWordsUptoSaid : Prop := feedWordsUptoRow.holds Try.pinned (OpenSpec.upto feedWordsSpec)

/-- 'parlkeep3.MeanListed', WHERE WHAT IT READS IS OF BULK AT MOST 1048576: true; the input reads as it did. -/
def meanListedUptoRow : OpenClaim := { program := "ytcndbohiiodndaa", sum := "11fac4120b6960ecc6100486b82a98cdc094bcd5329daa88bbead6c43d2bae30", func := "parlance/parlkeep3.MeanListed", spec := "meanListed", unfollowed := true, recurses := true, plainKeys := false, apart := false, narrowed := true }
def MeanListedUptoSaid : Prop := meanListedUptoRow.holds Try.pinned (OpenSpec.upto meanListedSpec)

/-- 'parlkeep3.EarleyItems', WHERE WHAT IT READS IS OF BULK AT MOST 1048576: true; the input reads as it did. -/
def earleyItemsUptoRow : OpenClaim := { program := "ytcndbohiiodndaa", sum := "11fac4120b6960ecc6100486b82a98cdc094bcd5329daa88bbead6c43d2bae30", func := "parlance/parlkeep3.EarleyItems", spec := "earleyItems", unfollowed := true, recurses := true, plainKeys := false, apart := false, narrowed := true }
def EarleyItemsUptoSaid : Prop := earleyItemsUptoRow.holds Try.pinned (OpenSpec.upto earleyItemsSpec)

/-- 'parlkeep3.CykParts', WHERE WHAT IT READS IS OF BULK AT MOST 1048576: true; the input reads as it did. -/
def cykPartsUptoRow : OpenClaim := { program := "ytcndbohiiodndaa", sum := "11fac4120b6960ecc6100486b82a98cdc094bcd5329daa88bbead6c43d2bae30", func := "parlance/parlkeep3.CykParts", spec := "cykParts", unfollowed := true, recurses := true, plainKeys := false, apart := false, narrowed := true }
def CykPartsUptoSaid : Prop := cykPartsUptoRow.holds Try.pinned (OpenSpec.upto cykPartsSpec)

/-- 'parlkeep3.CykJoins', WHERE WHAT IT READS IS OF BULK AT MOST 1048576: true; the input reads as it did. -/
def cykJoinsUptoRow : OpenClaim := { program := "ytcndbohiiodndaa", sum := "11fac4120b6960ecc6100486b82a98cdc094bcd5329daa88bbead6c43d2bae30", func := "parlance/parlkeep3.CykJoins", spec := "cykJoins", unfollowed := true, recurses := true, plainKeys := false, apart := false, narrowed := true }
def CykJoinsUptoSaid : Prop := cykJoinsUptoRow.holds Try.pinned (OpenSpec.upto cykJoinsSpec)

/-- 'parlkeep3.MeanMore', WHERE WHAT IT READS IS OF BULK AT MOST 1048576: true; the input reads as it did. -/
def meanMoreUptoRow : OpenClaim := { program := "ytcndbohiiodndaa", sum := "11fac4120b6960ecc6100486b82a98cdc094bcd5329daa88bbead6c43d2bae30", func := "parlance/parlkeep3.MeanMore", spec := "meanMore", unfollowed := true, recurses := true, plainKeys := false, apart := false, narrowed := true }
def MeanMoreUptoSaid : Prop := meanMoreUptoRow.holds Try.pinned (OpenSpec.upto meanMoreSpec)

/-- 'parlkeep3.MeanMirrored', WHERE WHAT IT READS IS OF BULK AT MOST 1048576: true; the input reads as it did. -/
def meanMirroredUptoRow : OpenClaim := { program := "ytcndbohiiodndaa", sum := "11fac4120b6960ecc6100486b82a98cdc094bcd5329daa88bbead6c43d2bae30", func := "parlance/parlkeep3.MeanMirrored", spec := "meanMirrored", unfollowed := true, recurses := true, plainKeys := false, apart := false, narrowed := true }
def MeanMirroredUptoSaid : Prop := meanMirroredUptoRow.holds Try.pinned (OpenSpec.upto meanMirroredSpec)

/-- 'parlkeep3.MeanJoined', WHERE WHAT IT READS IS OF BULK AT MOST 1048576: true; the input reads as it did. -/
def meanJoinedUptoRow : OpenClaim := { program := "ytcndbohiiodndaa", sum := "11fac4120b6960ecc6100486b82a98cdc094bcd5329daa88bbead6c43d2bae30", func := "parlance/parlkeep3.MeanJoined", spec := "meanJoined", unfollowed := true, recurses := true, plainKeys := false, apart := false, narrowed := true }
def MeanJoinedUptoSaid : Prop := meanJoinedUptoRow.holds Try.pinned (OpenSpec.upto meanJoinedSpec)

/-- 'parlkeep3.MeanNamed', WHERE WHAT IT READS IS OF BULK AT MOST 1048576: true; the input reads as it did. -/
def meanNamedUptoRow : OpenClaim := { program := "ytcndbohiiodndaa", sum := "11fac4120b6960ecc6100486b82a98cdc094bcd5329daa88bbead6c43d2bae30", func := "parlance/parlkeep3.MeanNamed", spec := "meanNamed", unfollowed := true, recurses := true, plainKeys := false, apart := false, narrowed := true }
def MeanNamedUptoSaid : Prop := meanNamedUptoRow.holds Try.pinned (OpenSpec.upto meanNamedSpec)

/-- 'parlkeep3.MeanOwn', WHERE WHAT IT READS IS OF BULK AT MOST 1048576: true; the input reads as it did. -/
def meanOwnUptoRow : OpenClaim := { program := "ytcndbohiiodndaa", sum := "11fac4120b6960ecc6100486b82a98cdc094bcd5329daa88bbead6c43d2bae30", func := "parlance/parlkeep3.MeanOwn", spec := "meanOwn", unfollowed := true, recurses := true, plainKeys := false, apart := false, narrowed := true }
def MeanOwnUptoSaid : Prop := meanOwnUptoRow.holds Try.pinned (OpenSpec.upto meanOwnSpec)

/-- 'parlkeep3.EarleyBegins', WHERE WHAT IT READS IS OF BULK AT MOST 1048576: true; the input reads as it did. -/
def earleyBeginsUptoRow : OpenClaim := { program := "ytcndbohiiodndaa", sum := "11fac4120b6960ecc6100486b82a98cdc094bcd5329daa88bbead6c43d2bae30", func := "parlance/parlkeep3.EarleyBegins", spec := "earleyBegins", unfollowed := true, recurses := true, plainKeys := false, apart := false, narrowed := true }
def EarleyBeginsUptoSaid : Prop := earleyBeginsUptoRow.holds Try.pinned (OpenSpec.upto earleyBeginsSpec)

/-- 'parlkeep3.PredictOnly', WHERE WHAT IT READS IS OF BULK AT MOST 1048576: true; the input reads as it did. -/
def predictOnlyUptoRow : OpenClaim := { program := "ytcndbohiiodndaa", sum := "11fac4120b6960ecc6100486b82a98cdc094bcd5329daa88bbead6c43d2bae30", func := "parlance/parlkeep3.PredictOnly", spec := "predictOnly", unfollowed := true, recurses := true, plainKeys := false, apart := false, narrowed := true }
def PredictOnlyUptoSaid : Prop := predictOnlyUptoRow.holds Try.pinned (OpenSpec.upto predictOnlySpec)

/-- 'parlkeep3.FeedBack', WHERE WHAT IT READS IS OF BULK AT MOST 1048576: true; the input reads as it did. -/
def feedBackUptoRow : OpenClaim := { program := "ytcndbohiiodndaa", sum := "11fac4120b6960ecc6100486b82a98cdc094bcd5329daa88bbead6c43d2bae30", func := "parlance/parlkeep3.FeedBack", spec := "feedBack", unfollowed := true, recurses := true, plainKeys := false, apart := false, narrowed := true }
def FeedBackUptoSaid : Prop := feedBackUptoRow.holds Try.pinned (OpenSpec.upto feedBackSpec)

/-- 'parlkeep3.FeedOwn', WHERE WHAT IT READS IS OF BULK AT MOST 1048576: true; the input reads as it did. -/
def feedOwnUptoRow : OpenClaim := { program := "ytcndbohiiodndaa", sum := "11fac4120b6960ecc6100486b82a98cdc094bcd5329daa88bbead6c43d2bae30", func := "parlance/parlkeep3.FeedOwn", spec := "feedOwn", unfollowed := true, recurses := true, plainKeys := false, apart := false, narrowed := true }
def FeedOwnUptoSaid : Prop := feedOwnUptoRow.holds Try.pinned (OpenSpec.upto feedOwnSpec)

end Rows
end Go.Proofs.Ytcndbohiiodndaa
