/-
  No cell of these rows narrows 'for every input' (looked for: loops, veiled, ifaces, maps, wideKeys, modest, calm, conditions, laid).
  DERIVED. THE GIVEN ROWS OF THIS SEAT. 12 by the template 'for every input the law returns true; each argument reads behind the call as it read before'; 0 by the template 'total and deterministic' (their statements: YtodmkjeankbieabTotals.lean).
  GIVEN WITH THE SEED: the statements are not yours to turn. If you find one false, say at which input.
  Laid BY PROGRAM, IN A SANDBOX (cutbox-rows.mjs): the forced cells as the released guide's own fill.sh prints them over the translation 16da34d53700f478… (all of the seat's roots in one cut). By AI agents, Wed Nov 11 2026. No macro, syntax, notation, axiom, sorry.
-/
import Derived.Test.YtodmkjeankbieabChecked
import GoSem.Claim
import GoSem.ClaimJoined
import GoSem.ClaimMapViews
import Derived.JoinedTies
import Derived.KernelRfl
namespace Go.Proofs.Ytodmkjeankbieab
/- THE CELL 'sum', in the pinned program and in every row, IS THE sha256 OF THE DUMP (.gsa) THAT YtodmkjeankbieabProg.lean LOADS. Nothing in Lean hashes anything: it is a label: what it is worth is what the hold of that sum in a sandbox is worth. -/
noncomputable def Try.pinned : Pinned := { name := "ytodmkjeankbieab", sum := "16da34d53700f4788921e1e11c5992d67ad85a6a6aa34ee65912ca3adc6d228d", checked := Try.checked }
namespace Rows
def none {H : Type} : Left H := { results := [], args := [] }

/-- 'loanbooklaw.RunRuns': WHATEVER THE INPUT: true; the input reads as it did. -/
def runRunsSpec : ChangeSpec := { name := "runRuns", fn := fun _ => fun
  | [d1, d2, d3] => { results := [.lit (.bool true)], args := [d1, d2, d3] }
  | _ => none }
def runRunsRow : OpenClaim := { program := "ytodmkjeankbieab", sum := "16da34d53700f4788921e1e11c5992d67ad85a6a6aa34ee65912ca3adc6d228d", func := "loanbook/loanbooklaw.RunRuns", spec := "runRuns", unfollowed := true, recurses := true, plainKeys := false, apart := false }
def RunRunsSaid : Prop := runRunsRow.holds Try.pinned (OpenSpec.ofChange runRunsSpec)

/-- ITS FALSE NEIGHBOUR: 'it returns false'. Refute it at one input. -/
def runRunsWrong : ChangeSpec := { name := "runRuns", fn := fun _ => fun
  | [d1, d2, d3] => { results := [.lit (.bool false)], args := [d1, d2, d3] }
  | _ => none }
def RunRunsWrongFalsely : Prop := runRunsRow.holds Try.pinned (OpenSpec.ofChange runRunsWrong)

/-- 'loanbookkeep.RunLonger': WHATEVER THE INPUT: true; the input reads as it did. -/
def runLongerSpec : ChangeSpec := { name := "runLonger", fn := fun _ => fun
  | [d1, d2, d3, d4] => { results := [.lit (.bool true)], args := [d1, d2, d3, d4] }
  | _ => none }
def runLongerRow : OpenClaim := { program := "ytodmkjeankbieab", sum := "16da34d53700f4788921e1e11c5992d67ad85a6a6aa34ee65912ca3adc6d228d", func := "loanbook/loanbookkeep.RunLonger", spec := "runLonger", unfollowed := true, recurses := true, plainKeys := false, apart := false }
def RunLongerSaid : Prop := runLongerRow.holds Try.pinned (OpenSpec.ofChange runLongerSpec)

/-- ITS FALSE NEIGHBOUR: 'it returns false'. Refute it at one input. -/
def runLongerWrong : ChangeSpec := { name := "runLonger", fn := fun _ => fun
  | [d1, d2, d3, d4] => { results := [.lit (.bool false)], args := [d1, d2, d3, d4] }
  | _ => none }
def RunLongerWrongFalsely : Prop := runLongerRow.holds Try.pinned (OpenSpec.ofChange runLongerWrong)

/-- 'loanbooklaw.NearTells': WHATEVER THE INPUT: true; the input reads as it did. -/
def nearTellsSpec : ChangeSpec := { name := "nearTells", fn := fun _ => fun
  | [d] => { results := [.lit (.bool true)], args := [d] }
  | _ => none }
def nearTellsRow : OpenClaim := { program := "ytodmkjeankbieab", sum := "16da34d53700f4788921e1e11c5992d67ad85a6a6aa34ee65912ca3adc6d228d", func := "loanbook/loanbooklaw.NearTells", spec := "nearTells", unfollowed := true, recurses := true, plainKeys := false, apart := false }
def NearTellsSaid : Prop := nearTellsRow.holds Try.pinned (OpenSpec.ofChange nearTellsSpec)

/-- ITS FALSE NEIGHBOUR: 'it returns false'. Refute it at one input. -/
def nearTellsWrong : ChangeSpec := { name := "nearTells", fn := fun _ => fun
  | [d] => { results := [.lit (.bool false)], args := [d] }
  | _ => none }
def NearTellsWrongFalsely : Prop := nearTellsRow.holds Try.pinned (OpenSpec.ofChange nearTellsWrong)

/-- 'loanbookkeep.NearBoth': WHATEVER THE INPUT: true; the input reads as it did. -/
def nearBothSpec : ChangeSpec := { name := "nearBoth", fn := fun _ => fun
  | [d] => { results := [.lit (.bool true)], args := [d] }
  | _ => none }
def nearBothRow : OpenClaim := { program := "ytodmkjeankbieab", sum := "16da34d53700f4788921e1e11c5992d67ad85a6a6aa34ee65912ca3adc6d228d", func := "loanbook/loanbookkeep.NearBoth", spec := "nearBoth", unfollowed := true, recurses := true, plainKeys := false, apart := false }
def NearBothSaid : Prop := nearBothRow.holds Try.pinned (OpenSpec.ofChange nearBothSpec)

/-- ITS FALSE NEIGHBOUR: 'it returns false'. Refute it at one input. -/
def nearBothWrong : ChangeSpec := { name := "nearBoth", fn := fun _ => fun
  | [d] => { results := [.lit (.bool false)], args := [d] }
  | _ => none }
def NearBothWrongFalsely : Prop := nearBothRow.holds Try.pinned (OpenSpec.ofChange nearBothWrong)

/-- 'loanbooklaw.DoneRuns': WHATEVER THE INPUT: true; the input reads as it did. -/
def doneRunsSpec : ChangeSpec := { name := "doneRuns", fn := fun _ => fun
  | [d1, d2, d3, d4, d5] => { results := [.lit (.bool true)], args := [d1, d2, d3, d4, d5] }
  | _ => none }
def doneRunsRow : OpenClaim := { program := "ytodmkjeankbieab", sum := "16da34d53700f4788921e1e11c5992d67ad85a6a6aa34ee65912ca3adc6d228d", func := "loanbook/loanbooklaw.DoneRuns", spec := "doneRuns", unfollowed := true, recurses := true, plainKeys := false, apart := false }
def DoneRunsSaid : Prop := doneRunsRow.holds Try.pinned (OpenSpec.ofChange doneRunsSpec)

/-- ITS FALSE NEIGHBOUR: 'it returns false'. Refute it at one input. -/
def doneRunsWrong : ChangeSpec := { name := "doneRuns", fn := fun _ => fun
  | [d1, d2, d3, d4, d5] => { results := [.lit (.bool false)], args := [d1, d2, d3, d4, d5] }
  | _ => none }
def DoneRunsWrongFalsely : Prop := doneRunsRow.holds Try.pinned (OpenSpec.ofChange doneRunsWrong)

/-- 'loanbooklaw.CheckTells': WHATEVER THE INPUT: true; the input reads as it did. -/
def checkTellsSpec : ChangeSpec := { name := "checkTells", fn := fun _ => fun
  | [d1, d2, d3] => { results := [.lit (.bool true)], args := [d1, d2, d3] }
  | _ => none }
def checkTellsRow : OpenClaim := { program := "ytodmkjeankbieab", sum := "16da34d53700f4788921e1e11c5992d67ad85a6a6aa34ee65912ca3adc6d228d", func := "loanbook/loanbooklaw.CheckTells", spec := "checkTells", unfollowed := true, recurses := true, plainKeys := false, apart := false }
def CheckTellsSaid : Prop := checkTellsRow.holds Try.pinned (OpenSpec.ofChange checkTellsSpec)

/-- ITS FALSE NEIGHBOUR: 'it returns false'. Refute it at one input. -/
def checkTellsWrong : ChangeSpec := { name := "checkTells", fn := fun _ => fun
  | [d1, d2, d3] => { results := [.lit (.bool false)], args := [d1, d2, d3] }
  | _ => none }
def CheckTellsWrongFalsely : Prop := checkTellsRow.holds Try.pinned (OpenSpec.ofChange checkTellsWrong)

/-- 'loanbooklaw.CheckSound': WHATEVER THE INPUT: true; the input reads as it did. -/
def checkSoundSpec : ChangeSpec := { name := "checkSound", fn := fun _ => fun
  | [d1, d2, d3, d4, d5] => { results := [.lit (.bool true)], args := [d1, d2, d3, d4, d5] }
  | _ => none }
def checkSoundRow : OpenClaim := { program := "ytodmkjeankbieab", sum := "16da34d53700f4788921e1e11c5992d67ad85a6a6aa34ee65912ca3adc6d228d", func := "loanbook/loanbooklaw.CheckSound", spec := "checkSound", unfollowed := true, recurses := true, plainKeys := false, apart := false }
def CheckSoundSaid : Prop := checkSoundRow.holds Try.pinned (OpenSpec.ofChange checkSoundSpec)

/-- ITS FALSE NEIGHBOUR: 'it returns false'. Refute it at one input. -/
def checkSoundWrong : ChangeSpec := { name := "checkSound", fn := fun _ => fun
  | [d1, d2, d3, d4, d5] => { results := [.lit (.bool false)], args := [d1, d2, d3, d4, d5] }
  | _ => none }
def CheckSoundWrongFalsely : Prop := checkSoundRow.holds Try.pinned (OpenSpec.ofChange checkSoundWrong)

/-- 'loanbooklaw.ColorApart': WHATEVER THE INPUT: true; the input reads as it did. -/
def colorApartSpec : ChangeSpec := { name := "colorApart", fn := fun _ => fun
  | [d1, d2] => { results := [.lit (.bool true)], args := [d1, d2] }
  | _ => none }
def colorApartRow : OpenClaim := { program := "ytodmkjeankbieab", sum := "16da34d53700f4788921e1e11c5992d67ad85a6a6aa34ee65912ca3adc6d228d", func := "loanbook/loanbooklaw.ColorApart", spec := "colorApart", unfollowed := true, recurses := true, plainKeys := false, apart := false }
def ColorApartSaid : Prop := colorApartRow.holds Try.pinned (OpenSpec.ofChange colorApartSpec)

/-- ITS FALSE NEIGHBOUR: 'it returns false'. Refute it at one input. -/
def colorApartWrong : ChangeSpec := { name := "colorApart", fn := fun _ => fun
  | [d1, d2] => { results := [.lit (.bool false)], args := [d1, d2] }
  | _ => none }
def ColorApartWrongFalsely : Prop := colorApartRow.holds Try.pinned (OpenSpec.ofChange colorApartWrong)

/-- 'loanbooklaw.BuildTakes': WHATEVER THE INPUT: true; the input reads as it did. -/
def buildTakesSpec : ChangeSpec := { name := "buildTakes", fn := fun _ => fun
  | [d1, d2] => { results := [.lit (.bool true)], args := [d1, d2] }
  | _ => none }
def buildTakesRow : OpenClaim := { program := "ytodmkjeankbieab", sum := "16da34d53700f4788921e1e11c5992d67ad85a6a6aa34ee65912ca3adc6d228d", func := "loanbook/loanbooklaw.BuildTakes", spec := "buildTakes", unfollowed := true, recurses := true, plainKeys := false, apart := false }
def BuildTakesSaid : Prop := buildTakesRow.holds Try.pinned (OpenSpec.ofChange buildTakesSpec)

/-- ITS FALSE NEIGHBOUR: 'it returns false'. Refute it at one input. -/
def buildTakesWrong : ChangeSpec := { name := "buildTakes", fn := fun _ => fun
  | [d1, d2] => { results := [.lit (.bool false)], args := [d1, d2] }
  | _ => none }
def BuildTakesWrongFalsely : Prop := buildTakesRow.holds Try.pinned (OpenSpec.ofChange buildTakesWrong)

/-- 'loanbooklaw.BuildSame': WHATEVER THE INPUT: true; the input reads as it did. -/
def buildSameSpec : ChangeSpec := { name := "buildSame", fn := fun _ => fun
  | [d1, d2, d3, d4] => { results := [.lit (.bool true)], args := [d1, d2, d3, d4] }
  | _ => none }
def buildSameRow : OpenClaim := { program := "ytodmkjeankbieab", sum := "16da34d53700f4788921e1e11c5992d67ad85a6a6aa34ee65912ca3adc6d228d", func := "loanbook/loanbooklaw.BuildSame", spec := "buildSame", unfollowed := true, recurses := true, plainKeys := false, apart := false }
def BuildSameSaid : Prop := buildSameRow.holds Try.pinned (OpenSpec.ofChange buildSameSpec)

/-- ITS FALSE NEIGHBOUR: 'it returns false'. Refute it at one input. -/
def buildSameWrong : ChangeSpec := { name := "buildSame", fn := fun _ => fun
  | [d1, d2, d3, d4] => { results := [.lit (.bool false)], args := [d1, d2, d3, d4] }
  | _ => none }
def BuildSameWrongFalsely : Prop := buildSameRow.holds Try.pinned (OpenSpec.ofChange buildSameWrong)

/-- 'loanbookkeep.CheckIdle': WHATEVER THE INPUT: true; the input reads as it did. -/
def checkIdleSpec : ChangeSpec := { name := "checkIdle", fn := fun _ => fun
  | [d1, d2, d3, d4] => { results := [.lit (.bool true)], args := [d1, d2, d3, d4] }
  | _ => none }
def checkIdleRow : OpenClaim := { program := "ytodmkjeankbieab", sum := "16da34d53700f4788921e1e11c5992d67ad85a6a6aa34ee65912ca3adc6d228d", func := "loanbook/loanbookkeep.CheckIdle", spec := "checkIdle", unfollowed := true, recurses := true, plainKeys := false, apart := false }
def CheckIdleSaid : Prop := checkIdleRow.holds Try.pinned (OpenSpec.ofChange checkIdleSpec)

/-- ITS FALSE NEIGHBOUR: 'it returns false'. Refute it at one input. -/
def checkIdleWrong : ChangeSpec := { name := "checkIdle", fn := fun _ => fun
  | [d1, d2, d3, d4] => { results := [.lit (.bool false)], args := [d1, d2, d3, d4] }
  | _ => none }
def CheckIdleWrongFalsely : Prop := checkIdleRow.holds Try.pinned (OpenSpec.ofChange checkIdleWrong)

/-- 'loanbooklaw.CheckFacts': WHATEVER THE INPUT: true; the input reads as it did. -/
def checkFactsSpec : ChangeSpec := { name := "checkFacts", fn := fun _ => fun
  | [d1, d2, d3] => { results := [.lit (.bool true)], args := [d1, d2, d3] }
  | _ => none }
def checkFactsRow : OpenClaim := { program := "ytodmkjeankbieab", sum := "16da34d53700f4788921e1e11c5992d67ad85a6a6aa34ee65912ca3adc6d228d", func := "loanbook/loanbooklaw.CheckFacts", spec := "checkFacts", unfollowed := true, recurses := true, plainKeys := false, apart := false }
def CheckFactsSaid : Prop := checkFactsRow.holds Try.pinned (OpenSpec.ofChange checkFactsSpec)

/-- ITS FALSE NEIGHBOUR: 'it returns false'. Refute it at one input. -/
def checkFactsWrong : ChangeSpec := { name := "checkFacts", fn := fun _ => fun
  | [d1, d2, d3] => { results := [.lit (.bool false)], args := [d1, d2, d3] }
  | _ => none }
def CheckFactsWrongFalsely : Prop := checkFactsRow.holds Try.pinned (OpenSpec.ofChange checkFactsWrong)

/- THE SECOND FORM. 'bulk': how many values and letters a reading holds, each counted each time it is reached (what is shared counts as often as it is met; a slice's spare places count too). A statement '..UptoSaid' is the law's where the arguments, and the package variables that the reading takes, are together of bulk at most 1048576: NARROWER than '..Said'. Prove '..Said' where nothing that the law and all that it calls make is longer than what came in: it says more and counts as full. Else prove '..UptoSaid'. A law counts once. -/
mutual
def uptoBulk {H : Type} : DataW H → Nat
  | .lit (.string bytes) => bytes.length + 1
  | .lit _ => 1
  | .nil => 1
  | .ptr d => uptoBulk d + 1
  | .slice elems spare => uptoBulkAll elems + uptoBulkAll spare + 1
  | .agg parts => uptoBulkAll parts + 1
  | .iface _ d => uptoBulk d + 1
  | .map entries => uptoBulkEntries entries + 1
  | .held _ => 1
def uptoBulkAll {H : Type} : List (DataW H) → Nat
  | [] => 0
  | d :: r => uptoBulk d + uptoBulkAll r
def uptoBulkEntries {H : Type} : List (Lit × DataW H) → Nat
  | [] => 0
  | x :: r => uptoBulkEntry x + uptoBulkEntries r
def uptoBulkEntry {H : Type} : Lit × DataW H → Nat
  | (.string bytes, d) => bytes.length + uptoBulk d + 1
  | (_, d) => uptoBulk d + 1
 end
def uptoSmall : (H : Type) → List (DataW H) → Bool := fun _ ds => decide (uptoBulkAll ds ≤ 1048576)
def OpenSpec.upto (s : _root_.Go.ChangeSpec) : _root_.Go.OpenSpec := { _root_.Go.OpenSpec.ofChange s with cond := some uptoSmall }

/-- 'loanbooklaw.RunRuns', WHERE WHAT IT READS IS OF BULK AT MOST 1048576: true; the input reads as it did. -/
def runRunsUptoRow : OpenClaim := { program := "ytodmkjeankbieab", sum := "16da34d53700f4788921e1e11c5992d67ad85a6a6aa34ee65912ca3adc6d228d", func := "loanbook/loanbooklaw.RunRuns", spec := "runRuns", unfollowed := true, recurses := true, plainKeys := false, apart := false, narrowed := true }
def RunRunsUptoSaid : Prop := runRunsUptoRow.holds Try.pinned (OpenSpec.upto runRunsSpec)

/-- 'loanbookkeep.RunLonger', WHERE WHAT IT READS IS OF BULK AT MOST 1048576: true; the input reads as it did. -/
def runLongerUptoRow : OpenClaim := { program := "ytodmkjeankbieab", sum := "16da34d53700f4788921e1e11c5992d67ad85a6a6aa34ee65912ca3adc6d228d", func := "loanbook/loanbookkeep.RunLonger", spec := "runLonger", unfollowed := true, recurses := true, plainKeys := false, apart := false, narrowed := true }
def RunLongerUptoSaid : Prop := runLongerUptoRow.holds Try.pinned (OpenSpec.upto runLongerSpec)

/-- 'loanbooklaw.NearTells', WHERE WHAT IT READS IS OF BULK AT MOST 1048576: true; the input reads as it did. -/
def nearTellsUptoRow : OpenClaim := { program := "ytodmkjeankbieab", sum := "16da34d53700f4788921e1e11c5992d67ad85a6a6aa34ee65912ca3adc6d228d", func := "loanbook/loanbooklaw.NearTells", spec := "nearTells", unfollowed := true, recurses := true, plainKeys := false, apart := false, narrowed := true }
def NearTellsUptoSaid : Prop := nearTellsUptoRow.holds Try.pinned (OpenSpec.upto nearTellsSpec)

/-- 'loanbookkeep.NearBoth', WHERE WHAT IT READS IS OF BULK AT MOST 1048576: true; the input reads as it did. -/
def nearBothUptoRow : OpenClaim := { program := "ytodmkjeankbieab", sum := "16da34d53700f4788921e1e11c5992d67ad85a6a6aa34ee65912ca3adc6d228d", func := "loanbook/loanbookkeep.NearBoth", spec := "nearBoth", unfollowed := true, recurses := true, plainKeys := false, apart := false, narrowed := true }
def NearBothUptoSaid : Prop := nearBothUptoRow.holds Try.pinned (OpenSpec.upto nearBothSpec)

/-- 'loanbooklaw.DoneRuns', WHERE WHAT IT READS IS OF BULK AT MOST 1048576: true; the input reads as it did. -/
def doneRunsUptoRow : OpenClaim := { program := "ytodmkjeankbieab", sum := "16da34d53700f4788921e1e11c5992d67ad85a6a6aa34ee65912ca3adc6d228d", func := "loanbook/loanbooklaw.DoneRuns", spec := "doneRuns", unfollowed := true, recurses := true, plainKeys := false, apart := false, narrowed := true }
def DoneRunsUptoSaid : Prop := doneRunsUptoRow.holds Try.pinned (OpenSpec.upto doneRunsSpec)

/-- 'loanbooklaw.CheckTells', WHERE WHAT IT READS IS OF BULK AT MOST 1048576: true; the input reads as it did. -/
def checkTellsUptoRow : OpenClaim := { program := "ytodmkjeankbieab", sum := "16da34d53700f4788921e1e11c5992d67ad85a6a6aa34ee65912ca3adc6d228d", func := "loanbook/loanbooklaw.CheckTells", spec := "checkTells", unfollowed := true, recurses := true, plainKeys := false, apart := false, narrowed := true }
def CheckTellsUptoSaid : Prop := checkTellsUptoRow.holds Try.pinned (OpenSpec.upto checkTellsSpec)

/-- 'loanbooklaw.CheckSound', WHERE WHAT IT READS IS OF BULK AT MOST 1048576: true; the input reads as it did. -/
def checkSoundUptoRow : OpenClaim := { program := "ytodmkjeankbieab", sum := "16da34d53700f4788921e1e11c5992d67ad85a6a6aa34ee65912ca3adc6d228d", func := "loanbook/loanbooklaw.CheckSound", spec := "checkSound", unfollowed := true, recurses := true, plainKeys := false, apart := false, narrowed := true }
def CheckSoundUptoSaid : Prop := checkSoundUptoRow.holds Try.pinned (OpenSpec.upto checkSoundSpec)

/-- 'loanbooklaw.ColorApart', WHERE WHAT IT READS IS OF BULK AT MOST 1048576: true; the input reads as it did. -/
def colorApartUptoRow : OpenClaim := { program := "ytodmkjeankbieab", sum := "16da34d53700f4788921e1e11c5992d67ad85a6a6aa34ee65912ca3adc6d228d", func := "loanbook/loanbooklaw.ColorApart", spec := "colorApart", unfollowed := true, recurses := true, plainKeys := false, apart := false, narrowed := true }
def ColorApartUptoSaid : Prop := colorApartUptoRow.holds Try.pinned (OpenSpec.upto colorApartSpec)

/-- 'loanbooklaw.BuildTakes', WHERE WHAT IT READS IS OF BULK AT MOST 1048576: true; the input reads as it did. -/
def buildTakesUptoRow : OpenClaim := { program := "ytodmkjeankbieab", sum := "16da34d53700f4788921e1e11c5992d67ad85a6a6aa34ee65912ca3adc6d228d", func := "loanbook/loanbooklaw.BuildTakes", spec := "buildTakes", unfollowed := true, recurses := true, plainKeys := false, apart := false, narrowed := true }
def BuildTakesUptoSaid : Prop := buildTakesUptoRow.holds Try.pinned (OpenSpec.upto buildTakesSpec)

/-- 'loanbooklaw.BuildSame', WHERE WHAT IT READS IS OF BULK AT MOST 1048576: true; the input reads as it did. -/
def buildSameUptoRow : OpenClaim := { program := "ytodmkjeankbieab", sum := "16da34d53700f4788921e1e11c5992d67ad85a6a6aa34ee65912ca3adc6d228d", func := "loanbook/loanbooklaw.BuildSame", spec := "buildSame", unfollowed := true, recurses := true, plainKeys := false, apart := false, narrowed := true }
def BuildSameUptoSaid : Prop := buildSameUptoRow.holds Try.pinned (OpenSpec.upto buildSameSpec)

/-- 'loanbookkeep.CheckIdle', WHERE WHAT IT READS IS OF BULK AT MOST 1048576: true; the input reads as it did. -/
def checkIdleUptoRow : OpenClaim := { program := "ytodmkjeankbieab", sum := "16da34d53700f4788921e1e11c5992d67ad85a6a6aa34ee65912ca3adc6d228d", func := "loanbook/loanbookkeep.CheckIdle", spec := "checkIdle", unfollowed := true, recurses := true, plainKeys := false, apart := false, narrowed := true }
def CheckIdleUptoSaid : Prop := checkIdleUptoRow.holds Try.pinned (OpenSpec.upto checkIdleSpec)

/-- 'loanbooklaw.CheckFacts', WHERE WHAT IT READS IS OF BULK AT MOST 1048576: true; the input reads as it did. -/
def checkFactsUptoRow : OpenClaim := { program := "ytodmkjeankbieab", sum := "16da34d53700f4788921e1e11c5992d67ad85a6a6aa34ee65912ca3adc6d228d", func := "loanbook/loanbooklaw.CheckFacts", spec := "checkFacts", unfollowed := true, recurses := true, plainKeys := false, apart := false, narrowed := true }
def CheckFactsUptoSaid : Prop := checkFactsUptoRow.holds Try.pinned (OpenSpec.upto checkFactsSpec)

end Rows
end Go.Proofs.Ytodmkjeankbieab
