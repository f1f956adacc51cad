/-
  No cell of these rows narrows 'for every input' (looked for: loops, veiled, ifaces, maps, wideKeys, modest, calm, conditions, laid).
  DERIVED. THE GIVEN ROWS OF THIS SEAT. 10 by the template 'for every input the law returns true; each argument reads behind the call as it read before'; 0 by the template 'total and deterministic' (their statements: YtodmkjeankbieaaTotals.lean).
  GIVEN WITH THE SEED: the statements are not yours to turn. If you find one false, say at which input.
  Laid BY PROGRAM, IN A SANDBOX (cutbox-rows.mjs): the forced cells as the released guide's own fill.sh prints them over the translation 3fa1504d821e93e8… (all of the seat's roots in one cut). By AI agents, Wed Nov 11 2026. No macro, syntax, notation, axiom, sorry.
-/
import Derived.Test.YtodmkjeankbieaaChecked
import GoSem.Claim
import GoSem.ClaimJoined
import GoSem.ClaimMapViews
import Derived.JoinedTies
import Derived.KernelRfl
namespace Go.Proofs.Ytodmkjeankbieaa
/- THE CELL 'sum', in the pinned program and in every row, IS THE sha256 OF THE DUMP (.gsa) THAT YtodmkjeankbieaaProg.lean LOADS. Nothing in Lean hashes anything: it is a label: what it is worth is what the hold of that sum in a sandbox is worth. -/
noncomputable def Try.pinned : Pinned := { name := "ytodmkjeankbieaa", sum := "3fa1504d821e93e8b9dc966ad73f1e0c3a18de7a71a11cd1f0a2ad9ccfabaaea", checked := Try.checked }
namespace Rows
def none {H : Type} : Left H := { results := [], args := [] }

/-- 'loanbookkeep.PlaceBoth': WHATEVER THE INPUT: true; the input reads as it did. -/
def placeBothSpec : ChangeSpec := { name := "placeBoth", fn := fun _ => fun
  | [d1, d2, d3] => { results := [.lit (.bool true)], args := [d1, d2, d3] }
  | _ => none }
def placeBothRow : OpenClaim := { program := "ytodmkjeankbieaa", sum := "3fa1504d821e93e8b9dc966ad73f1e0c3a18de7a71a11cd1f0a2ad9ccfabaaea", func := "loanbook/loanbookkeep.PlaceBoth", spec := "placeBoth", apart := false }
def PlaceBothSaid : Prop := placeBothRow.holds Try.pinned (OpenSpec.ofChange placeBothSpec)

/-- ITS FALSE NEIGHBOUR: 'it returns false'. Refute it at one input. -/
def placeBothWrong : ChangeSpec := { name := "placeBoth", fn := fun _ => fun
  | [d1, d2, d3] => { results := [.lit (.bool false)], args := [d1, d2, d3] }
  | _ => none }
def PlaceBothWrongFalsely : Prop := placeBothRow.holds Try.pinned (OpenSpec.ofChange placeBothWrong)

/-- 'loanbooklaw.NumTells': WHATEVER THE INPUT: true; the input reads as it did. -/
def numTellsSpec : ChangeSpec := { name := "numTells", fn := fun _ => fun
  | [d1, d2, d3] => { results := [.lit (.bool true)], args := [d1, d2, d3] }
  | _ => none }
def numTellsRow : OpenClaim := { program := "ytodmkjeankbieaa", sum := "3fa1504d821e93e8b9dc966ad73f1e0c3a18de7a71a11cd1f0a2ad9ccfabaaea", func := "loanbook/loanbooklaw.NumTells", spec := "numTells", apart := false }
def NumTellsSaid : Prop := numTellsRow.holds Try.pinned (OpenSpec.ofChange numTellsSpec)

/-- ITS FALSE NEIGHBOUR: 'it returns false'. Refute it at one input. -/
def numTellsWrong : ChangeSpec := { name := "numTells", fn := fun _ => fun
  | [d1, d2, d3] => { results := [.lit (.bool false)], args := [d1, d2, d3] }
  | _ => none }
def NumTellsWrongFalsely : Prop := numTellsRow.holds Try.pinned (OpenSpec.ofChange numTellsWrong)

/-- 'loanbookkeep.NumHalves': WHATEVER THE INPUT: true; the input reads as it did. -/
def numHalvesSpec : ChangeSpec := { name := "numHalves", fn := fun _ => fun
  | [d1, d2] => { results := [.lit (.bool true)], args := [d1, d2] }
  | _ => none }
def numHalvesRow : OpenClaim := { program := "ytodmkjeankbieaa", sum := "3fa1504d821e93e8b9dc966ad73f1e0c3a18de7a71a11cd1f0a2ad9ccfabaaea", func := "loanbook/loanbookkeep.NumHalves", spec := "numHalves", apart := false }
def NumHalvesSaid : Prop := numHalvesRow.holds Try.pinned (OpenSpec.ofChange numHalvesSpec)

/-- ITS FALSE NEIGHBOUR: 'it returns false'. Refute it at one input. -/
def numHalvesWrong : ChangeSpec := { name := "numHalves", fn := fun _ => fun
  | [d1, d2] => { results := [.lit (.bool false)], args := [d1, d2] }
  | _ => none }
def NumHalvesWrongFalsely : Prop := numHalvesRow.holds Try.pinned (OpenSpec.ofChange numHalvesWrong)

/-- 'loanbooklaw.CodePuts': WHATEVER THE INPUT: true; the input reads as it did. -/
def codePutsSpec : ChangeSpec := { name := "codePuts", fn := fun _ => fun
  | [d] => { results := [.lit (.bool true)], args := [d] }
  | _ => none }
def codePutsRow : OpenClaim := { program := "ytodmkjeankbieaa", sum := "3fa1504d821e93e8b9dc966ad73f1e0c3a18de7a71a11cd1f0a2ad9ccfabaaea", func := "loanbook/loanbooklaw.CodePuts", spec := "codePuts", apart := false }
def CodePutsSaid : Prop := codePutsRow.holds Try.pinned (OpenSpec.ofChange codePutsSpec)

/-- ITS FALSE NEIGHBOUR: 'it returns false'. Refute it at one input. -/
def codePutsWrong : ChangeSpec := { name := "codePuts", fn := fun _ => fun
  | [d] => { results := [.lit (.bool false)], args := [d] }
  | _ => none }
def CodePutsWrongFalsely : Prop := codePutsRow.holds Try.pinned (OpenSpec.ofChange codePutsWrong)

/-- 'loanbooklaw.CodeGets': WHATEVER THE INPUT: true; the input reads as it did. -/
def codeGetsSpec : ChangeSpec := { name := "codeGets", fn := fun _ => fun
  | [d] => { results := [.lit (.bool true)], args := [d] }
  | _ => none }
def codeGetsRow : OpenClaim := { program := "ytodmkjeankbieaa", sum := "3fa1504d821e93e8b9dc966ad73f1e0c3a18de7a71a11cd1f0a2ad9ccfabaaea", func := "loanbook/loanbooklaw.CodeGets", spec := "codeGets", apart := false }
def CodeGetsSaid : Prop := codeGetsRow.holds Try.pinned (OpenSpec.ofChange codeGetsSpec)

/-- ITS FALSE NEIGHBOUR: 'it returns false'. Refute it at one input. -/
def codeGetsWrong : ChangeSpec := { name := "codeGets", fn := fun _ => fun
  | [d] => { results := [.lit (.bool false)], args := [d] }
  | _ => none }
def CodeGetsWrongFalsely : Prop := codeGetsRow.holds Try.pinned (OpenSpec.ofChange codeGetsWrong)

/-- 'loanbooklaw.FormTells': WHATEVER THE INPUT: true; the input reads as it did. -/
def formTellsSpec : ChangeSpec := { name := "formTells", fn := fun _ => fun
  | [d] => { results := [.lit (.bool true)], args := [d] }
  | _ => none }
def formTellsRow : OpenClaim := { program := "ytodmkjeankbieaa", sum := "3fa1504d821e93e8b9dc966ad73f1e0c3a18de7a71a11cd1f0a2ad9ccfabaaea", func := "loanbook/loanbooklaw.FormTells", spec := "formTells", apart := false }
def FormTellsSaid : Prop := formTellsRow.holds Try.pinned (OpenSpec.ofChange formTellsSpec)

/-- ITS FALSE NEIGHBOUR: 'it returns false'. Refute it at one input. -/
def formTellsWrong : ChangeSpec := { name := "formTells", fn := fun _ => fun
  | [d] => { results := [.lit (.bool false)], args := [d] }
  | _ => none }
def FormTellsWrongFalsely : Prop := formTellsRow.holds Try.pinned (OpenSpec.ofChange formTellsWrong)

/-- 'loanbookkeep.CodeBack': WHATEVER THE INPUT: true; the input reads as it did. -/
def codeBackSpec : ChangeSpec := { name := "codeBack", fn := fun _ => fun
  | [d1, d2] => { results := [.lit (.bool true)], args := [d1, d2] }
  | _ => none }
def codeBackRow : OpenClaim := { program := "ytodmkjeankbieaa", sum := "3fa1504d821e93e8b9dc966ad73f1e0c3a18de7a71a11cd1f0a2ad9ccfabaaea", func := "loanbook/loanbookkeep.CodeBack", spec := "codeBack", apart := false }
def CodeBackSaid : Prop := codeBackRow.holds Try.pinned (OpenSpec.ofChange codeBackSpec)

/-- ITS FALSE NEIGHBOUR: 'it returns false'. Refute it at one input. -/
def codeBackWrong : ChangeSpec := { name := "codeBack", fn := fun _ => fun
  | [d1, d2] => { results := [.lit (.bool false)], args := [d1, d2] }
  | _ => none }
def CodeBackWrongFalsely : Prop := codeBackRow.holds Try.pinned (OpenSpec.ofChange codeBackWrong)

/-- 'loanbookkeep.CodeThere': WHATEVER THE INPUT: true; the input reads as it did. -/
def codeThereSpec : ChangeSpec := { name := "codeThere", fn := fun _ => fun
  | [d] => { results := [.lit (.bool true)], args := [d] }
  | _ => none }
def codeThereRow : OpenClaim := { program := "ytodmkjeankbieaa", sum := "3fa1504d821e93e8b9dc966ad73f1e0c3a18de7a71a11cd1f0a2ad9ccfabaaea", func := "loanbook/loanbookkeep.CodeThere", spec := "codeThere", apart := false }
def CodeThereSaid : Prop := codeThereRow.holds Try.pinned (OpenSpec.ofChange codeThereSpec)

/-- ITS FALSE NEIGHBOUR: 'it returns false'. Refute it at one input. -/
def codeThereWrong : ChangeSpec := { name := "codeThere", fn := fun _ => fun
  | [d] => { results := [.lit (.bool false)], args := [d] }
  | _ => none }
def CodeThereWrongFalsely : Prop := codeThereRow.holds Try.pinned (OpenSpec.ofChange codeThereWrong)

/-- 'loanbooklaw.LiveTells': WHATEVER THE INPUT: true; the input reads as it did. -/
def liveTellsSpec : ChangeSpec := { name := "liveTells", fn := fun _ => fun
  | [d] => { results := [.lit (.bool true)], args := [d] }
  | _ => none }
def liveTellsRow : OpenClaim := { program := "ytodmkjeankbieaa", sum := "3fa1504d821e93e8b9dc966ad73f1e0c3a18de7a71a11cd1f0a2ad9ccfabaaea", func := "loanbook/loanbooklaw.LiveTells", spec := "liveTells", apart := false }
def LiveTellsSaid : Prop := liveTellsRow.holds Try.pinned (OpenSpec.ofChange liveTellsSpec)

/-- ITS FALSE NEIGHBOUR: 'it returns false'. Refute it at one input. -/
def liveTellsWrong : ChangeSpec := { name := "liveTells", fn := fun _ => fun
  | [d] => { results := [.lit (.bool false)], args := [d] }
  | _ => none }
def LiveTellsWrongFalsely : Prop := liveTellsRow.holds Try.pinned (OpenSpec.ofChange liveTellsWrong)

/-- 'loanbooklaw.PlaceTells': WHATEVER THE INPUT: true; the input reads as it did. -/
def placeTellsSpec : ChangeSpec := { name := "placeTells", fn := fun _ => fun
  | [d1, d2, d3, d4, d5] => { results := [.lit (.bool true)], args := [d1, d2, d3, d4, d5] }
  | _ => none }
def placeTellsRow : OpenClaim := { program := "ytodmkjeankbieaa", sum := "3fa1504d821e93e8b9dc966ad73f1e0c3a18de7a71a11cd1f0a2ad9ccfabaaea", func := "loanbook/loanbooklaw.PlaceTells", spec := "placeTells", apart := false }
def PlaceTellsSaid : Prop := placeTellsRow.holds Try.pinned (OpenSpec.ofChange placeTellsSpec)

/-- ITS FALSE NEIGHBOUR: 'it returns false'. Refute it at one input. -/
def placeTellsWrong : ChangeSpec := { name := "placeTells", fn := fun _ => fun
  | [d1, d2, d3, d4, d5] => { results := [.lit (.bool false)], args := [d1, d2, d3, d4, d5] }
  | _ => none }
def PlaceTellsWrongFalsely : Prop := placeTellsRow.holds Try.pinned (OpenSpec.ofChange placeTellsWrong)

/- THE SECOND FORM. 'bulk': how many values and letters a reading holds, each counted each time it is reached (what is shared counts as often as it is met; a slice's spare places count too). A statement '..UptoSaid' is the law's where the arguments, and the package variables that the reading takes, are together of bulk at most 1048576: NARROWER than '..Said'. Prove '..Said' where nothing that the law and all that it calls make is longer than what came in: it says more and counts as full. Else prove '..UptoSaid'. A law counts once. -/
mutual
def uptoBulk {H : Type} : DataW H → Nat
  | .lit (.string bytes) => bytes.length + 1
  | .lit _ => 1
  | .nil => 1
  | .ptr d => uptoBulk d + 1
  | .slice elems spare => uptoBulkAll elems + uptoBulkAll spare + 1
  | .agg parts => uptoBulkAll parts + 1
  | .iface _ d => uptoBulk d + 1
  | .map entries => uptoBulkEntries entries + 1
  | .held _ => 1
def uptoBulkAll {H : Type} : List (DataW H) → Nat
  | [] => 0
  | d :: r => uptoBulk d + uptoBulkAll r
def uptoBulkEntries {H : Type} : List (Lit × DataW H) → Nat
  | [] => 0
  | x :: r => uptoBulkEntry x + uptoBulkEntries r
def uptoBulkEntry {H : Type} : Lit × DataW H → Nat
  | (.string bytes, d) => bytes.length + uptoBulk d + 1
  | (_, d) => uptoBulk d + 1
 end
def uptoSmall : (H : Type) → List (DataW H) → Bool := fun _ ds => decide (uptoBulkAll ds ≤ 1048576)
def OpenSpec.upto (s : _root_.Go.ChangeSpec) : _root_.Go.OpenSpec := { _root_.Go.OpenSpec.ofChange s with cond := some uptoSmall }

/-- 'loanbookkeep.PlaceBoth', WHERE WHAT IT READS IS OF BULK AT MOST 1048576: true; the input reads as it did. -/
def placeBothUptoRow : OpenClaim := { program := "ytodmkjeankbieaa", sum := "3fa1504d821e93e8b9dc966ad73f1e0c3a18de7a71a11cd1f0a2ad9ccfabaaea", func := "loanbook/loanbookkeep.PlaceBoth", spec := "placeBoth", apart := false, narrowed := true }
def PlaceBothUptoSaid : Prop := placeBothUptoRow.holds Try.pinned (OpenSpec.upto placeBothSpec)

/-- 'loanbooklaw.NumTells', WHERE WHAT IT READS IS OF BULK AT MOST 1048576: true; the input reads as it did. -/
def numTellsUptoRow : OpenClaim := { program := "ytodmkjeankbieaa", sum := "3fa1504d821e93e8b9dc966ad73f1e0c3a18de7a71a11cd1f0a2ad9ccfabaaea", func := "loanbook/loanbooklaw.NumTells", spec := "numTells", apart := false, narrowed := true }
def NumTellsUptoSaid : Prop := numTellsUptoRow.holds Try.pinned (OpenSpec.upto numTellsSpec)

/-- 'loanbookkeep.NumHalves', WHERE WHAT IT READS IS OF BULK AT MOST 1048576: true; the input reads as it did. -/
def numHalvesUptoRow : OpenClaim := { program := "ytodmkjeankbieaa", sum := "3fa1504d821e93e8b9dc966ad73f1e0c3a18de7a71a11cd1f0a2ad9ccfabaaea", func := "loanbook/loanbookkeep.NumHalves", spec := "numHalves", apart := false, narrowed := true }
def NumHalvesUptoSaid : Prop := numHalvesUptoRow.holds Try.pinned (OpenSpec.upto numHalvesSpec)

/-- 'loanbooklaw.CodePuts', WHERE WHAT IT READS IS OF BULK AT MOST 1048576: true; the input reads as it did. -/
def codePutsUptoRow : OpenClaim := { program := "ytodmkjeankbieaa", sum := "3fa1504d821e93e8b9dc966ad73f1e0c3a18de7a71a11cd1f0a2ad9ccfabaaea", func := "loanbook/loanbooklaw.CodePuts", spec := "codePuts", apart := false, narrowed := true }
def CodePutsUptoSaid : Prop := codePutsUptoRow.holds Try.pinned (OpenSpec.upto codePutsSpec)

/-- 'loanbooklaw.CodeGets', WHERE WHAT IT READS IS OF BULK AT MOST 1048576: true; the input reads as it did. -/
def codeGetsUptoRow : OpenClaim := { program := "ytodmkjeankbieaa", sum := "3fa1504d821e93e8b9dc966ad73f1e0c3a18de7a71a11cd1f0a2ad9ccfabaaea", func := "loanbook/loanbooklaw.CodeGets", spec := "codeGets", apart := false, narrowed := true }
def CodeGetsUptoSaid : Prop := codeGetsUptoRow.holds Try.pinned (OpenSpec.upto codeGetsSpec)

/-- 'loanbooklaw.FormTells', WHERE WHAT IT READS IS OF BULK AT MOST 1048576: true; the input reads as it did. -/
def formTellsUptoRow : OpenClaim := { program := "ytodmkjeankbieaa", sum := "3fa1504d821e93e8b9dc966ad73f1e0c3a18de7a71a11cd1f0a2ad9ccfabaaea", func := "loanbook/loanbooklaw.FormTells", spec := "formTells", apart := false, narrowed := true }
def FormTellsUptoSaid : Prop := formTellsUptoRow.holds Try.pinned (OpenSpec.upto formTellsSpec)

/-- 'loanbookkeep.CodeBack', WHERE WHAT IT READS IS OF BULK AT MOST 1048576: true; the input reads as it did. -/
def codeBackUptoRow : OpenClaim := { program := "ytodmkjeankbieaa", sum := "3fa1504d821e93e8b9dc966ad73f1e0c3a18de7a71a11cd1f0a2ad9ccfabaaea", func := "loanbook/loanbookkeep.CodeBack", spec := "codeBack", apart := false, narrowed := true }
def CodeBackUptoSaid : Prop := codeBackUptoRow.holds Try.pinned (OpenSpec.upto codeBackSpec)

/-- 'loanbookkeep.CodeThere', WHERE WHAT IT READS IS OF BULK AT MOST 1048576: true; the input reads as it did. -/
def codeThereUptoRow : OpenClaim := { program := "ytodmkjeankbieaa", sum := "3fa1504d821e93e8b9dc966ad73f1e0c3a18de7a71a11cd1f0a2ad9ccfabaaea", func := "loanbook/loanbookkeep.CodeThere", spec := "codeThere", apart := false, narrowed := true }
def CodeThereUptoSaid : Prop := codeThereUptoRow.holds Try.pinned (OpenSpec.upto codeThereSpec)

/-- 'loanbooklaw.LiveTells', WHERE WHAT IT READS IS OF BULK AT MOST 1048576: true; the input reads as it did. -/
def liveTellsUptoRow : OpenClaim := { program := "ytodmkjeankbieaa", sum := "3fa1504d821e93e8b9dc966ad73f1e0c3a18de7a71a11cd1f0a2ad9ccfabaaea", func := "loanbook/loanbooklaw.LiveTells", spec := "liveTells", apart := false, narrowed := true }
def LiveTellsUptoSaid : Prop := liveTellsUptoRow.holds Try.pinned (OpenSpec.upto liveTellsSpec)

/-- 'loanbooklaw.PlaceTells', WHERE WHAT IT READS IS OF BULK AT MOST 1048576: true; the input reads as it did. -/
def placeTellsUptoRow : OpenClaim := { program := "ytodmkjeankbieaa", sum := "3fa1504d821e93e8b9dc966ad73f1e0c3a18de7a71a11cd1f0a2ad9ccfabaaea", func := "loanbook/loanbooklaw.PlaceTells", spec := "placeTells", apart := false, narrowed := true }
def PlaceTellsUptoSaid : Prop := placeTellsUptoRow.holds Try.pinned (OpenSpec.upto placeTellsSpec)

end Rows
end Go.Proofs.Ytodmkjeankbieaa
