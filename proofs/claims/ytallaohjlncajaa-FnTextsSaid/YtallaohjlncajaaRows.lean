/-
  No cell of these rows narrows 'for every input' (looked for: loops, veiled, ifaces, maps, wideKeys, modest, calm, conditions, laid).
  DERIVED. THE GIVEN ROWS OF THIS SEAT. 18 by the template 'for every input the law returns true; each argument reads behind the call as it read before'; 0 by the template 'total and deterministic' (their statements: YtallaohjlncajaaTotals.lean).
  GIVEN WITH THE SEED: the statements are not yours to turn. If you find one false, say at which input.
  Laid BY PROGRAM, IN A SANDBOX (cutbox-rows.mjs): the forced cells as the released guide's own fill.sh prints them over the translation 7e34644aa386c06a… (all of the seat's roots in one cut). By AI agents, Wed Nov 11 2026. No macro, syntax, notation, axiom, sorry.
-/
import Derived.Test.YtallaohjlncajaaChecked
import GoSem.Claim
import GoSem.ClaimJoined
import GoSem.ClaimMapViews
import Derived.JoinedTies
import Derived.KernelRfl
namespace Go.Proofs.Ytallaohjlncajaa
/- THE CELL 'sum', in the pinned program and in every row, IS THE sha256 OF THE DUMP (.gsa) THAT YtallaohjlncajaaProg.lean LOADS. Nothing in Lean hashes anything: it is a label: what it is worth is what the hold of that sum in a sandbox is worth. -/
noncomputable def Try.pinned : Pinned := { name := "ytallaohjlncajaa", sum := "7e34644aa386c06aa88294aab39186c030c8423852bbcc9a586f9c76fea754ea", checked := Try.checked }
namespace Rows
def none {H : Type} : Left H := { results := [], args := [] }

/-- 'laws.FnExactConstants': WHATEVER THE INPUT: true; the input reads as it did. -/
def fnExactConstantsSpec : ChangeSpec := { name := "fnExactConstants", fn := fun _ => fun
  | [] => { results := [.lit (.bool true)], args := [] }
  | _ => none }
def fnExactConstantsRow : OpenClaim := { program := "ytallaohjlncajaa", sum := "7e34644aa386c06aa88294aab39186c030c8423852bbcc9a586f9c76fea754ea", func := "loop.example/g00395/laws.FnExactConstants", spec := "fnExactConstants", apart := false }
def FnExactConstantsSaid : Prop := fnExactConstantsRow.holds Try.pinned (OpenSpec.ofChange fnExactConstantsSpec)

/-- ITS FALSE NEIGHBOUR: 'it returns false'. Refute it at one input. -/
def fnExactConstantsWrong : ChangeSpec := { name := "fnExactConstants", fn := fun _ => fun
  | [] => { results := [.lit (.bool false)], args := [] }
  | _ => none }
def FnExactConstantsWrongFalsely : Prop := fnExactConstantsRow.holds Try.pinned (OpenSpec.ofChange fnExactConstantsWrong)

/-- 'laws.FnExactWrap': WHATEVER THE INPUT: true; the input reads as it did. -/
def fnExactWrapSpec : ChangeSpec := { name := "fnExactWrap", fn := fun _ => fun
  | [d] => { results := [.lit (.bool true)], args := [d] }
  | _ => none }
def fnExactWrapRow : OpenClaim := { program := "ytallaohjlncajaa", sum := "7e34644aa386c06aa88294aab39186c030c8423852bbcc9a586f9c76fea754ea", func := "loop.example/g00395/laws.FnExactWrap", spec := "fnExactWrap", apart := false }
def FnExactWrapSaid : Prop := fnExactWrapRow.holds Try.pinned (OpenSpec.ofChange fnExactWrapSpec)

/-- ITS FALSE NEIGHBOUR: 'it returns false'. Refute it at one input. -/
def fnExactWrapWrong : ChangeSpec := { name := "fnExactWrap", fn := fun _ => fun
  | [d] => { results := [.lit (.bool false)], args := [d] }
  | _ => none }
def FnExactWrapWrongFalsely : Prop := fnExactWrapRow.holds Try.pinned (OpenSpec.ofChange fnExactWrapWrong)

/-- 'laws.FnExactAddW': WHATEVER THE INPUT: true; the input reads as it did. -/
def fnExactAddWSpec : ChangeSpec := { name := "fnExactAddW", fn := fun _ => fun
  | [d1, d2] => { results := [.lit (.bool true)], args := [d1, d2] }
  | _ => none }
def fnExactAddWRow : OpenClaim := { program := "ytallaohjlncajaa", sum := "7e34644aa386c06aa88294aab39186c030c8423852bbcc9a586f9c76fea754ea", func := "loop.example/g00395/laws.FnExactAddW", spec := "fnExactAddW", apart := false }
def FnExactAddWSaid : Prop := fnExactAddWRow.holds Try.pinned (OpenSpec.ofChange fnExactAddWSpec)

/-- ITS FALSE NEIGHBOUR: 'it returns false'. Refute it at one input. -/
def fnExactAddWWrong : ChangeSpec := { name := "fnExactAddW", fn := fun _ => fun
  | [d1, d2] => { results := [.lit (.bool false)], args := [d1, d2] }
  | _ => none }
def FnExactAddWWrongFalsely : Prop := fnExactAddWRow.holds Try.pinned (OpenSpec.ofChange fnExactAddWWrong)

/-- 'laws.FnExactSubW': WHATEVER THE INPUT: true; the input reads as it did. -/
def fnExactSubWSpec : ChangeSpec := { name := "fnExactSubW", fn := fun _ => fun
  | [d1, d2] => { results := [.lit (.bool true)], args := [d1, d2] }
  | _ => none }
def fnExactSubWRow : OpenClaim := { program := "ytallaohjlncajaa", sum := "7e34644aa386c06aa88294aab39186c030c8423852bbcc9a586f9c76fea754ea", func := "loop.example/g00395/laws.FnExactSubW", spec := "fnExactSubW", apart := false }
def FnExactSubWSaid : Prop := fnExactSubWRow.holds Try.pinned (OpenSpec.ofChange fnExactSubWSpec)

/-- ITS FALSE NEIGHBOUR: 'it returns false'. Refute it at one input. -/
def fnExactSubWWrong : ChangeSpec := { name := "fnExactSubW", fn := fun _ => fun
  | [d1, d2] => { results := [.lit (.bool false)], args := [d1, d2] }
  | _ => none }
def FnExactSubWWrongFalsely : Prop := fnExactSubWRow.holds Try.pinned (OpenSpec.ofChange fnExactSubWWrong)

/-- 'laws.FnExactMulW': WHATEVER THE INPUT: true; the input reads as it did. -/
def fnExactMulWSpec : ChangeSpec := { name := "fnExactMulW", fn := fun _ => fun
  | [d1, d2] => { results := [.lit (.bool true)], args := [d1, d2] }
  | _ => none }
def fnExactMulWRow : OpenClaim := { program := "ytallaohjlncajaa", sum := "7e34644aa386c06aa88294aab39186c030c8423852bbcc9a586f9c76fea754ea", func := "loop.example/g00395/laws.FnExactMulW", spec := "fnExactMulW", apart := false }
def FnExactMulWSaid : Prop := fnExactMulWRow.holds Try.pinned (OpenSpec.ofChange fnExactMulWSpec)

/-- ITS FALSE NEIGHBOUR: 'it returns false'. Refute it at one input. -/
def fnExactMulWWrong : ChangeSpec := { name := "fnExactMulW", fn := fun _ => fun
  | [d1, d2] => { results := [.lit (.bool false)], args := [d1, d2] }
  | _ => none }
def FnExactMulWWrongFalsely : Prop := fnExactMulWRow.holds Try.pinned (OpenSpec.ofChange fnExactMulWWrong)

/-- 'laws.FnExactDivW': WHATEVER THE INPUT: true; the input reads as it did. -/
def fnExactDivWSpec : ChangeSpec := { name := "fnExactDivW", fn := fun _ => fun
  | [d1, d2] => { results := [.lit (.bool true)], args := [d1, d2] }
  | _ => none }
def fnExactDivWRow : OpenClaim := { program := "ytallaohjlncajaa", sum := "7e34644aa386c06aa88294aab39186c030c8423852bbcc9a586f9c76fea754ea", func := "loop.example/g00395/laws.FnExactDivW", spec := "fnExactDivW", apart := false }
def FnExactDivWSaid : Prop := fnExactDivWRow.holds Try.pinned (OpenSpec.ofChange fnExactDivWSpec)

/-- ITS FALSE NEIGHBOUR: 'it returns false'. Refute it at one input. -/
def fnExactDivWWrong : ChangeSpec := { name := "fnExactDivW", fn := fun _ => fun
  | [d1, d2] => { results := [.lit (.bool false)], args := [d1, d2] }
  | _ => none }
def FnExactDivWWrongFalsely : Prop := fnExactDivWRow.holds Try.pinned (OpenSpec.ofChange fnExactDivWWrong)

/-- 'laws.FnExactRemW': WHATEVER THE INPUT: true; the input reads as it did. -/
def fnExactRemWSpec : ChangeSpec := { name := "fnExactRemW", fn := fun _ => fun
  | [d1, d2] => { results := [.lit (.bool true)], args := [d1, d2] }
  | _ => none }
def fnExactRemWRow : OpenClaim := { program := "ytallaohjlncajaa", sum := "7e34644aa386c06aa88294aab39186c030c8423852bbcc9a586f9c76fea754ea", func := "loop.example/g00395/laws.FnExactRemW", spec := "fnExactRemW", apart := false }
def FnExactRemWSaid : Prop := fnExactRemWRow.holds Try.pinned (OpenSpec.ofChange fnExactRemWSpec)

/-- ITS FALSE NEIGHBOUR: 'it returns false'. Refute it at one input. -/
def fnExactRemWWrong : ChangeSpec := { name := "fnExactRemW", fn := fun _ => fun
  | [d1, d2] => { results := [.lit (.bool false)], args := [d1, d2] }
  | _ => none }
def FnExactRemWWrongFalsely : Prop := fnExactRemWRow.holds Try.pinned (OpenSpec.ofChange fnExactRemWWrong)

/-- 'laws.FnExactSignOf': WHATEVER THE INPUT: true; the input reads as it did. -/
def fnExactSignOfSpec : ChangeSpec := { name := "fnExactSignOf", fn := fun _ => fun
  | [d] => { results := [.lit (.bool true)], args := [d] }
  | _ => none }
def fnExactSignOfRow : OpenClaim := { program := "ytallaohjlncajaa", sum := "7e34644aa386c06aa88294aab39186c030c8423852bbcc9a586f9c76fea754ea", func := "loop.example/g00395/laws.FnExactSignOf", spec := "fnExactSignOf", apart := false }
def FnExactSignOfSaid : Prop := fnExactSignOfRow.holds Try.pinned (OpenSpec.ofChange fnExactSignOfSpec)

/-- ITS FALSE NEIGHBOUR: 'it returns false'. Refute it at one input. -/
def fnExactSignOfWrong : ChangeSpec := { name := "fnExactSignOf", fn := fun _ => fun
  | [d] => { results := [.lit (.bool false)], args := [d] }
  | _ => none }
def FnExactSignOfWrongFalsely : Prop := fnExactSignOfRow.holds Try.pinned (OpenSpec.ofChange fnExactSignOfWrong)

/-- 'laws.FnExactConOk': WHATEVER THE INPUT: true; the input reads as it did. -/
def fnExactConOkSpec : ChangeSpec := { name := "fnExactConOk", fn := fun _ => fun
  | [d] => { results := [.lit (.bool true)], args := [d] }
  | _ => none }
def fnExactConOkRow : OpenClaim := { program := "ytallaohjlncajaa", sum := "7e34644aa386c06aa88294aab39186c030c8423852bbcc9a586f9c76fea754ea", func := "loop.example/g00395/laws.FnExactConOk", spec := "fnExactConOk", apart := false }
def FnExactConOkSaid : Prop := fnExactConOkRow.holds Try.pinned (OpenSpec.ofChange fnExactConOkSpec)

/-- ITS FALSE NEIGHBOUR: 'it returns false'. Refute it at one input. -/
def fnExactConOkWrong : ChangeSpec := { name := "fnExactConOk", fn := fun _ => fun
  | [d] => { results := [.lit (.bool false)], args := [d] }
  | _ => none }
def FnExactConOkWrongFalsely : Prop := fnExactConOkRow.holds Try.pinned (OpenSpec.ofChange fnExactConOkWrong)

/-- 'laws.FnExactQuote': WHATEVER THE INPUT: true; the input reads as it did. -/
def fnExactQuoteSpec : ChangeSpec := { name := "fnExactQuote", fn := fun _ => fun
  | [d] => { results := [.lit (.bool true)], args := [d] }
  | _ => none }
def fnExactQuoteRow : OpenClaim := { program := "ytallaohjlncajaa", sum := "7e34644aa386c06aa88294aab39186c030c8423852bbcc9a586f9c76fea754ea", func := "loop.example/g00395/laws.FnExactQuote", spec := "fnExactQuote", apart := false }
def FnExactQuoteSaid : Prop := fnExactQuoteRow.holds Try.pinned (OpenSpec.ofChange fnExactQuoteSpec)

/-- ITS FALSE NEIGHBOUR: 'it returns false'. Refute it at one input. -/
def fnExactQuoteWrong : ChangeSpec := { name := "fnExactQuote", fn := fun _ => fun
  | [d] => { results := [.lit (.bool false)], args := [d] }
  | _ => none }
def FnExactQuoteWrongFalsely : Prop := fnExactQuoteRow.holds Try.pinned (OpenSpec.ofChange fnExactQuoteWrong)

/-- 'laws.FnExactNumText': WHATEVER THE INPUT: true; the input reads as it did. -/
def fnExactNumTextSpec : ChangeSpec := { name := "fnExactNumText", fn := fun _ => fun
  | [d] => { results := [.lit (.bool true)], args := [d] }
  | _ => none }
def fnExactNumTextRow : OpenClaim := { program := "ytallaohjlncajaa", sum := "7e34644aa386c06aa88294aab39186c030c8423852bbcc9a586f9c76fea754ea", func := "loop.example/g00395/laws.FnExactNumText", spec := "fnExactNumText", recurses := true, apart := false }
def FnExactNumTextSaid : Prop := fnExactNumTextRow.holds Try.pinned (OpenSpec.ofChange fnExactNumTextSpec)

/-- ITS FALSE NEIGHBOUR: 'it returns false'. Refute it at one input. -/
def fnExactNumTextWrong : ChangeSpec := { name := "fnExactNumText", fn := fun _ => fun
  | [d] => { results := [.lit (.bool false)], args := [d] }
  | _ => none }
def FnExactNumTextWrongFalsely : Prop := fnExactNumTextRow.holds Try.pinned (OpenSpec.ofChange fnExactNumTextWrong)

/-- 'laws.FnExactNameOk': WHATEVER THE INPUT: true; the input reads as it did. -/
def fnExactNameOkSpec : ChangeSpec := { name := "fnExactNameOk", fn := fun _ => fun
  | [d] => { results := [.lit (.bool true)], args := [d] }
  | _ => none }
def fnExactNameOkRow : OpenClaim := { program := "ytallaohjlncajaa", sum := "7e34644aa386c06aa88294aab39186c030c8423852bbcc9a586f9c76fea754ea", func := "loop.example/g00395/laws.FnExactNameOk", spec := "fnExactNameOk", apart := false }
def FnExactNameOkSaid : Prop := fnExactNameOkRow.holds Try.pinned (OpenSpec.ofChange fnExactNameOkSpec)

/-- ITS FALSE NEIGHBOUR: 'it returns false'. Refute it at one input. -/
def fnExactNameOkWrong : ChangeSpec := { name := "fnExactNameOk", fn := fun _ => fun
  | [d] => { results := [.lit (.bool false)], args := [d] }
  | _ => none }
def FnExactNameOkWrongFalsely : Prop := fnExactNameOkRow.holds Try.pinned (OpenSpec.ofChange fnExactNameOkWrong)

/-- 'laws.FnExactEnds': WHATEVER THE INPUT: true; the input reads as it did. -/
def fnExactEndsSpec : ChangeSpec := { name := "fnExactEnds", fn := fun _ => fun
  | [d] => { results := [.lit (.bool true)], args := [d] }
  | _ => none }
def fnExactEndsRow : OpenClaim := { program := "ytallaohjlncajaa", sum := "7e34644aa386c06aa88294aab39186c030c8423852bbcc9a586f9c76fea754ea", func := "loop.example/g00395/laws.FnExactEnds", spec := "fnExactEnds", apart := false }
def FnExactEndsSaid : Prop := fnExactEndsRow.holds Try.pinned (OpenSpec.ofChange fnExactEndsSpec)

/-- ITS FALSE NEIGHBOUR: 'it returns false'. Refute it at one input. -/
def fnExactEndsWrong : ChangeSpec := { name := "fnExactEnds", fn := fun _ => fun
  | [d] => { results := [.lit (.bool false)], args := [d] }
  | _ => none }
def FnExactEndsWrongFalsely : Prop := fnExactEndsRow.holds Try.pinned (OpenSpec.ofChange fnExactEndsWrong)

/-- 'laws.FnRing': WHATEVER THE INPUT: true; the input reads as it did. -/
def fnRingSpec : ChangeSpec := { name := "fnRing", fn := fun _ => fun
  | [d] => { results := [.lit (.bool true)], args := [d] }
  | _ => none }
def fnRingRow : OpenClaim := { program := "ytallaohjlncajaa", sum := "7e34644aa386c06aa88294aab39186c030c8423852bbcc9a586f9c76fea754ea", func := "loop.example/g00395/laws.FnRing", spec := "fnRing", apart := false }
def FnRingSaid : Prop := fnRingRow.holds Try.pinned (OpenSpec.ofChange fnRingSpec)

/-- ITS FALSE NEIGHBOUR: 'it returns false'. Refute it at one input. -/
def fnRingWrong : ChangeSpec := { name := "fnRing", fn := fun _ => fun
  | [d] => { results := [.lit (.bool false)], args := [d] }
  | _ => none }
def FnRingWrongFalsely : Prop := fnRingRow.holds Try.pinned (OpenSpec.ofChange fnRingWrong)

/-- 'laws.FnDiv': WHATEVER THE INPUT: true; the input reads as it did. -/
def fnDivSpec : ChangeSpec := { name := "fnDiv", fn := fun _ => fun
  | [d] => { results := [.lit (.bool true)], args := [d] }
  | _ => none }
def fnDivRow : OpenClaim := { program := "ytallaohjlncajaa", sum := "7e34644aa386c06aa88294aab39186c030c8423852bbcc9a586f9c76fea754ea", func := "loop.example/g00395/laws.FnDiv", spec := "fnDiv", apart := false }
def FnDivSaid : Prop := fnDivRow.holds Try.pinned (OpenSpec.ofChange fnDivSpec)

/-- ITS FALSE NEIGHBOUR: 'it returns false'. Refute it at one input. -/
def fnDivWrong : ChangeSpec := { name := "fnDiv", fn := fun _ => fun
  | [d] => { results := [.lit (.bool false)], args := [d] }
  | _ => none }
def FnDivWrongFalsely : Prop := fnDivRow.holds Try.pinned (OpenSpec.ofChange fnDivWrong)

/-- 'laws.FnExactTextNum': WHATEVER THE INPUT: true; the input reads as it did. -/
def fnExactTextNumSpec : ChangeSpec := { name := "fnExactTextNum", fn := fun _ => fun
  | [d] => { results := [.lit (.bool true)], args := [d] }
  | _ => none }
def fnExactTextNumRow : OpenClaim := { program := "ytallaohjlncajaa", sum := "7e34644aa386c06aa88294aab39186c030c8423852bbcc9a586f9c76fea754ea", func := "loop.example/g00395/laws.FnExactTextNum", spec := "fnExactTextNum", recurses := true, apart := false }
def FnExactTextNumSaid : Prop := fnExactTextNumRow.holds Try.pinned (OpenSpec.ofChange fnExactTextNumSpec)

/-- ITS FALSE NEIGHBOUR: 'it returns false'. Refute it at one input. -/
def fnExactTextNumWrong : ChangeSpec := { name := "fnExactTextNum", fn := fun _ => fun
  | [d] => { results := [.lit (.bool false)], args := [d] }
  | _ => none }
def FnExactTextNumWrongFalsely : Prop := fnExactTextNumRow.holds Try.pinned (OpenSpec.ofChange fnExactTextNumWrong)

/-- 'laws.FnExactUnquote': WHATEVER THE INPUT: true; the input reads as it did. -/
def fnExactUnquoteSpec : ChangeSpec := { name := "fnExactUnquote", fn := fun _ => fun
  | [d] => { results := [.lit (.bool true)], args := [d] }
  | _ => none }
def fnExactUnquoteRow : OpenClaim := { program := "ytallaohjlncajaa", sum := "7e34644aa386c06aa88294aab39186c030c8423852bbcc9a586f9c76fea754ea", func := "loop.example/g00395/laws.FnExactUnquote", spec := "fnExactUnquote", apart := false }
def FnExactUnquoteSaid : Prop := fnExactUnquoteRow.holds Try.pinned (OpenSpec.ofChange fnExactUnquoteSpec)

/-- ITS FALSE NEIGHBOUR: 'it returns false'. Refute it at one input. -/
def fnExactUnquoteWrong : ChangeSpec := { name := "fnExactUnquote", fn := fun _ => fun
  | [d] => { results := [.lit (.bool false)], args := [d] }
  | _ => none }
def FnExactUnquoteWrongFalsely : Prop := fnExactUnquoteRow.holds Try.pinned (OpenSpec.ofChange fnExactUnquoteWrong)

/-- 'laws.FnTexts': WHATEVER THE INPUT: true; the input reads as it did. -/
def fnTextsSpec : ChangeSpec := { name := "fnTexts", fn := fun _ => fun
  | [d] => { results := [.lit (.bool true)], args := [d] }
  | _ => none }
def fnTextsRow : OpenClaim := { program := "ytallaohjlncajaa", sum := "7e34644aa386c06aa88294aab39186c030c8423852bbcc9a586f9c76fea754ea", func := "loop.example/g00395/laws.FnTexts", spec := "fnTexts", apart := false }
def FnTextsSaid : Prop := fnTextsRow.holds Try.pinned (OpenSpec.ofChange fnTextsSpec)

/-- ITS FALSE NEIGHBOUR: 'it returns false'. Refute it at one input. -/
def fnTextsWrong : ChangeSpec := { name := "fnTexts", fn := fun _ => fun
  | [d] => { results := [.lit (.bool false)], args := [d] }
  | _ => none }
def FnTextsWrongFalsely : Prop := fnTextsRow.holds Try.pinned (OpenSpec.ofChange fnTextsWrong)

/- THE SECOND FORM. 'bulk': how many values and letters a reading holds, each counted each time it is reached (what is shared counts as often as it is met; a slice's spare places count too). A statement '..UptoSaid' is the law's where the arguments, and the package variables that the reading takes, are together of bulk at most 1048576: NARROWER than '..Said'. Prove '..Said' where nothing that the law and all that it calls make is longer than what came in: it says more and counts as full. Else prove '..UptoSaid'. A law counts once. -/
mutual
def uptoBulk {H : Type} : DataW H → Nat
  | .lit (.string bytes) => bytes.length + 1
  | .lit _ => 1
  | .nil => 1
  | .ptr d => uptoBulk d + 1
  | .slice elems spare => uptoBulkAll elems + uptoBulkAll spare + 1
  | .agg parts => uptoBulkAll parts + 1
  | .iface _ d => uptoBulk d + 1
  | .map entries => uptoBulkEntries entries + 1
  | .held _ => 1
def uptoBulkAll {H : Type} : List (DataW H) → Nat
  | [] => 0
  | d :: r => uptoBulk d + uptoBulkAll r
def uptoBulkEntries {H : Type} : List (Lit × DataW H) → Nat
  | [] => 0
  | x :: r => uptoBulkEntry x + uptoBulkEntries r
def uptoBulkEntry {H : Type} : Lit × DataW H → Nat
  | (.string bytes, d) => bytes.length + uptoBulk d + 1
  | (_, d) => uptoBulk d + 1
 end
def uptoSmall : (H : Type) → List (DataW H) → Bool := fun _ ds => decide (uptoBulkAll ds ≤ 1048576)
def OpenSpec.upto (s : _root_.Go.ChangeSpec) : _root_.Go.OpenSpec := { _root_.Go.OpenSpec.ofChange s with cond := some uptoSmall }

/-- 'laws.FnExactConstants', WHERE WHAT IT READS IS OF BULK AT MOST 1048576: true; the input reads as it did. -/
def fnExactConstantsUptoRow : OpenClaim := { program := "ytallaohjlncajaa", sum := "7e34644aa386c06aa88294aab39186c030c8423852bbcc9a586f9c76fea754ea", func := "loop.example/g00395/laws.FnExactConstants", spec := "fnExactConstants", apart := false, narrowed := true }
def FnExactConstantsUptoSaid : Prop := fnExactConstantsUptoRow.holds Try.pinned (OpenSpec.upto fnExactConstantsSpec)

/-- 'laws.FnExactWrap', WHERE WHAT IT READS IS OF BULK AT MOST 1048576: true; the input reads as it did. -/
def fnExactWrapUptoRow : OpenClaim := { program := "ytallaohjlncajaa", sum := "7e34644aa386c06aa88294aab39186c030c8423852bbcc9a586f9c76fea754ea", func := "loop.example/g00395/laws.FnExactWrap", spec := "fnExactWrap", apart := false, narrowed := true }
def FnExactWrapUptoSaid : Prop := fnExactWrapUptoRow.holds Try.pinned (OpenSpec.upto fnExactWrapSpec)

/-- 'laws.FnExactAddW', WHERE WHAT IT READS IS OF BULK AT MOST 1048576: true; the input reads as it did. -/
def fnExactAddWUptoRow : OpenClaim := { program := "ytallaohjlncajaa", sum := "7e34644aa386c06aa88294aab39186c030c8423852bbcc9a586f9c76fea754ea", func := "loop.example/g00395/laws.FnExactAddW", spec := "fnExactAddW", apart := false, narrowed := true }
def FnExactAddWUptoSaid : Prop := fnExactAddWUptoRow.holds Try.pinned (OpenSpec.upto fnExactAddWSpec)

/-- 'laws.FnExactSubW', WHERE WHAT IT READS IS OF BULK AT MOST 1048576: true; the input reads as it did. -/
def fnExactSubWUptoRow : OpenClaim := { program := "ytallaohjlncajaa", sum := "7e34644aa386c06aa88294aab39186c030c8423852bbcc9a586f9c76fea754ea", func := "loop.example/g00395/laws.FnExactSubW", spec := "fnExactSubW", apart := false, narrowed := true }
def FnExactSubWUptoSaid : Prop := fnExactSubWUptoRow.holds Try.pinned (OpenSpec.upto fnExactSubWSpec)

/-- 'laws.FnExactMulW', WHERE WHAT IT READS IS OF BULK AT MOST 1048576: true; the input reads as it did. -/
def fnExactMulWUptoRow : OpenClaim := { program := "ytallaohjlncajaa", sum := "7e34644aa386c06aa88294aab39186c030c8423852bbcc9a586f9c76fea754ea", func := "loop.example/g00395/laws.FnExactMulW", spec := "fnExactMulW", apart := false, narrowed := true }
def FnExactMulWUptoSaid : Prop := fnExactMulWUptoRow.holds Try.pinned (OpenSpec.upto fnExactMulWSpec)

/-- 'laws.FnExactDivW', WHERE WHAT IT READS IS OF BULK AT MOST 1048576: true; the input reads as it did. -/
def fnExactDivWUptoRow : OpenClaim := { program := "ytallaohjlncajaa", sum := "7e34644aa386c06aa88294aab39186c030c8423852bbcc9a586f9c76fea754ea", func := "loop.example/g00395/laws.FnExactDivW", spec := "fnExactDivW", apart := false, narrowed := true }
def FnExactDivWUptoSaid : Prop := fnExactDivWUptoRow.holds Try.pinned (OpenSpec.upto fnExactDivWSpec)

/-- 'laws.FnExactRemW', WHERE WHAT IT READS IS OF BULK AT MOST 1048576: true; the input reads as it did. -/
def fnExactRemWUptoRow : OpenClaim := { program := "ytallaohjlncajaa", sum := "7e34644aa386c06aa88294aab39186c030c8423852bbcc9a586f9c76fea754ea", func := "loop.example/g00395/laws.FnExactRemW", spec := "fnExactRemW", apart := false, narrowed := true }
def FnExactRemWUptoSaid : Prop := fnExactRemWUptoRow.holds Try.pinned (OpenSpec.upto fnExactRemWSpec)

/-- 'laws.FnExactSignOf', WHERE WHAT IT READS IS OF BULK AT MOST 1048576: true; the input reads as it did. -/
def fnExactSignOfUptoRow : OpenClaim := { program := "ytallaohjlncajaa", sum := "7e34644aa386c06aa88294aab39186c030c8423852bbcc9a586f9c76fea754ea", func := "loop.example/g00395/laws.FnExactSignOf", spec := "fnExactSignOf", apart := false, narrowed := true }
def FnExactSignOfUptoSaid : Prop := fnExactSignOfUptoRow.holds Try.pinned (OpenSpec.upto fnExactSignOfSpec)

/-- 'laws.FnExactConOk', WHERE WHAT IT READS IS OF BULK AT MOST 1048576: true; the input reads as it did. -/
def fnExactConOkUptoRow : OpenClaim := { program := "ytallaohjlncajaa", sum := "7e34644aa386c06aa88294aab39186c030c8423852bbcc9a586f9c76fea754ea", func := "loop.example/g00395/laws.FnExactConOk", spec := "fnExactConOk", apart := false, narrowed := true }
def FnExactConOkUptoSaid : Prop := fnExactConOkUptoRow.holds Try.pinned (OpenSpec.upto fnExactConOkSpec)

/-- 'laws.FnExactQuote', WHERE WHAT IT READS IS OF BULK AT MOST 1048576: true; the input reads as it did. -/
def fnExactQuoteUptoRow : OpenClaim := { program := "ytallaohjlncajaa", sum := "7e34644aa386c06aa88294aab39186c030c8423852bbcc9a586f9c76fea754ea", func := "loop.example/g00395/laws.FnExactQuote", spec := "fnExactQuote", apart := false, narrowed := true }
def FnExactQuoteUptoSaid : Prop := fnExactQuoteUptoRow.holds Try.pinned (OpenSpec.upto fnExactQuoteSpec)

/-- 'laws.FnExactNumText', WHERE WHAT IT READS IS OF BULK AT MOST 1048576: true; the input reads as it did. -/
def fnExactNumTextUptoRow : OpenClaim := { program := "ytallaohjlncajaa", sum := "7e34644aa386c06aa88294aab39186c030c8423852bbcc9a586f9c76fea754ea", func := "loop.example/g00395/laws.FnExactNumText", spec := "fnExactNumText", recurses := true, apart := false, narrowed := true }
def FnExactNumTextUptoSaid : Prop := fnExactNumTextUptoRow.holds Try.pinned (OpenSpec.upto fnExactNumTextSpec)

/-- 'laws.FnExactNameOk', WHERE WHAT IT READS IS OF BULK AT MOST 1048576: true; the input reads as it did. -/
def fnExactNameOkUptoRow : OpenClaim := { program := "ytallaohjlncajaa", sum := "7e34644aa386c06aa88294aab39186c030c8423852bbcc9a586f9c76fea754ea", func := "loop.example/g00395/laws.FnExactNameOk", spec := "fnExactNameOk", apart := false, narrowed := true }
def FnExactNameOkUptoSaid : Prop := fnExactNameOkUptoRow.holds Try.pinned (OpenSpec.upto fnExactNameOkSpec)

/-- 'laws.FnExactEnds', WHERE WHAT IT READS IS OF BULK AT MOST 1048576: true; the input reads as it did. -/
def fnExactEndsUptoRow : OpenClaim := { program := "ytallaohjlncajaa", sum := "7e34644aa386c06aa88294aab39186c030c8423852bbcc9a586f9c76fea754ea", func := "loop.example/g00395/laws.FnExactEnds", spec := "fnExactEnds", apart := false, narrowed := true }
def FnExactEndsUptoSaid : Prop := fnExactEndsUptoRow.holds Try.pinned (OpenSpec.upto fnExactEndsSpec)

/-- 'laws.FnRing', WHERE WHAT IT READS IS OF BULK AT MOST 1048576: true; the input reads as it did. -/
def fnRingUptoRow : OpenClaim := { program := "ytallaohjlncajaa", sum := "7e34644aa386c06aa88294aab39186c030c8423852bbcc9a586f9c76fea754ea", func := "loop.example/g00395/laws.FnRing", spec := "fnRing", apart := false, narrowed := true }
def FnRingUptoSaid : Prop := fnRingUptoRow.holds Try.pinned (OpenSpec.upto fnRingSpec)

/-- 'laws.FnDiv', WHERE WHAT IT READS IS OF BULK AT MOST 1048576: true; the input reads as it did. -/
def fnDivUptoRow : OpenClaim := { program := "ytallaohjlncajaa", sum := "7e34644aa386c06aa88294aab39186c030c8423852bbcc9a586f9c76fea754ea", func := "loop.example/g00395/laws.FnDiv", spec := "fnDiv", apart := false, narrowed := true }
def FnDivUptoSaid : Prop := fnDivUptoRow.holds Try.pinned (OpenSpec.upto fnDivSpec)

/-- 'laws.FnExactTextNum', WHERE WHAT IT READS IS OF BULK AT MOST 1048576: true; the input reads as it did. -/
def fnExactTextNumUptoRow : OpenClaim := { program := "ytallaohjlncajaa", sum := "7e34644aa386c06aa88294aab39186c030c8423852bbcc9a586f9c76fea754ea", func := "loop.example/g00395/laws.FnExactTextNum", spec := "fnExactTextNum", recurses := true, apart := false, narrowed := true }
def FnExactTextNumUptoSaid : Prop := fnExactTextNumUptoRow.holds Try.pinned (OpenSpec.upto fnExactTextNumSpec)

/-- 'laws.FnExactUnquote', WHERE WHAT IT READS IS OF BULK AT MOST 1048576: true; the input reads as it did. -/
def fnExactUnquoteUptoRow : OpenClaim := { program := "ytallaohjlncajaa", sum := "7e34644aa386c06aa88294aab39186c030c8423852bbcc9a586f9c76fea754ea", func := "loop.example/g00395/laws.FnExactUnquote", spec := "fnExactUnquote", apart := false, narrowed := true }
def FnExactUnquoteUptoSaid : Prop := fnExactUnquoteUptoRow.holds Try.pinned (OpenSpec.upto fnExactUnquoteSpec)

/-- 'laws.FnTexts', WHERE WHAT IT READS IS OF BULK AT MOST 1048576: true; the input reads as it did. -/
def fnTextsUptoRow : OpenClaim := { program := "ytallaohjlncajaa", sum := "7e34644aa386c06aa88294aab39186c030c8423852bbcc9a586f9c76fea754ea", func := "loop.example/g00395/laws.FnTexts", spec := "fnTexts", apart := false, narrowed := true }
def FnTextsUptoSaid : Prop := fnTextsUptoRow.holds Try.pinned (OpenSpec.upto fnTextsSpec)

end Rows
end Go.Proofs.Ytallaohjlncajaa
