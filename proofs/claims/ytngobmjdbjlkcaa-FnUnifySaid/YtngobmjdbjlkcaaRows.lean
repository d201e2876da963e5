/-
  No cell of these rows narrows 'for every input' (looked for: loops, veiled, ifaces, maps, wideKeys, modest, calm, conditions, laid).
  DERIVED. THE GIVEN ROWS OF THIS SEAT. 8 by the template 'for every input the law returns true; each argument reads behind the call as it read before'; 0 by the template 'total and deterministic' (their statements: YtngobmjdbjlkcaaTotals.lean).
  GIVEN WITH THE SEED: the statements are not yours to turn. If you find one false, say at which input.
  Laid BY PROGRAM, IN A SANDBOX (cutbox-rows.mjs): the forced cells as the released guide's own fill.sh prints them over the translation 3bacf56a90ce85dd… (all of the seat's roots in one cut). By AI agents, Wed Nov 11 2026. No macro, syntax, notation, axiom, sorry.
-/
import Derived.Test.YtngobmjdbjlkcaaChecked
import GoSem.Claim
import GoSem.ClaimJoined
import GoSem.ClaimMapViews
import Derived.JoinedTies
import Derived.KernelRfl
namespace Go.Proofs.Ytngobmjdbjlkcaa
/- THE CELL 'sum', in the pinned program and in every row, IS THE sha256 OF THE DUMP (.gsa) THAT YtngobmjdbjlkcaaProg.lean LOADS. Nothing in Lean hashes anything: it is a label: what it is worth is what the hold of that sum in a sandbox is worth. -/
noncomputable def Try.pinned : Pinned := { name := "ytngobmjdbjlkcaa", sum := "3bacf56a90ce85dd50d14fb79fe4c12f9a9fd991e51f5a6c3119edd3841afa39", checked := Try.checked }
namespace Rows
def none {H : Type} : Left H := { results := [], args := [] }

/-- 'laws.FnFits': WHATEVER THE INPUT: true; the input reads as it did. -/
def fnFitsSpec : ChangeSpec := { name := "fnFits", fn := fun _ => fun
  | [d] => { results := [.lit (.bool true)], args := [d] }
  | _ => none }
def fnFitsRow : OpenClaim := { program := "ytngobmjdbjlkcaa", sum := "3bacf56a90ce85dd50d14fb79fe4c12f9a9fd991e51f5a6c3119edd3841afa39", func := "loop.example/g00395/laws.FnFits", spec := "fnFits", unfollowed := true, recurses := true, apart := false }
def FnFitsSaid : Prop := fnFitsRow.holds Try.pinned (OpenSpec.ofChange fnFitsSpec)

/-- ITS FALSE NEIGHBOUR: 'it returns false'. Refute it at one input. -/
def fnFitsWrong : ChangeSpec := { name := "fnFits", fn := fun _ => fun
  | [d] => { results := [.lit (.bool false)], args := [d] }
  | _ => none }
def FnFitsWrongFalsely : Prop := fnFitsRow.holds Try.pinned (OpenSpec.ofChange fnFitsWrong)

/-- 'laws.FnExactTyPut': WHATEVER THE INPUT: true; the input reads as it did. -/
def fnExactTyPutSpec : ChangeSpec := { name := "fnExactTyPut", fn := fun _ => fun
  | [d1, d2] => { results := [.lit (.bool true)], args := [d1, d2] }
  | _ => none }
def fnExactTyPutRow : OpenClaim := { program := "ytngobmjdbjlkcaa", sum := "3bacf56a90ce85dd50d14fb79fe4c12f9a9fd991e51f5a6c3119edd3841afa39", func := "loop.example/g00395/laws.FnExactTyPut", spec := "fnExactTyPut", unfollowed := true, recurses := true, apart := false }
def FnExactTyPutSaid : Prop := fnExactTyPutRow.holds Try.pinned (OpenSpec.ofChange fnExactTyPutSpec)

/-- ITS FALSE NEIGHBOUR: 'it returns false'. Refute it at one input. -/
def fnExactTyPutWrong : ChangeSpec := { name := "fnExactTyPut", fn := fun _ => fun
  | [d1, d2] => { results := [.lit (.bool false)], args := [d1, d2] }
  | _ => none }
def FnExactTyPutWrongFalsely : Prop := fnExactTyPutRow.holds Try.pinned (OpenSpec.ofChange fnExactTyPutWrong)

/-- 'laws.FnExactLex': WHATEVER THE INPUT: true; the input reads as it did. -/
def fnExactLexSpec : ChangeSpec := { name := "fnExactLex", fn := fun _ => fun
  | [d] => { results := [.lit (.bool true)], args := [d] }
  | _ => none }
def fnExactLexRow : OpenClaim := { program := "ytngobmjdbjlkcaa", sum := "3bacf56a90ce85dd50d14fb79fe4c12f9a9fd991e51f5a6c3119edd3841afa39", func := "loop.example/g00395/laws.FnExactLex", spec := "fnExactLex", recurses := true, apart := false }
def FnExactLexSaid : Prop := fnExactLexRow.holds Try.pinned (OpenSpec.ofChange fnExactLexSpec)

/-- ITS FALSE NEIGHBOUR: 'it returns false'. Refute it at one input. -/
def fnExactLexWrong : ChangeSpec := { name := "fnExactLex", fn := fun _ => fun
  | [d] => { results := [.lit (.bool false)], args := [d] }
  | _ => none }
def FnExactLexWrongFalsely : Prop := fnExactLexRow.holds Try.pinned (OpenSpec.ofChange fnExactLexWrong)

/-- 'laws.FnTokens': WHATEVER THE INPUT: true; the input reads as it did. -/
def fnTokensSpec : ChangeSpec := { name := "fnTokens", fn := fun _ => fun
  | [d] => { results := [.lit (.bool true)], args := [d] }
  | _ => none }
def fnTokensRow : OpenClaim := { program := "ytngobmjdbjlkcaa", sum := "3bacf56a90ce85dd50d14fb79fe4c12f9a9fd991e51f5a6c3119edd3841afa39", func := "loop.example/g00395/laws.FnTokens", spec := "fnTokens", recurses := true, apart := false }
def FnTokensSaid : Prop := fnTokensRow.holds Try.pinned (OpenSpec.ofChange fnTokensSpec)

/-- ITS FALSE NEIGHBOUR: 'it returns false'. Refute it at one input. -/
def fnTokensWrong : ChangeSpec := { name := "fnTokens", fn := fun _ => fun
  | [d] => { results := [.lit (.bool false)], args := [d] }
  | _ => none }
def FnTokensWrongFalsely : Prop := fnTokensRow.holds Try.pinned (OpenSpec.ofChange fnTokensWrong)

/-- 'laws.FnExactUnify': WHATEVER THE INPUT: true; the input reads as it did. -/
def fnExactUnifySpec : ChangeSpec := { name := "fnExactUnify", fn := fun _ => fun
  | [d1, d2] => { results := [.lit (.bool true)], args := [d1, d2] }
  | _ => none }
def fnExactUnifyRow : OpenClaim := { program := "ytngobmjdbjlkcaa", sum := "3bacf56a90ce85dd50d14fb79fe4c12f9a9fd991e51f5a6c3119edd3841afa39", func := "loop.example/g00395/laws.FnExactUnify", spec := "fnExactUnify", inPlace := ["slices.overlaps[loop.example/g00395/impl.Sub]"], unfollowed := true, recurses := true, apart := false }
def FnExactUnifySaid : Prop := fnExactUnifyRow.holds Try.pinned (OpenSpec.ofChange fnExactUnifySpec)

/-- ITS FALSE NEIGHBOUR: 'it returns false'. Refute it at one input. -/
def fnExactUnifyWrong : ChangeSpec := { name := "fnExactUnify", fn := fun _ => fun
  | [d1, d2] => { results := [.lit (.bool false)], args := [d1, d2] }
  | _ => none }
def FnExactUnifyWrongFalsely : Prop := fnExactUnifyRow.holds Try.pinned (OpenSpec.ofChange fnExactUnifyWrong)

/-- 'laws.FnExactTyVars': WHATEVER THE INPUT: true; the input reads as it did. -/
def fnExactTyVarsSpec : ChangeSpec := { name := "fnExactTyVars", fn := fun _ => fun
  | [d] => { results := [.lit (.bool true)], args := [d] }
  | _ => none }
def fnExactTyVarsRow : OpenClaim := { program := "ytngobmjdbjlkcaa", sum := "3bacf56a90ce85dd50d14fb79fe4c12f9a9fd991e51f5a6c3119edd3841afa39", func := "loop.example/g00395/laws.FnExactTyVars", spec := "fnExactTyVars", recurses := true, apart := false }
def FnExactTyVarsSaid : Prop := fnExactTyVarsRow.holds Try.pinned (OpenSpec.ofChange fnExactTyVarsSpec)

/-- ITS FALSE NEIGHBOUR: 'it returns false'. Refute it at one input. -/
def fnExactTyVarsWrong : ChangeSpec := { name := "fnExactTyVars", fn := fun _ => fun
  | [d] => { results := [.lit (.bool false)], args := [d] }
  | _ => none }
def FnExactTyVarsWrongFalsely : Prop := fnExactTyVarsRow.holds Try.pinned (OpenSpec.ofChange fnExactTyVarsWrong)

/-- 'laws.FnUnify': WHATEVER THE INPUT: true; the input reads as it did. -/
def fnUnifySpec : ChangeSpec := { name := "fnUnify", fn := fun _ => fun
  | [d] => { results := [.lit (.bool true)], args := [d] }
  | _ => none }
def fnUnifyRow : OpenClaim := { program := "ytngobmjdbjlkcaa", sum := "3bacf56a90ce85dd50d14fb79fe4c12f9a9fd991e51f5a6c3119edd3841afa39", func := "loop.example/g00395/laws.FnUnify", spec := "fnUnify", inPlace := ["slices.overlaps[loop.example/g00395/impl.Sub]"], unfollowed := true, recurses := true, apart := false }
def FnUnifySaid : Prop := fnUnifyRow.holds Try.pinned (OpenSpec.ofChange fnUnifySpec)

/-- ITS FALSE NEIGHBOUR: 'it returns false'. Refute it at one input. -/
def fnUnifyWrong : ChangeSpec := { name := "fnUnify", fn := fun _ => fun
  | [d] => { results := [.lit (.bool false)], args := [d] }
  | _ => none }
def FnUnifyWrongFalsely : Prop := fnUnifyRow.holds Try.pinned (OpenSpec.ofChange fnUnifyWrong)

/-- 'laws.FnCanon': WHATEVER THE INPUT: true; the input reads as it did. -/
def fnCanonSpec : ChangeSpec := { name := "fnCanon", fn := fun _ => fun
  | [d] => { results := [.lit (.bool true)], args := [d] }
  | _ => none }
def fnCanonRow : OpenClaim := { program := "ytngobmjdbjlkcaa", sum := "3bacf56a90ce85dd50d14fb79fe4c12f9a9fd991e51f5a6c3119edd3841afa39", func := "loop.example/g00395/laws.FnCanon", spec := "fnCanon", unfollowed := true, recurses := true, apart := false }
def FnCanonSaid : Prop := fnCanonRow.holds Try.pinned (OpenSpec.ofChange fnCanonSpec)

/-- ITS FALSE NEIGHBOUR: 'it returns false'. Refute it at one input. -/
def fnCanonWrong : ChangeSpec := { name := "fnCanon", fn := fun _ => fun
  | [d] => { results := [.lit (.bool false)], args := [d] }
  | _ => none }
def FnCanonWrongFalsely : Prop := fnCanonRow.holds Try.pinned (OpenSpec.ofChange fnCanonWrong)

/- THE SECOND FORM. 'bulk': how many values and letters a reading holds, each counted each time it is reached (what is shared counts as often as it is met; a slice's spare places count too). A statement '..UptoSaid' is the law's where the arguments, and the package variables that the reading takes, are together of bulk at most 1048576: NARROWER than '..Said'. Prove '..Said' where nothing that the law and all that it calls make is longer than what came in: it says more and counts as full. Else prove '..UptoSaid'. A law counts once. -/
mutual
def uptoBulk {H : Type} : DataW H → Nat
  | .lit (.string bytes) => bytes.length + 1
  | .lit _ => 1
  | .nil => 1
  | .ptr d => uptoBulk d + 1
  | .slice elems spare => uptoBulkAll elems + uptoBulkAll spare + 1
  | .agg parts => uptoBulkAll parts + 1
  | .iface _ d => uptoBulk d + 1
  | .map entries => uptoBulkEntries entries + 1
  | .held _ => 1
def uptoBulkAll {H : Type} : List (DataW H) → Nat
  | [] => 0
  | d :: r => uptoBulk d + uptoBulkAll r
def uptoBulkEntries {H : Type} : List (Lit × DataW H) → Nat
  | [] => 0
  | x :: r => uptoBulkEntry x + uptoBulkEntries r
def uptoBulkEntry {H : Type} : Lit × DataW H → Nat
  | (.string bytes, d) => bytes.length + uptoBulk d + 1
  | (_, d) => uptoBulk d + 1
 end
def uptoSmall : (H : Type) → List (DataW H) → Bool := fun _ ds => decide (uptoBulkAll ds ≤ 1048576)
def OpenSpec.upto (s : _root_.Go.ChangeSpec) : _root_.Go.OpenSpec := { _root_.Go.OpenSpec.ofChange s with cond := some uptoSmall }

/-- 'laws.FnFits', WHERE WHAT IT READS IS OF BULK AT MOST 1048576: true; the input reads as it did. -/
def fnFitsUptoRow : OpenClaim := { program := "ytngobmjdbjlkcaa", sum := "3bacf56a90ce85dd50d14fb79fe4c12f9a9fd991e51f5a6c3119edd3841afa39", func := "loop.example/g00395/laws.FnFits", spec := "fnFits", unfollowed := true, recurses := true, apart := false, narrowed := true }
def FnFitsUptoSaid : Prop := fnFitsUptoRow.holds Try.pinned (OpenSpec.upto fnFitsSpec)

/-- 'laws.FnExactTyPut', WHERE WHAT IT READS IS OF BULK AT MOST 1048576: true; the input reads as it did. -/
def fnExactTyPutUptoRow : OpenClaim := { program := "ytngobmjdbjlkcaa", sum := "3bacf56a90ce85dd50d14fb79fe4c12f9a9fd991e51f5a6c3119edd3841afa39", func := "loop.example/g00395/laws.FnExactTyPut", spec := "fnExactTyPut", unfollowed := true, recurses := true, apart := false, narrowed := true }
def FnExactTyPutUptoSaid : Prop := fnExactTyPutUptoRow.holds Try.pinned (OpenSpec.upto fnExactTyPutSpec)

/-- 'laws.FnExactLex', WHERE WHAT IT READS IS OF BULK AT MOST 1048576: true; the input reads as it did. -/
def fnExactLexUptoRow : OpenClaim := { program := "ytngobmjdbjlkcaa", sum := "3bacf56a90ce85dd50d14fb79fe4c12f9a9fd991e51f5a6c3119edd3841afa39", func := "loop.example/g00395/laws.FnExactLex", spec := "fnExactLex", recurses := true, apart := false, narrowed := true }
def FnExactLexUptoSaid : Prop := fnExactLexUptoRow.holds Try.pinned (OpenSpec.upto fnExactLexSpec)

/-- 'laws.FnTokens', WHERE WHAT IT READS IS OF BULK AT MOST 1048576: true; the input reads as it did. -/
def fnTokensUptoRow : OpenClaim := { program := "ytngobmjdbjlkcaa", sum := "3bacf56a90ce85dd50d14fb79fe4c12f9a9fd991e51f5a6c3119edd3841afa39", func := "loop.example/g00395/laws.FnTokens", spec := "fnTokens", recurses := true, apart := false, narrowed := true }
def FnTokensUptoSaid : Prop := fnTokensUptoRow.holds Try.pinned (OpenSpec.upto fnTokensSpec)

/-- 'laws.FnExactUnify', WHERE WHAT IT READS IS OF BULK AT MOST 1048576: true; the input reads as it did. -/
def fnExactUnifyUptoRow : OpenClaim := { program := "ytngobmjdbjlkcaa", sum := "3bacf56a90ce85dd50d14fb79fe4c12f9a9fd991e51f5a6c3119edd3841afa39", func := "loop.example/g00395/laws.FnExactUnify", spec := "fnExactUnify", inPlace := ["slices.overlaps[loop.example/g00395/impl.Sub]"], unfollowed := true, recurses := true, apart := false, narrowed := true }
def FnExactUnifyUptoSaid : Prop := fnExactUnifyUptoRow.holds Try.pinned (OpenSpec.upto fnExactUnifySpec)

/-- 'laws.FnExactTyVars', WHERE WHAT IT READS IS OF BULK AT MOST 1048576: true; the input reads as it did. -/
def fnExactTyVarsUptoRow : OpenClaim := { program := "ytngobmjdbjlkcaa", sum := "3bacf56a90ce85dd50d14fb79fe4c12f9a9fd991e51f5a6c3119edd3841afa39", func := "loop.example/g00395/laws.FnExactTyVars", spec := "fnExactTyVars", recurses := true, apart := false, narrowed := true }
def FnExactTyVarsUptoSaid : Prop := fnExactTyVarsUptoRow.holds Try.pinned (OpenSpec.upto fnExactTyVarsSpec)

/-- 'laws.FnUnify', WHERE WHAT IT READS IS OF BULK AT MOST 1048576: true; the input reads as it did. -/
def fnUnifyUptoRow : OpenClaim := { program := "ytngobmjdbjlkcaa", sum := "3bacf56a90ce85dd50d14fb79fe4c12f9a9fd991e51f5a6c3119edd3841afa39", func := "loop.example/g00395/laws.FnUnify", spec := "fnUnify", inPlace := ["slices.overlaps[loop.example/g00395/impl.Sub]"], unfollowed := true, recurses := true, apart := false, narrowed := true }
def FnUnifyUptoSaid : Prop := fnUnifyUptoRow.holds Try.pinned (OpenSpec.upto fnUnifySpec)

/-- 'laws.FnCanon', WHERE WHAT IT READS IS OF BULK AT MOST 1048576: true; the input reads as it did. -/
def fnCanonUptoRow : OpenClaim := { program := "ytngobmjdbjlkcaa", sum := "3bacf56a90ce85dd50d14fb79fe4c12f9a9fd991e51f5a6c3119edd3841afa39", func := "loop.example/g00395/laws.FnCanon", spec := "fnCanon", unfollowed := true, recurses := true, apart := false, narrowed := true }
def FnCanonUptoSaid : Prop := fnCanonUptoRow.holds Try.pinned (OpenSpec.upto fnCanonSpec)

end Rows
end Go.Proofs.Ytngobmjdbjlkcaa
