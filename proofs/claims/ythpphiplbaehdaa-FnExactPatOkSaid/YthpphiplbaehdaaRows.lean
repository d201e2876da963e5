/-
  No cell of these rows narrows 'for every input' (looked for: loops, veiled, ifaces, maps, wideKeys, modest, calm, conditions, laid).
  DERIVED. THE GIVEN ROWS OF THIS SEAT. 12 by the template 'for every input the law returns true; each argument reads behind the call as it read before'; 0 by the template 'total and deterministic' (their statements: YthpphiplbaehdaaTotals.lean).
  GIVEN WITH THE SEED: the statements are not yours to turn. If you find one false, say at which input.
  Laid BY PROGRAM, IN A SANDBOX (cutbox-rows.mjs): the forced cells as the released guide's own fill.sh prints them over the translation 9cb952a6ab7a2f1f… (all of the seat's roots in one cut). By AI agents, Wed Nov 11 2026. No macro, syntax, notation, axiom, sorry.
-/
import Derived.Test.YthpphiplbaehdaaChecked
import GoSem.Claim
import GoSem.ClaimJoined
import GoSem.ClaimMapViews
import Derived.JoinedTies
import Derived.KernelRfl
namespace Go.Proofs.Ythpphiplbaehdaa
/- THE CELL 'sum', in the pinned program and in every row, IS THE sha256 OF THE DUMP (.gsa) THAT YthpphiplbaehdaaProg.lean LOADS. Nothing in Lean hashes anything: it is a label: what it is worth is what the hold of that sum in a sandbox is worth. -/
noncomputable def Try.pinned : Pinned := { name := "ythpphiplbaehdaa", sum := "9cb952a6ab7a2f1f875414dd005110858d4a33e117d7c2dcecb063e1f6ae1cd0", checked := Try.checked }
namespace Rows
def none {H : Type} : Left H := { results := [], args := [] }

/-- 'laws.FnExactTyOk': WHATEVER THE INPUT: true; the input reads as it did. -/
def fnExactTyOkSpec : ChangeSpec := { name := "fnExactTyOk", fn := fun _ => fun
  | [d] => { results := [.lit (.bool true)], args := [d] }
  | _ => none }
def fnExactTyOkRow : OpenClaim := { program := "ythpphiplbaehdaa", sum := "9cb952a6ab7a2f1f875414dd005110858d4a33e117d7c2dcecb063e1f6ae1cd0", func := "loop.example/g00395/laws.FnExactTyOk", spec := "fnExactTyOk", recurses := true, apart := false }
def FnExactTyOkSaid : Prop := fnExactTyOkRow.holds Try.pinned (OpenSpec.ofChange fnExactTyOkSpec)

/-- ITS FALSE NEIGHBOUR: 'it returns false'. Refute it at one input. -/
def fnExactTyOkWrong : ChangeSpec := { name := "fnExactTyOk", fn := fun _ => fun
  | [d] => { results := [.lit (.bool false)], args := [d] }
  | _ => none }
def FnExactTyOkWrongFalsely : Prop := fnExactTyOkRow.holds Try.pinned (OpenSpec.ofChange fnExactTyOkWrong)

/-- 'laws.FnExactHeapOk': WHATEVER THE INPUT: true; the input reads as it did. -/
def fnExactHeapOkSpec : ChangeSpec := { name := "fnExactHeapOk", fn := fun _ => fun
  | [d1, d2] => { results := [.lit (.bool true)], args := [d1, d2] }
  | _ => none }
def fnExactHeapOkRow : OpenClaim := { program := "ythpphiplbaehdaa", sum := "9cb952a6ab7a2f1f875414dd005110858d4a33e117d7c2dcecb063e1f6ae1cd0", func := "loop.example/g00395/laws.FnExactHeapOk", spec := "fnExactHeapOk", unfollowed := true, recurses := true, apart := false }
def FnExactHeapOkSaid : Prop := fnExactHeapOkRow.holds Try.pinned (OpenSpec.ofChange fnExactHeapOkSpec)

/-- ITS FALSE NEIGHBOUR: 'it returns false'. Refute it at one input. -/
def fnExactHeapOkWrong : ChangeSpec := { name := "fnExactHeapOk", fn := fun _ => fun
  | [d1, d2] => { results := [.lit (.bool false)], args := [d1, d2] }
  | _ => none }
def FnExactHeapOkWrongFalsely : Prop := fnExactHeapOkRow.holds Try.pinned (OpenSpec.ofChange fnExactHeapOkWrong)

/-- 'laws.FnExactDataOk': WHATEVER THE INPUT: true; the input reads as it did. -/
def fnExactDataOkSpec : ChangeSpec := { name := "fnExactDataOk", fn := fun _ => fun
  | [d] => { results := [.lit (.bool true)], args := [d] }
  | _ => none }
def fnExactDataOkRow : OpenClaim := { program := "ythpphiplbaehdaa", sum := "9cb952a6ab7a2f1f875414dd005110858d4a33e117d7c2dcecb063e1f6ae1cd0", func := "loop.example/g00395/laws.FnExactDataOk", spec := "fnExactDataOk", unfollowed := true, recurses := true, apart := false }
def FnExactDataOkSaid : Prop := fnExactDataOkRow.holds Try.pinned (OpenSpec.ofChange fnExactDataOkSpec)

/-- ITS FALSE NEIGHBOUR: 'it returns false'. Refute it at one input. -/
def fnExactDataOkWrong : ChangeSpec := { name := "fnExactDataOk", fn := fun _ => fun
  | [d] => { results := [.lit (.bool false)], args := [d] }
  | _ => none }
def FnExactDataOkWrongFalsely : Prop := fnExactDataOkRow.holds Try.pinned (OpenSpec.ofChange fnExactDataOkWrong)

/-- 'laws.FnExactPatOk': WHATEVER THE INPUT: true; the input reads as it did. -/
def fnExactPatOkSpec : ChangeSpec := { name := "fnExactPatOk", fn := fun _ => fun
  | [d] => { results := [.lit (.bool true)], args := [d] }
  | _ => none }
def fnExactPatOkRow : OpenClaim := { program := "ythpphiplbaehdaa", sum := "9cb952a6ab7a2f1f875414dd005110858d4a33e117d7c2dcecb063e1f6ae1cd0", func := "loop.example/g00395/laws.FnExactPatOk", spec := "fnExactPatOk", unfollowed := true, recurses := true, apart := false }
def FnExactPatOkSaid : Prop := fnExactPatOkRow.holds Try.pinned (OpenSpec.ofChange fnExactPatOkSpec)

/-- ITS FALSE NEIGHBOUR: 'it returns false'. Refute it at one input. -/
def fnExactPatOkWrong : ChangeSpec := { name := "fnExactPatOk", fn := fun _ => fun
  | [d] => { results := [.lit (.bool false)], args := [d] }
  | _ => none }
def FnExactPatOkWrongFalsely : Prop := fnExactPatOkRow.holds Try.pinned (OpenSpec.ofChange fnExactPatOkWrong)

/-- 'laws.FnExactPrintTy': WHATEVER THE INPUT: true; the input reads as it did. -/
def fnExactPrintTySpec : ChangeSpec := { name := "fnExactPrintTy", fn := fun _ => fun
  | [d] => { results := [.lit (.bool true)], args := [d] }
  | _ => none }
def fnExactPrintTyRow : OpenClaim := { program := "ythpphiplbaehdaa", sum := "9cb952a6ab7a2f1f875414dd005110858d4a33e117d7c2dcecb063e1f6ae1cd0", func := "loop.example/g00395/laws.FnExactPrintTy", spec := "fnExactPrintTy", recurses := true, apart := false }
def FnExactPrintTySaid : Prop := fnExactPrintTyRow.holds Try.pinned (OpenSpec.ofChange fnExactPrintTySpec)

/-- ITS FALSE NEIGHBOUR: 'it returns false'. Refute it at one input. -/
def fnExactPrintTyWrong : ChangeSpec := { name := "fnExactPrintTy", fn := fun _ => fun
  | [d] => { results := [.lit (.bool false)], args := [d] }
  | _ => none }
def FnExactPrintTyWrongFalsely : Prop := fnExactPrintTyRow.holds Try.pinned (OpenSpec.ofChange fnExactPrintTyWrong)

/-- 'laws.FnExactTyCanon': WHATEVER THE INPUT: true; the input reads as it did. -/
def fnExactTyCanonSpec : ChangeSpec := { name := "fnExactTyCanon", fn := fun _ => fun
  | [d] => { results := [.lit (.bool true)], args := [d] }
  | _ => none }
def fnExactTyCanonRow : OpenClaim := { program := "ythpphiplbaehdaa", sum := "9cb952a6ab7a2f1f875414dd005110858d4a33e117d7c2dcecb063e1f6ae1cd0", func := "loop.example/g00395/laws.FnExactTyCanon", spec := "fnExactTyCanon", recurses := true, apart := false }
def FnExactTyCanonSaid : Prop := fnExactTyCanonRow.holds Try.pinned (OpenSpec.ofChange fnExactTyCanonSpec)

/-- ITS FALSE NEIGHBOUR: 'it returns false'. Refute it at one input. -/
def fnExactTyCanonWrong : ChangeSpec := { name := "fnExactTyCanon", fn := fun _ => fun
  | [d] => { results := [.lit (.bool false)], args := [d] }
  | _ => none }
def FnExactTyCanonWrongFalsely : Prop := fnExactTyCanonRow.holds Try.pinned (OpenSpec.ofChange fnExactTyCanonWrong)

/-- 'laws.FnExactSubsOk': WHATEVER THE INPUT: true; the input reads as it did. -/
def fnExactSubsOkSpec : ChangeSpec := { name := "fnExactSubsOk", fn := fun _ => fun
  | [d] => { results := [.lit (.bool true)], args := [d] }
  | _ => none }
def fnExactSubsOkRow : OpenClaim := { program := "ythpphiplbaehdaa", sum := "9cb952a6ab7a2f1f875414dd005110858d4a33e117d7c2dcecb063e1f6ae1cd0", func := "loop.example/g00395/laws.FnExactSubsOk", spec := "fnExactSubsOk", unfollowed := true, recurses := true, apart := false }
def FnExactSubsOkSaid : Prop := fnExactSubsOkRow.holds Try.pinned (OpenSpec.ofChange fnExactSubsOkSpec)

/-- ITS FALSE NEIGHBOUR: 'it returns false'. Refute it at one input. -/
def fnExactSubsOkWrong : ChangeSpec := { name := "fnExactSubsOk", fn := fun _ => fun
  | [d] => { results := [.lit (.bool false)], args := [d] }
  | _ => none }
def FnExactSubsOkWrongFalsely : Prop := fnExactSubsOkRow.holds Try.pinned (OpenSpec.ofChange fnExactSubsOkWrong)

/-- 'laws.FnExactFits': WHATEVER THE INPUT: true; the input reads as it did. -/
def fnExactFitsSpec : ChangeSpec := { name := "fnExactFits", fn := fun _ => fun
  | [d1, d2] => { results := [.lit (.bool true)], args := [d1, d2] }
  | _ => none }
def fnExactFitsRow : OpenClaim := { program := "ythpphiplbaehdaa", sum := "9cb952a6ab7a2f1f875414dd005110858d4a33e117d7c2dcecb063e1f6ae1cd0", func := "loop.example/g00395/laws.FnExactFits", spec := "fnExactFits", unfollowed := true, recurses := true, apart := false }
def FnExactFitsSaid : Prop := fnExactFitsRow.holds Try.pinned (OpenSpec.ofChange fnExactFitsSpec)

/-- ITS FALSE NEIGHBOUR: 'it returns false'. Refute it at one input. -/
def fnExactFitsWrong : ChangeSpec := { name := "fnExactFits", fn := fun _ => fun
  | [d1, d2] => { results := [.lit (.bool false)], args := [d1, d2] }
  | _ => none }
def FnExactFitsWrongFalsely : Prop := fnExactFitsRow.holds Try.pinned (OpenSpec.ofChange fnExactFitsWrong)

/-- 'laws.FnExactPrintPat': WHATEVER THE INPUT: true; the input reads as it did. -/
def fnExactPrintPatSpec : ChangeSpec := { name := "fnExactPrintPat", fn := fun _ => fun
  | [d] => { results := [.lit (.bool true)], args := [d] }
  | _ => none }
def fnExactPrintPatRow : OpenClaim := { program := "ythpphiplbaehdaa", sum := "9cb952a6ab7a2f1f875414dd005110858d4a33e117d7c2dcecb063e1f6ae1cd0", func := "loop.example/g00395/laws.FnExactPrintPat", spec := "fnExactPrintPat", unfollowed := true, recurses := true, apart := false }
def FnExactPrintPatSaid : Prop := fnExactPrintPatRow.holds Try.pinned (OpenSpec.ofChange fnExactPrintPatSpec)

/-- ITS FALSE NEIGHBOUR: 'it returns false'. Refute it at one input. -/
def fnExactPrintPatWrong : ChangeSpec := { name := "fnExactPrintPat", fn := fun _ => fun
  | [d] => { results := [.lit (.bool false)], args := [d] }
  | _ => none }
def FnExactPrintPatWrongFalsely : Prop := fnExactPrintPatRow.holds Try.pinned (OpenSpec.ofChange fnExactPrintPatWrong)

/-- 'laws.FnFits': WHATEVER THE INPUT: true; the input reads as it did. -/
def fnFitsSpec : ChangeSpec := { name := "fnFits", fn := fun _ => fun
  | [d] => { results := [.lit (.bool true)], args := [d] }
  | _ => none }
def fnFitsRow : OpenClaim := { program := "ythpphiplbaehdaa", sum := "9cb952a6ab7a2f1f875414dd005110858d4a33e117d7c2dcecb063e1f6ae1cd0", func := "loop.example/g00395/laws.FnFits", spec := "fnFits", unfollowed := true, recurses := true, apart := false }
def FnFitsSaid : Prop := fnFitsRow.holds Try.pinned (OpenSpec.ofChange fnFitsSpec)

/-- ITS FALSE NEIGHBOUR: 'it returns false'. Refute it at one input. -/
def fnFitsWrong : ChangeSpec := { name := "fnFits", fn := fun _ => fun
  | [d] => { results := [.lit (.bool false)], args := [d] }
  | _ => none }
def FnFitsWrongFalsely : Prop := fnFitsRow.holds Try.pinned (OpenSpec.ofChange fnFitsWrong)

/-- 'laws.FnExactTyPut': WHATEVER THE INPUT: true; the input reads as it did. -/
def fnExactTyPutSpec : ChangeSpec := { name := "fnExactTyPut", fn := fun _ => fun
  | [d1, d2] => { results := [.lit (.bool true)], args := [d1, d2] }
  | _ => none }
def fnExactTyPutRow : OpenClaim := { program := "ythpphiplbaehdaa", sum := "9cb952a6ab7a2f1f875414dd005110858d4a33e117d7c2dcecb063e1f6ae1cd0", func := "loop.example/g00395/laws.FnExactTyPut", spec := "fnExactTyPut", unfollowed := true, recurses := true, apart := false }
def FnExactTyPutSaid : Prop := fnExactTyPutRow.holds Try.pinned (OpenSpec.ofChange fnExactTyPutSpec)

/-- ITS FALSE NEIGHBOUR: 'it returns false'. Refute it at one input. -/
def fnExactTyPutWrong : ChangeSpec := { name := "fnExactTyPut", fn := fun _ => fun
  | [d1, d2] => { results := [.lit (.bool false)], args := [d1, d2] }
  | _ => none }
def FnExactTyPutWrongFalsely : Prop := fnExactTyPutRow.holds Try.pinned (OpenSpec.ofChange fnExactTyPutWrong)

/-- 'laws.FnExactCodeOk': WHATEVER THE INPUT: true; the input reads as it did. -/
def fnExactCodeOkSpec : ChangeSpec := { name := "fnExactCodeOk", fn := fun _ => fun
  | [d] => { results := [.lit (.bool true)], args := [d] }
  | _ => none }
def fnExactCodeOkRow : OpenClaim := { program := "ythpphiplbaehdaa", sum := "9cb952a6ab7a2f1f875414dd005110858d4a33e117d7c2dcecb063e1f6ae1cd0", func := "loop.example/g00395/laws.FnExactCodeOk", spec := "fnExactCodeOk", unfollowed := true, recurses := true, apart := false }
def FnExactCodeOkSaid : Prop := fnExactCodeOkRow.holds Try.pinned (OpenSpec.ofChange fnExactCodeOkSpec)

/-- ITS FALSE NEIGHBOUR: 'it returns false'. Refute it at one input. -/
def fnExactCodeOkWrong : ChangeSpec := { name := "fnExactCodeOk", fn := fun _ => fun
  | [d] => { results := [.lit (.bool false)], args := [d] }
  | _ => none }
def FnExactCodeOkWrongFalsely : Prop := fnExactCodeOkRow.holds Try.pinned (OpenSpec.ofChange fnExactCodeOkWrong)

/- THE SECOND FORM. 'bulk': how many values and letters a reading holds, each counted each time it is reached (what is shared counts as often as it is met; a slice's spare places count too). A statement '..UptoSaid' is the law's where the arguments, and the package variables that the reading takes, are together of bulk at most 1048576: NARROWER than '..Said'. Prove '..Said' where nothing that the law and all that it calls make is longer than what came in: it says more and counts as full. Else prove '..UptoSaid'. A law counts once. -/
mutual
def uptoBulk {H : Type} : DataW H → Nat
  | .lit (.string bytes) => bytes.length + 1
  | .lit _ => 1
  | .nil => 1
  | .ptr d => uptoBulk d + 1
  | .slice elems spare => uptoBulkAll elems + uptoBulkAll spare + 1
  | .agg parts => uptoBulkAll parts + 1
  | .iface _ d => uptoBulk d + 1
  | .map entries => uptoBulkEntries entries + 1
  | .held _ => 1
def uptoBulkAll {H : Type} : List (DataW H) → Nat
  | [] => 0
  | d :: r => uptoBulk d + uptoBulkAll r
def uptoBulkEntries {H : Type} : List (Lit × DataW H) → Nat
  | [] => 0
  | x :: r => uptoBulkEntry x + uptoBulkEntries r
def uptoBulkEntry {H : Type} : Lit × DataW H → Nat
  | (.string bytes, d) => bytes.length + uptoBulk d + 1
  | (_, d) => uptoBulk d + 1
 end
def uptoSmall : (H : Type) → List (DataW H) → Bool := fun _ ds => decide (uptoBulkAll ds ≤ 1048576)
def OpenSpec.upto (s : _root_.Go.ChangeSpec) : _root_.Go.OpenSpec := { _root_.Go.OpenSpec.ofChange s with cond := some uptoSmall }

/-- 'laws.FnExactTyOk', WHERE WHAT IT READS IS OF BULK AT MOST 1048576: true; the input reads as it did. -/
def fnExactTyOkUptoRow : OpenClaim := { program := "ythpphiplbaehdaa", sum := "9cb952a6ab7a2f1f875414dd005110858d4a33e117d7c2dcecb063e1f6ae1cd0", func := "loop.example/g00395/laws.FnExactTyOk", spec := "fnExactTyOk", recurses := true, apart := false, narrowed := true }
def FnExactTyOkUptoSaid : Prop := fnExactTyOkUptoRow.holds Try.pinned (OpenSpec.upto fnExactTyOkSpec)

/-- 'laws.FnExactHeapOk', WHERE WHAT IT READS IS OF BULK AT MOST 1048576: true; the input reads as it did. -/
def fnExactHeapOkUptoRow : OpenClaim := { program := "ythpphiplbaehdaa", sum := "9cb952a6ab7a2f1f875414dd005110858d4a33e117d7c2dcecb063e1f6ae1cd0", func := "loop.example/g00395/laws.FnExactHeapOk", spec := "fnExactHeapOk", unfollowed := true, recurses := true, apart := false, narrowed := true }
def FnExactHeapOkUptoSaid : Prop := fnExactHeapOkUptoRow.holds Try.pinned (OpenSpec.upto fnExactHeapOkSpec)

/-- 'laws.FnExactDataOk', WHERE WHAT IT READS IS OF BULK AT MOST 1048576: true; the input reads as it did. -/
def fnExactDataOkUptoRow : OpenClaim := { program := "ythpphiplbaehdaa", sum := "9cb952a6ab7a2f1f875414dd005110858d4a33e117d7c2dcecb063e1f6ae1cd0", func := "loop.example/g00395/laws.FnExactDataOk", spec := "fnExactDataOk", unfollowed := true, recurses := true, apart := false, narrowed := true }
def FnExactDataOkUptoSaid : Prop := fnExactDataOkUptoRow.holds Try.pinned (OpenSpec.upto fnExactDataOkSpec)

/-- 'laws.FnExactPatOk', WHERE WHAT IT READS IS OF BULK AT MOST 1048576: true; the input reads as it did. -/
def fnExactPatOkUptoRow : OpenClaim := { program := "ythpphiplbaehdaa", sum := "9cb952a6ab7a2f1f875414dd005110858d4a33e117d7c2dcecb063e1f6ae1cd0", func := "loop.example/g00395/laws.FnExactPatOk", spec := "fnExactPatOk", unfollowed := true, recurses := true, apart := false, narrowed := true }
def FnExactPatOkUptoSaid : Prop := fnExactPatOkUptoRow.holds Try.pinned (OpenSpec.upto fnExactPatOkSpec)

/-- 'laws.FnExactPrintTy', WHERE WHAT IT READS IS OF BULK AT MOST 1048576: true; the input reads as it did. -/
def fnExactPrintTyUptoRow : OpenClaim := { program := "ythpphiplbaehdaa", sum := "9cb952a6ab7a2f1f875414dd005110858d4a33e117d7c2dcecb063e1f6ae1cd0", func := "loop.example/g00395/laws.FnExactPrintTy", spec := "fnExactPrintTy", recurses := true, apart := false, narrowed := true }
def FnExactPrintTyUptoSaid : Prop := fnExactPrintTyUptoRow.holds Try.pinned (OpenSpec.upto fnExactPrintTySpec)

/-- 'laws.FnExactTyCanon', WHERE WHAT IT READS IS OF BULK AT MOST 1048576: true; the input reads as it did. -/
def fnExactTyCanonUptoRow : OpenClaim := { program := "ythpphiplbaehdaa", sum := "9cb952a6ab7a2f1f875414dd005110858d4a33e117d7c2dcecb063e1f6ae1cd0", func := "loop.example/g00395/laws.FnExactTyCanon", spec := "fnExactTyCanon", recurses := true, apart := false, narrowed := true }
def FnExactTyCanonUptoSaid : Prop := fnExactTyCanonUptoRow.holds Try.pinned (OpenSpec.upto fnExactTyCanonSpec)

/-- 'laws.FnExactSubsOk', WHERE WHAT IT READS IS OF BULK AT MOST 1048576: true; the input reads as it did. -/
def fnExactSubsOkUptoRow : OpenClaim := { program := "ythpphiplbaehdaa", sum := "9cb952a6ab7a2f1f875414dd005110858d4a33e117d7c2dcecb063e1f6ae1cd0", func := "loop.example/g00395/laws.FnExactSubsOk", spec := "fnExactSubsOk", unfollowed := true, recurses := true, apart := false, narrowed := true }
def FnExactSubsOkUptoSaid : Prop := fnExactSubsOkUptoRow.holds Try.pinned (OpenSpec.upto fnExactSubsOkSpec)

/-- 'laws.FnExactFits', WHERE WHAT IT READS IS OF BULK AT MOST 1048576: true; the input reads as it did. -/
def fnExactFitsUptoRow : OpenClaim := { program := "ythpphiplbaehdaa", sum := "9cb952a6ab7a2f1f875414dd005110858d4a33e117d7c2dcecb063e1f6ae1cd0", func := "loop.example/g00395/laws.FnExactFits", spec := "fnExactFits", unfollowed := true, recurses := true, apart := false, narrowed := true }
def FnExactFitsUptoSaid : Prop := fnExactFitsUptoRow.holds Try.pinned (OpenSpec.upto fnExactFitsSpec)

/-- 'laws.FnExactPrintPat', WHERE WHAT IT READS IS OF BULK AT MOST 1048576: true; the input reads as it did. -/
def fnExactPrintPatUptoRow : OpenClaim := { program := "ythpphiplbaehdaa", sum := "9cb952a6ab7a2f1f875414dd005110858d4a33e117d7c2dcecb063e1f6ae1cd0", func := "loop.example/g00395/laws.FnExactPrintPat", spec := "fnExactPrintPat", unfollowed := true, recurses := true, apart := false, narrowed := true }
def FnExactPrintPatUptoSaid : Prop := fnExactPrintPatUptoRow.holds Try.pinned (OpenSpec.upto fnExactPrintPatSpec)

/-- 'laws.FnFits', WHERE WHAT IT READS IS OF BULK AT MOST 1048576: true; the input reads as it did. -/
def fnFitsUptoRow : OpenClaim := { program := "ythpphiplbaehdaa", sum := "9cb952a6ab7a2f1f875414dd005110858d4a33e117d7c2dcecb063e1f6ae1cd0", func := "loop.example/g00395/laws.FnFits", spec := "fnFits", unfollowed := true, recurses := true, apart := false, narrowed := true }
def FnFitsUptoSaid : Prop := fnFitsUptoRow.holds Try.pinned (OpenSpec.upto fnFitsSpec)

/-- 'laws.FnExactTyPut', WHERE WHAT IT READS IS OF BULK AT MOST 1048576: true; the input reads as it did. -/
def fnExactTyPutUptoRow : OpenClaim := { program := "ythpphiplbaehdaa", sum := "9cb952a6ab7a2f1f875414dd005110858d4a33e117d7c2dcecb063e1f6ae1cd0", func := "loop.example/g00395/laws.FnExactTyPut", spec := "fnExactTyPut", unfollowed := true, recurses := true, apart := false, narrowed := true }
def FnExactTyPutUptoSaid : Prop := fnExactTyPutUptoRow.holds Try.pinned (OpenSpec.upto fnExactTyPutSpec)

/-- 'laws.FnExactCodeOk', WHERE WHAT IT READS IS OF BULK AT MOST 1048576: true; the input reads as it did. -/
def fnExactCodeOkUptoRow : OpenClaim := { program := "ythpphiplbaehdaa", sum := "9cb952a6ab7a2f1f875414dd005110858d4a33e117d7c2dcecb063e1f6ae1cd0", func := "loop.example/g00395/laws.FnExactCodeOk", spec := "fnExactCodeOk", unfollowed := true, recurses := true, apart := false, narrowed := true }
def FnExactCodeOkUptoSaid : Prop := fnExactCodeOkUptoRow.holds Try.pinned (OpenSpec.upto fnExactCodeOkSpec)

end Rows
end Go.Proofs.Ythpphiplbaehdaa
