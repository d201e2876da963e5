/-
  No cell of these rows narrows 'for every input' (looked for: loops, veiled, ifaces, maps, wideKeys, modest, calm, conditions, laid).
  DERIVED. THE GIVEN ROWS OF THIS SEAT. 5 by the template 'for every input the law returns true; each argument reads behind the call as it read before'; 0 by the template 'total and deterministic' (their statements: YtmnokalddmlogaaGreatTotals.lean).
  GIVEN WITH THE SEED: the statements are not yours to turn. If you find one false, say at which input.
  Laid BY PROGRAM, IN A SANDBOX (cutbox-rows.mjs): the forced cells as the released guide's own fill.sh prints them over the translation 4e7ac07c2a1a58c2… (all of the seat's roots in one cut). By AI agents, Wed Nov 11 2026. No macro, syntax, notation, axiom, sorry.
-/
import Derived.Test.YtmnokalddmlogaaGreatChecked
import GoSem.Claim
import GoSem.ClaimJoined
import GoSem.ClaimMapViews
import Derived.JoinedTies
import Derived.KernelRfl
namespace Go.Proofs.YtmnokalddmlogaaGreat
/- THE CELL 'sum', in the pinned program and in every row, IS THE sha256 OF THE DUMP (.gsa) THAT YtmnokalddmlogaaGreatProg.lean LOADS. Nothing in Lean hashes anything: it is a label: what it is worth is what the hold of that sum in a sandbox is worth. -/
noncomputable def Tryz.pinned : Pinned := { name := "ytmnokalddmlogaagreat", sum := "4e7ac07c2a1a58c220fab868f3a604977fc633182be5b2d4dba8a21c7c2f56a7", checked := Tryz.checked }
namespace Rows
def none {H : Type} : Left H := { results := [], args := [] }

/-- 'laws.FnExactPatsTy': WHATEVER THE INPUT: true; the input reads as it did. -/
def fnExactPatsTySpec : ChangeSpec := { name := "fnExactPatsTy", fn := fun _ => fun
  | [d1, d2] => { results := [.lit (.bool true)], args := [d1, d2] }
  | _ => none }
def fnExactPatsTyRow : OpenClaim := { program := "ytmnokalddmlogaagreat", sum := "4e7ac07c2a1a58c220fab868f3a604977fc633182be5b2d4dba8a21c7c2f56a7", func := "loop.example/g00395/laws.FnExactPatsTy", spec := "fnExactPatsTy", inPlace := ["slices.overlaps[loop.example/g00395/impl.Sub]"], unfollowed := true, recurses := true, apart := false }
def FnExactPatsTySaid : Prop := fnExactPatsTyRow.holds Tryz.pinned (OpenSpec.ofChange fnExactPatsTySpec)

/-- ITS FALSE NEIGHBOUR: 'it returns false'. Refute it at one input. -/
def fnExactPatsTyWrong : ChangeSpec := { name := "fnExactPatsTy", fn := fun _ => fun
  | [d1, d2] => { results := [.lit (.bool false)], args := [d1, d2] }
  | _ => none }
def FnExactPatsTyWrongFalsely : Prop := fnExactPatsTyRow.holds Tryz.pinned (OpenSpec.ofChange fnExactPatsTyWrong)

/-- 'laws.FnExactComplete': WHATEVER THE INPUT: true; the input reads as it did. -/
def fnExactCompleteSpec : ChangeSpec := { name := "fnExactComplete", fn := fun _ => fun
  | [d1, d2] => { results := [.lit (.bool true)], args := [d1, d2] }
  | _ => none }
def fnExactCompleteRow : OpenClaim := { program := "ytmnokalddmlogaagreat", sum := "4e7ac07c2a1a58c220fab868f3a604977fc633182be5b2d4dba8a21c7c2f56a7", func := "loop.example/g00395/laws.FnExactComplete", spec := "fnExactComplete", inPlace := ["slices.overlaps[loop.example/g00395/impl.Sub]"], unfollowed := true, recurses := true, apart := false }
def FnExactCompleteSaid : Prop := fnExactCompleteRow.holds Tryz.pinned (OpenSpec.ofChange fnExactCompleteSpec)

/-- ITS FALSE NEIGHBOUR: 'it returns false'. Refute it at one input. -/
def fnExactCompleteWrong : ChangeSpec := { name := "fnExactComplete", fn := fun _ => fun
  | [d1, d2] => { results := [.lit (.bool false)], args := [d1, d2] }
  | _ => none }
def FnExactCompleteWrongFalsely : Prop := fnExactCompleteRow.holds Tryz.pinned (OpenSpec.ofChange fnExactCompleteWrong)

/-- 'laws.FnExactUseless': WHATEVER THE INPUT: true; the input reads as it did. -/
def fnExactUselessSpec : ChangeSpec := { name := "fnExactUseless", fn := fun _ => fun
  | [d1, d2] => { results := [.lit (.bool true)], args := [d1, d2] }
  | _ => none }
def fnExactUselessRow : OpenClaim := { program := "ytmnokalddmlogaagreat", sum := "4e7ac07c2a1a58c220fab868f3a604977fc633182be5b2d4dba8a21c7c2f56a7", func := "loop.example/g00395/laws.FnExactUseless", spec := "fnExactUseless", inPlace := ["slices.overlaps[loop.example/g00395/impl.Sub]"], unfollowed := true, recurses := true, apart := false }
def FnExactUselessSaid : Prop := fnExactUselessRow.holds Tryz.pinned (OpenSpec.ofChange fnExactUselessSpec)

/-- ITS FALSE NEIGHBOUR: 'it returns false'. Refute it at one input. -/
def fnExactUselessWrong : ChangeSpec := { name := "fnExactUseless", fn := fun _ => fun
  | [d1, d2] => { results := [.lit (.bool false)], args := [d1, d2] }
  | _ => none }
def FnExactUselessWrongFalsely : Prop := fnExactUselessRow.holds Tryz.pinned (OpenSpec.ofChange fnExactUselessWrong)

/-- 'laws.FnWild': WHATEVER THE INPUT: true; the input reads as it did. -/
def fnWildSpec : ChangeSpec := { name := "fnWild", fn := fun _ => fun
  | [d] => { results := [.lit (.bool true)], args := [d] }
  | _ => none }
def fnWildRow : OpenClaim := { program := "ytmnokalddmlogaagreat", sum := "4e7ac07c2a1a58c220fab868f3a604977fc633182be5b2d4dba8a21c7c2f56a7", func := "loop.example/g00395/laws.FnWild", spec := "fnWild", inPlace := ["slices.overlaps[loop.example/g00395/impl.Sub]"], unfollowed := true, recurses := true, apart := false }
def FnWildSaid : Prop := fnWildRow.holds Tryz.pinned (OpenSpec.ofChange fnWildSpec)

/-- ITS FALSE NEIGHBOUR: 'it returns false'. Refute it at one input. -/
def fnWildWrong : ChangeSpec := { name := "fnWild", fn := fun _ => fun
  | [d] => { results := [.lit (.bool false)], args := [d] }
  | _ => none }
def FnWildWrongFalsely : Prop := fnWildRow.holds Tryz.pinned (OpenSpec.ofChange fnWildWrong)

/-- 'laws.FnUseless': WHATEVER THE INPUT: true; the input reads as it did. -/
def fnUselessSpec : ChangeSpec := { name := "fnUseless", fn := fun _ => fun
  | [d] => { results := [.lit (.bool true)], args := [d] }
  | _ => none }
def fnUselessRow : OpenClaim := { program := "ytmnokalddmlogaagreat", sum := "4e7ac07c2a1a58c220fab868f3a604977fc633182be5b2d4dba8a21c7c2f56a7", func := "loop.example/g00395/laws.FnUseless", spec := "fnUseless", inPlace := ["slices.overlaps[loop.example/g00395/impl.Sub]"], unfollowed := true, recurses := true, apart := false }
def FnUselessSaid : Prop := fnUselessRow.holds Tryz.pinned (OpenSpec.ofChange fnUselessSpec)

/-- ITS FALSE NEIGHBOUR: 'it returns false'. Refute it at one input. -/
def fnUselessWrong : ChangeSpec := { name := "fnUseless", fn := fun _ => fun
  | [d] => { results := [.lit (.bool false)], args := [d] }
  | _ => none }
def FnUselessWrongFalsely : Prop := fnUselessRow.holds Tryz.pinned (OpenSpec.ofChange fnUselessWrong)

/- THE SECOND FORM. 'bulk': how many values and letters a reading holds, each counted each time it is reached (what is shared counts as often as it is met; a slice's spare places count too). A statement '..UptoSaid' is the law's where the arguments, and the package variables that the reading takes, are together of bulk at most 1048576: NARROWER than '..Said'. Prove '..Said' where nothing that the law and all that it calls make is longer than what came in: it says more and counts as full. Else prove '..UptoSaid'. A law counts once. -/
mutual
def uptoBulk {H : Type} : DataW H → Nat
  | .lit (.string bytes) => bytes.length + 1
  | .lit _ => 1
  | .nil => 1
  | .ptr d => uptoBulk d + 1
  | .slice elems spare => uptoBulkAll elems + uptoBulkAll spare + 1
  | .agg parts => uptoBulkAll parts + 1
  | .iface _ d => uptoBulk d + 1
  | .map entries => uptoBulkEntries entries + 1
  | .held _ => 1
def uptoBulkAll {H : Type} : List (DataW H) → Nat
  | [] => 0
  | d :: r => uptoBulk d + uptoBulkAll r
def uptoBulkEntries {H : Type} : List (Lit × DataW H) → Nat
  | [] => 0
  | x :: r => uptoBulkEntry x + uptoBulkEntries r
def uptoBulkEntry {H : Type} : Lit × DataW H → Nat
  | (.string bytes, d) => bytes.length + uptoBulk d + 1
  | (_, d) => uptoBulk d + 1
 end
def uptoSmall : (H : Type) → List (DataW H) → Bool := fun _ ds => decide (uptoBulkAll ds ≤ 1048576)
def OpenSpec.upto (s : _root_.Go.ChangeSpec) : _root_.Go.OpenSpec := { _root_.Go.OpenSpec.ofChange s with cond := some uptoSmall }

/-- 'laws.FnExactPatsTy', WHERE WHAT IT READS IS OF BULK AT MOST 1048576: true; the input reads as it did. -/
def fnExactPatsTyUptoRow : OpenClaim := { program := "ytmnokalddmlogaagreat", sum := "4e7ac07c2a1a58c220fab868f3a604977fc633182be5b2d4dba8a21c7c2f56a7", func := "loop.example/g00395/laws.FnExactPatsTy", spec := "fnExactPatsTy", inPlace := ["slices.overlaps[loop.example/g00395/impl.Sub]"], unfollowed := true, recurses := true, apart := false, narrowed := true }
def FnExactPatsTyUptoSaid : Prop := fnExactPatsTyUptoRow.holds Tryz.pinned (OpenSpec.upto fnExactPatsTySpec)

/-- 'laws.FnExactComplete', WHERE WHAT IT READS IS OF BULK AT MOST 1048576: true; the input reads as it did. -/
def fnExactCompleteUptoRow : OpenClaim := { program := "ytmnokalddmlogaagreat", sum := "4e7ac07c2a1a58c220fab868f3a604977fc633182be5b2d4dba8a21c7c2f56a7", func := "loop.example/g00395/laws.FnExactComplete", spec := "fnExactComplete", inPlace := ["slices.overlaps[loop.example/g00395/impl.Sub]"], unfollowed := true, recurses := true, apart := false, narrowed := true }
def FnExactCompleteUptoSaid : Prop := fnExactCompleteUptoRow.holds Tryz.pinned (OpenSpec.upto fnExactCompleteSpec)

/-- 'laws.FnExactUseless', WHERE WHAT IT READS IS OF BULK AT MOST 1048576: true; the input reads as it did. -/
def fnExactUselessUptoRow : OpenClaim := { program := "ytmnokalddmlogaagreat", sum := "4e7ac07c2a1a58c220fab868f3a604977fc633182be5b2d4dba8a21c7c2f56a7", func := "loop.example/g00395/laws.FnExactUseless", spec := "fnExactUseless", inPlace := ["slices.overlaps[loop.example/g00395/impl.Sub]"], unfollowed := true, recurses := true, apart := false, narrowed := true }
def FnExactUselessUptoSaid : Prop := fnExactUselessUptoRow.holds Tryz.pinned (OpenSpec.upto fnExactUselessSpec)

/-- 'laws.FnWild', WHERE WHAT IT READS IS OF BULK AT MOST 1048576: true; the input reads as it did. -/
def fnWildUptoRow : OpenClaim := { program := "ytmnokalddmlogaagreat", sum := "4e7ac07c2a1a58c220fab868f3a604977fc633182be5b2d4dba8a21c7c2f56a7", func := "loop.example/g00395/laws.FnWild", spec := "fnWild", inPlace := ["slices.overlaps[loop.example/g00395/impl.Sub]"], unfollowed := true, recurses := true, apart := false, narrowed := true }
def FnWildUptoSaid : Prop := fnWildUptoRow.holds Tryz.pinned (OpenSpec.upto fnWildSpec)

/-- 'laws.FnUseless', WHERE WHAT IT READS IS OF BULK AT MOST 1048576: true; the input reads as it did. -/
def fnUselessUptoRow : OpenClaim := { program := "ytmnokalddmlogaagreat", sum := "4e7ac07c2a1a58c220fab868f3a604977fc633182be5b2d4dba8a21c7c2f56a7", func := "loop.example/g00395/laws.FnUseless", spec := "fnUseless", inPlace := ["slices.overlaps[loop.example/g00395/impl.Sub]"], unfollowed := true, recurses := true, apart := false, narrowed := true }
def FnUselessUptoSaid : Prop := fnUselessUptoRow.holds Tryz.pinned (OpenSpec.upto fnUselessSpec)

end Rows
end Go.Proofs.YtmnokalddmlogaaGreat
