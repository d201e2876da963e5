import Derived.Test.YthkgncddilkmbaaHCode
import Derived.Test.YthkgncddilkmbaaPatM
import Derived.Test.YthkgncddilkmbaaHPrim
/- When code is right: plain; second engine's data. -/
namespace Go.Proofs.Ythkgncddilkmbaa
set_option linter.unusedVariables false
set_option linter.unusedSimpArgs false
/-- print, say, read, size. -/
def givenM (s : ByteArray) : Bool := s.toList == [112, 114, 105, 110, 116] || s.toList == [115, 97, 121] || s.toList == [114, 101, 97, 100] || s.toList == [115, 105, 122, 101]
def leadsM (op : Int) : Bool := op == 8 || op == 9 || op == 12 || op == 13 || op == 18
/-- an instruction among n instructions and m patterns. -/
def insM (n m : Int) (x : MIns) : Bool :=
  if leadsM x.op then decide (0 ≤ x.a) && decide (x.a < n) && (x.b == 0) && x.s.toList.isEmpty
  else if x.op = 20 then decide (0 ≤ x.a) && decide (x.a < m) && (decide (0 ≤ x.b) && decide (x.b < n)) && x.s.toList.isEmpty
  else if x.op = 6 ∨ x.op = 15 then decide (0 ≤ x.a) && decide (x.a ≤ 3000) && (x.b == 0) && x.s.toList.isEmpty
  else if x.op = 1 then decide (-4611686018427387904 ≤ x.a) && decide (x.a ≤ 4611686018427387903) && (x.b == 0) && x.s.toList.isEmpty
  else if x.op = 4 then decide (0 ≤ x.a) && decide (x.a ≤ 1) && (x.b == 0) && shapeM x.s x.a.toNat true
  else if x.op = 2 then (x.a == 0) && (x.b == 0)
  else if x.op = 7 then (x.a == 0) && (x.b == 0) && givenM x.s
  else if x.op = 16 then (x.a == 0) && (x.b == 0) && primM x.s
  else decide (1 ≤ x.op) && decide (x.op ≤ 25) && (x.a == 0) && (x.b == 0) && x.s.toList.isEmpty
def codeM (c : MCode) : Bool := decide (1 ≤ c.ins.length) && decide (c.ins.length ≤ 3000) && (c.pats.all fun q => patM q.nodes) && c.ins.all (insM c.ins.length c.pats.length)
end Go.Proofs.Ythkgncddilkmbaa
