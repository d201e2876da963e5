import Derived.Test.YthmedgipfdoneaaEProgram
import Derived.Test.YthmedgipfdoneaaPatB
import Derived.Test.YthmedgipfdoneaaPatC
/- Right programs, plain. -/
namespace Go.Proofs.Ythmedgipfdoneaa
set_option linter.unusedVariables false
set_option linter.unusedSimpArgs false
/-- how many kids a kind has; -1 where it hangs on more. -/
def arI (k : Int) : Int :=
  if k = 1 ∨ k = 2 ∨ k = 3 ∨ k = 12 then 0 else if k = 5 ∨ k = 14 ∨ k = 16 ∨ k = 17 then 1
  else if k = 6 ∨ k = 7 ∨ k = 8 ∨ k = 10 ∨ k = 11 ∨ k = 15 ∨ k = 18 ∨ k = 19 then 2 else if k = 9 then 3 else -1
def primL : List (List UInt8) := [[43], [45], [42], [47], [37], [94], [61], [60, 62], [60], [60, 61]]
def primM (s : ByteArray) : Bool := primL.any fun l => s.toList == l
/-- the first kid is of a kind. -/
def kidK (nodes : List MNode) (l : List Int) (kd : Int) : Bool := match l with
  | k :: _ => decide (0 ≤ k) && (match nodes[k.toNat]? with | some x => x.kind == kd | none => false)
  | [] => false
theorem kidK_at {nodes : List MNode} {l : List Int} (h : 0 < l.length) {k : Nat} (hk : k < nodes.length) (e : l[0] = (k : Int)) (kd : Int) : kidK nodes l kd = (nodes[k].kind == kd) := by
  match l, h with
  | z :: r, _ =>
    have hz : z = (k : Int) := e
    subst hz
    simp only [kidK, Int.toNat_natCast, List.getElem?_eq_getElem hk]
    rw [decide_eq_true (by omega)]; rfl
/-- a node by itself, by its kind; nb: whether its name is right. -/
def kindI (nodes : List MNode) (n : MNode) (nb : Bool) : Bool :=
  if n.kind = 1 then decide (0 ≤ n.n) && decide (n.n ≤ 4611686018427387903) && n.s.toList.isEmpty
  else if n.kind = 2 then true
  else if n.kind = 3 ∨ n.kind = 5 ∨ n.kind = 7 ∨ n.kind = 15 then nb
  else if n.kind = 8 then nb && kidK nodes n.kids 5
  else if n.kind = 10 then primM n.s
  else if n.kind = 4 then shapeM n.s n.kids.length (decide (n.kids.length = 1) && kidK nodes n.kids 11)
  else if n.kind = 13 then n.s.toList.isEmpty && decide (1 ≤ n.pats.length) && decide (n.kids.length = n.pats.length + 1)
  else decide (1 ≤ n.kind) && decide (n.kind ≤ 19) && n.s.toList.isEmpty
def nodeI (nodes : List MNode) (n : MNode) (nb : Bool) : Bool :=
  decide (0 ≤ n.at_) && (decide (arI n.kind < 0) || decide ((n.kids.length : Int) = arI n.kind)) && (decide (n.kind = 13) || decide (n.pats.length = 0)) && (decide (n.kind = 1) || decide (n.kind = 3) || decide (n.n = 0)) && kindI nodes n nb
/-- whether the name of a node is right. -/
def nameB (n : MNode) : Bool := nameM n.s && decide (n.n = 0)
def inB (nodes : List MNode) (l : List Int) : Bool := l.all fun k => decide (0 ≤ k) && decide (k < (nodes.length : Int))
/-- a node by itself, as the reference asks it. -/
def nodeM (nodes : List MNode) (n : MNode) : Bool := inB nodes n.kids && nodeI nodes n (nameB n) && n.pats.all fun q => patM q.nodes
def conOkM (params : Int) (c : MCon) : Bool := conM c.name.data.toList && (if c.has = true then tyOkM c.arg && c.arg.all (fun x => !(x.name.toList.isEmpty && decide (params ≤ x.v))) else decide (c.arg.length = 0))
def typeM (t : MType) : Bool := nameM t.name && decide (0 ≤ t.params) && decide (t.params ≤ 2) && decide (1 ≤ t.cons.length) && decide (t.cons.length ≤ 8) && t.cons.all (conOkM t.params)
abbrev kidsN (nodes : List MNode) : List (List Int) := nodes.map fun n => n.kids
def progM (p : MProgram) : Bool := decide (1 ≤ p.nodes.length) && decide (p.nodes.length ≤ 600) && decide (p.types.length ≤ 8) && p.types.all typeM && p.nodes.all (nodeM p.nodes) && orderM (kidsN p.nodes)
end Go.Proofs.Ythmedgipfdoneaa
