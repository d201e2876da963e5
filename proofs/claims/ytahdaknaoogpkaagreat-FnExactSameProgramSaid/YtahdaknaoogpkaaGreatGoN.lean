import Derived.Test.YtahdaknaoogpkaaGreatHPx
import Derived.Test.YtahdaknaoogpkaaGreatExT
import Derived.Test.YtahdaknaoogpkaaGreatPgB
/- What of a program its text asks; sizes of fixed texts. -/
namespace Go.Proofs.YtahdaknaoogpkaaGreat
set_option linter.unusedVariables false
set_option linter.unusedSimpArgs false
open Go.RowKit Arb
structure goN (a : EI) (l : List ET) : Prop where
  s : a.s.size ≤ 1048576
  q : ∀ q ∈ a.pats, q.ok ∧ q.sm
theorem goN.strB {t : ET} (h : All goN t) : All strB t := by
  induction t using Arb.ind with
  | h a l ih => exact .mk h.root.s fun t ht => ih t ht (h.kid t ht)
theorem etx_le {t : ET} (ok : okT t) (g : All goN t) (hz : t.size ≤ 1000) : (etx t).size ≤ 5000000000 := by
  have := etx_size t ok (goN.strB g)
  omega
theorem z3 (a b c : UInt8) : (⟨#[a, b, c]⟩ : ByteArray).size = 3 := rfl
theorem z5 (a b c d e : UInt8) : (⟨#[a, b, c, d, e]⟩ : ByteArray).size = 5 := rfl
theorem z6 (a b c d e f : UInt8) : (⟨#[a, b, c, d, e, f]⟩ : ByteArray).size = 6 := rfl
theorem z7 (a b c d e f g : UInt8) : (⟨#[a, b, c, d, e, f, g]⟩ : ByteArray).size = 7 := rfl
theorem z9 (a b c d e f g h i : UInt8) : (⟨#[a, b, c, d, e, f, g, h, i]⟩ : ByteArray).size = 9 := rfl
noncomputable def etR (t : ET) : List D := stE (etx t)
theorem etR_eq (t : ET) : etR t = [.s (.string (etx t))] := rfl
theorem go_of {p : MProgram} (ho : p.ok) (hs : p.sm) {t : ET} (ht : p.nodes = Arb.lay EI.node 0 t) : All goN t := by
  have hA := At.zero (f := EI.node) t
  rw [← ht] at hA
  exact all_of t 0 hA fun j x l hj => by
    have hm := List.mem_of_getElem? hj.root
    have h1 := hs.2.2 _ hm
    have h2 := ho.2 _ hm
    exact ⟨h1.1, fun q hq => ⟨h2.2.2.2.2.2 q hq, h1.2.2.2 q hq⟩⟩
end Go.Proofs.YtahdaknaoogpkaaGreat
