import Derived.Test.YthmedgipfdoneaaAbT
/- Under a guard that is false an operation yields what one likes. -/
namespace Go.Proofs.Ythmedgipfdoneaa
open Go.RowKit
theorem ACallQ_no {P : Program} {σ : St} {o : Oper} {wr : T → T} {K : St → Prop} (h : K (σ.put o.dst (wr (.e (.d (.s (.bool false))))))) : ACallQ P σ o false wr K := ⟨_, fun q => (by cases q), h⟩
end Go.Proofs.Ythmedgipfdoneaa
