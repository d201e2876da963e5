import Derived.Test.YthmedgipfdoneaaAbS
/- Slices of numbers as plain data. -/
namespace Go.Proofs.Ythmedgipfdoneaa
set_option linter.unusedVariables false
set_option linter.unusedSimpArgs false
def iE (n : Int) : List D := [.s (.int .i64 n)]
theorem iE_eq (n : Int) : iE n = [.s (.int .i64 n)] := rfl
abbrev intsD (l : List Int) : D := .sl 1 (l.map iE)
end Go.Proofs.Ythmedgipfdoneaa
