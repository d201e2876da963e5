import Derived.Test.YtahdaknaoogpkaaGreatHaB
import Derived.Test.YtahdaknaoogpkaaGreatDecB
/- The text of a type: plain. -/
namespace Go.Proofs.YtahdaknaoogpkaaGreat
set_option linter.unusedVariables false
def varT (v : Int) : List UInt8 := if 25 < v then [39, 122] ++ numT v else [39, UInt8.ofNat (97 + v.toNat)]
def textT (xs : List TyI) : Nat → Nat → List UInt8
  | 0, _ => []
  | n + 1, k => match xs[k]? with
    | none => []
    | some x =>
      if x.name.toList.isEmpty then varT x.v
      else if x.ar = 0 then x.name.data.toList
      else if x.ar = 1 then [40] ++ textT xs n (k + 1) ++ [41, 32] ++ x.name.data.toList
      else if x.name.toList == [45, 62] || x.name.toList == [42] then [40] ++ textT xs n (k + 1) ++ [32] ++ x.name.data.toList ++ [32] ++ textT xs n (endM xs (k + 1)).toNat ++ [41]
      else [40] ++ textT xs n (k + 1) ++ [44, 32] ++ textT xs n (endM xs (k + 1)).toNat ++ [41, 32] ++ x.name.data.toList
def printTyM (xs : List TyI) : List UInt8 := if tyOkM xs then textT xs xs.length 0 else []
theorem textT_at (xs : List TyI) (n k : Nat) (h : k < xs.length) : textT xs (n + 1) k =
    if xs[k].name.toList.isEmpty then varT xs[k].v
    else if xs[k].ar = 0 then xs[k].name.data.toList
    else if xs[k].ar = 1 then [40] ++ textT xs n (k + 1) ++ [41, 32] ++ xs[k].name.data.toList
    else if xs[k].name.toList == [45, 62] || xs[k].name.toList == [42] then [40] ++ textT xs n (k + 1) ++ [32] ++ xs[k].name.data.toList ++ [32] ++ textT xs n (endM xs (k + 1)).toNat ++ [41]
    else [40] ++ textT xs n (k + 1) ++ [44, 32] ++ textT xs n (endM xs (k + 1)).toNat ++ [41, 32] ++ xs[k].name.data.toList := by
  rw [textT, List.getElem?_eq_getElem h]
theorem printTyM_bad {xs : List TyI} (h : tyOkM xs = false) : printTyM xs = [] := by unfold printTyM; rw [h]; rfl
theorem printTyM_ok {xs : List TyI} (h : tyOkM xs = true) : printTyM xs = textT xs xs.length 0 := by unfold printTyM; rw [if_pos h]
theorem endM_first {xs : List TyI} {k : Nat} (h : k < xs.length) (he : endM xs k ≠ -1) (ha : 0 < xs[k].ar.toNat) : endM xs (k + 1) ≠ -1 := by
  intro e
  rw [endM_step xs k h] at he
  rw [endM_ends] at e
  exact he (endsM_neg xs (k + 1) 1 (by omega) _ (by omega))
end Go.Proofs.YtahdaknaoogpkaaGreat
