/- TyOk of both texts. -/
import Derived.Test.YtmopjpnghomdfaaTys
import Derived.Test.YtmopjpnghomdfaaNameWalks
namespace Go.Proofs.Ytmopjpnghomdfaa
set_option linter.unusedVariables false
set_option linter.unusedSimpArgs false
open Go.RowKit Go.ChangeShapes Go.WideShapes
theorem str_lit {x : ByteArray} (y : ByteArray) : (x.toList == y.toList) = decide (x = y) := str_beq x y
theorem spec_l04Item (w : World) (x : TyI) (hx : x.ok) :
    Calls Try.prog 73 #[.agg #[.int .i64 x.v, .string x.name, .int .i64 x.ar]] w fun e w' => e = .returned (.bool (itemM x)) ∧ Below w.heap.size w w' := by
  obtain ⟨v, s, a⟩ := x
  obtain ⟨hv, hs, ha⟩ := hx
  unfold I64 at hv ha
  dsimp only at hv hs ha ⊢
  go_enter Try.func73, Try.ntmps73
  go_wp2_with (first | (go_at_call 95; refine (spec_NameOk _ _ hs).mono ?_; rintro e w1 ⟨rfl, hb1⟩; obtain ⟨kc1, kf1⟩ := bcell hb1; have kz1 := hb1.size; (try simp at kz1); (first | (refine (fun (kw1_0 : w.heap.size  < w1.heap.size) => ?_) ?_; rotate_left; omega) | skip); (first | (refine (fun (kw1_1 : w.heap.size + 1 < w1.heap.size) => ?_) ?_; rotate_left; omega) | skip); (first | (refine (fun (kw1_2 : w.heap.size + 1 + 1 < w1.heap.size) => ?_) ?_; rotate_left; omega) | skip)))
  all_goals
    go_ret
    first
      | exact ⟨ret_b (by grind [itemM]), (by repeat (first | with_reducible exact Below.refl _ _ | with_reducible assumption | with_reducible refine Below.setCell ?_ ?_ _ | with_reducible refine Below.alloc ?_ ?_ _ | with_reducible refine Below.drew ?_ | (with_reducible apply below_chain; with_reducible assumption) | exact Nat.le_refl _ | omega | (simp <;> omega)))⟩
      | skip
theorem impl_tyName (w : World) (x : TyI) (hx : x.ok) (h0 : 0 ≤ x.ar) (h1 : x.ar ≤ 2) (h2 : x.v = 0) (h3 : x.name.toList.isEmpty = false) :
    Calls Try.prog 96 #[.agg #[.int .i64 x.v, .string x.name, .int .i64 x.ar]] w fun e w' => e = .returned (.bool (itemM x)) ∧ Below w.heap.size w w' := by
  obtain ⟨v, s, a⟩ := x
  obtain ⟨hv, hs, ha⟩ := hx
  unfold I64 at hv ha
  dsimp only at hv hs ha h0 h1 h2 h3 ⊢
  subst h2
  go_enter Try.func96, Try.ntmps96
  go_wp2_with (first | (go_at_call 113; refine (impl_NameOk _ _ hs).mono ?_; rintro e w1 ⟨rfl, hb1⟩; obtain ⟨kc1, kf1⟩ := bcell hb1; have kz1 := hb1.size; (try simp at kz1); (first | (refine (fun (kw1_0 : w.heap.size  < w1.heap.size) => ?_) ?_; rotate_left; omega) | skip); (first | (refine (fun (kw1_1 : w.heap.size + 1 < w1.heap.size) => ?_) ?_; rotate_left; omega) | skip); (first | (refine (fun (kw1_2 : w.heap.size + 1 + 1 < w1.heap.size) => ?_) ?_; rotate_left; omega) | skip)))
  all_goals
    go_ret
    first
      | exact ⟨ret_b (by grind [itemM]), (by repeat (first | with_reducible exact Below.refl _ _ | with_reducible assumption | with_reducible refine Below.setCell ?_ ?_ _ | with_reducible refine Below.alloc ?_ ?_ _ | with_reducible refine Below.drew ?_ | (with_reducible apply below_chain; with_reducible assumption) | exact Nat.le_refl _ | omega | (simp <;> omega)))⟩
      | skip
end Go.Proofs.Ytmopjpnghomdfaa
