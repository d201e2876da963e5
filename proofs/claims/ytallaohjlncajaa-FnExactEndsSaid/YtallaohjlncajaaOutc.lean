/- Outcomes: szOutcome, toOutcome, eqOutcome, Ends of both texts. -/
import Derived.Test.YtallaohjlncajaaStrs
namespace Go.Proofs.Ytallaohjlncajaa
set_option linter.unusedVariables false
open Go.RowKit Go.ChangeShapes Go.WideShapes

structure Outc where
  kind : Int
  n : Int
  trace : List ByteArray
  steps : Int
def OutcR (h : Hp) (r : List Value) (o : Outc) : Prop := ∃ v, r = [.int .i64 o.kind, .int .i64 o.n, v, .int .i64 o.steps] ∧ StrS h v o.trace
theorem cells_Outc : Try.prog.cellsOf 41 = 4 := by kernel_rfl
theorem cells_int' : Try.prog.cellsOf 3 = 1 := by kernel_rfl
theorem cells_string' : Try.prog.cellsOf 9 = 1 := by kernel_rfl
theorem cells_strings : Try.prog.cellsOf 39 = 1 := by kernel_rfl
theorem rd_strs {H : Type} {enc : TypeId × Value → H} {W : World} {n : Nat} {cs : List Value} {x : DataW H × List MemPlace} (h : Rd enc Try.prog W n 39 cs x) : ∃ v ss, cs = [v] ∧ StrS (hp W) v ss :=
  rd_slice 1 strR Try.underlying39 cells_string' (by decide) (fun n cs' y hy => by
    obtain ⟨s, e, -, hs⟩ := DataW.trod_string Try.underlying9 hy
    exact ⟨s, e, hs⟩) h
theorem len4' {cs : List Value} (h : cs.length = 4) : ∃ a b c d, cs = [a, b, c, d] := by
  match cs, h with
  | [a, b, c, d], _ => exact ⟨a, b, c, d, rfl⟩
theorem rd_Outc {H : Type} {enc : TypeId × Value → H} {W : World} {n : Nat} {cs : List Value} {x : DataW H × List MemPlace} (h : Rd enc Try.prog W n 41 cs x) : ∃ o : Outc, OutcR (hp W) cs o := by
  obtain ⟨hl, m, hf⟩ := rd_fields Try.underlying41 h
  rw [cells_Outc] at hl
  obtain ⟨a, b, c, d, rfl⟩ := len4' hl
  simp only [List.forall_mem_cons, cells_int', cells_strings] at hf
  obtain ⟨⟨_, h0⟩, ⟨_, h1⟩, ⟨_, h2⟩, ⟨_, h3⟩, _⟩ := hf
  obtain ⟨k0, e0, -, -⟩ := DataW.trod_int Try.underlying3 h0
  obtain ⟨k1, e1, -, -⟩ := DataW.trod_int Try.underlying3 h1
  obtain ⟨v, ss, e2, hs⟩ := rd_strs h2
  obtain ⟨k3, e3, -, -⟩ := DataW.trod_int Try.underlying3 h3
  simp at e0 e1 e2 e3
  subst e0 e1 e2 e3
  exact ⟨⟨k0, k1, ss, k3⟩, _, rfl, hs⟩

section
variable (w : World) (k n : Int) (v : Value) (ss : List ByteArray) (st : Int)
theorem laws_szOutcome (h : Hp) (hs : Sub h w) (hv : StrS h v ss) (left : Int) (h0 : 0 ≤ left) (h1 : left ≤ 1048576) :
    Calls Try.prog 45 #[.agg #[.int .i64 k, .int .i64 n, v, .int .i64 st], .int .i64 left] w fun e w' => SzPost left ss.length e ∧ Below w.heap.size w w' := by
  go_enter Try.func45, Try.ntmps45
  go_wp2_with (first | (go_at_call 72; refine (laws_szStringS _ h (hs.alloc _) v ss hv left h0 h1).mono ?_; rintro e w' ⟨⟨r, rfl, r1, r2, r3⟩, rfl⟩))
  · go_ret
    exact ⟨⟨_, rfl, by omega, by omega, by omega⟩, (by repeat (first | with_reducible exact Below.refl _ _ | with_reducible assumption | with_reducible refine Below.setCell ?_ ?_ _ | with_reducible refine Below.alloc ?_ ?_ _ | with_reducible refine Below.drew ?_ | (with_reducible apply below_chain; with_reducible assumption) | exact Nat.le_refl _ | omega | (simp <;> omega)))⟩
  · go_ret
    exact ⟨⟨_, rfl, by omega, by omega, fun _ => r3 (by omega)⟩, (by repeat (first | with_reducible exact Below.refl _ _ | with_reducible assumption | with_reducible refine Below.setCell ?_ ?_ _ | with_reducible refine Below.alloc ?_ ?_ _ | with_reducible refine Below.drew ?_ | (with_reducible apply below_chain; with_reducible assumption) | exact Nat.le_refl _ | omega | (simp <;> omega)))⟩
def OutcPost (h : Hp) (w : World) (e : Ending) (w' : World) : Prop := ∃ v', e = .returned (.agg #[.int .i64 k, .int .i64 n, v', .int .i64 st]) ∧ StrS (ext h w.heap.size w') v' ss ∧ Below w.heap.size w w'
theorem laws_toOutcome (h : Hp) (hs : Sub h w) (hv : StrS h v ss) (hl : ss.length ≤ 1048576) :
    Calls Try.prog 47 #[.agg #[.int .i64 k, .int .i64 n, v, .int .i64 st]] w fun e w' => OutcPost k n ss st h w e w' := by
  have n1 := Lib.hid (hs.none (b := w.heap.size + 1) (by omega))
  have n2 := Lib.hid (hs.none (b := w.heap.size + 1 + 1) (by omega))
  go_enter Try.func47, Try.ntmps47
  go_wp2_with (first | (go_at_call 73; refine (laws_toStringS _ h (((hs.alloc _).alloc _).alloc _) v ss hv hl).mono ?_; rintro e w1 ⟨v', rfl, hv', hb1⟩; obtain ⟨a', c', rfl, -⟩ := id hv'; have HV' := Lib.hid hv'; clear hv'; obtain ⟨kc1, kf1⟩ := bcell hb1; have kz1 := hb1.size; (try simp at kz1); (first | (refine (fun (kw1_0 : w.heap.size  < w1.heap.size) => ?_) ?_; rotate_left; omega) | skip); (first | (refine (fun (kw1_1 : w.heap.size + 1 < w1.heap.size) => ?_) ?_; rotate_left; omega) | skip); (first | (refine (fun (kw1_2 : w.heap.size + 1 + 1 < w1.heap.size) => ?_) ?_; rotate_left; omega) | skip)))
  refine bodyPost_ret (v := .agg #[.int .i64 k, .int .i64 n, .slice a' ss.length c', .int .i64 st]) (by simp [results, Try.results47, go_sem, kc1]) rfl ⟨_, rfl, ?_, ?_⟩
  · refine HV'.out.le' (Live.out (B := w.heap.size) ?_)
    iterate 4 refine Live.setCell ?_ ((ext_old (by simp)).trans n1.out) _
    iterate 2 refine Live.setCell ?_ ((ext_old (by simp)).trans n2.out) _
    exact ((((Live.start hs).alloc _).alloc _).alloc _).call hb1 (by simp; omega)
  · exact (by repeat (first | with_reducible exact Below.refl _ _ | with_reducible assumption | with_reducible refine Below.setCell ?_ ?_ _ | with_reducible refine Below.alloc ?_ ?_ _ | with_reducible refine Below.drew ?_ | (with_reducible apply below_chain; with_reducible assumption) | exact Nat.le_refl _ | omega | (simp <;> omega)))
theorem laws_eqOutcome (v' : Value) (h : Hp) (hs : Sub h w) (hv : StrS h v ss) (hv' : StrS h v' ss) :
    Calls Try.prog 49 #[.agg #[.int .i64 k, .int .i64 n, v, .int .i64 st], .agg #[.int .i64 k, .int .i64 n, v', .int .i64 st]] w fun e w' => e = .returned (.bool true) ∧ Below w.heap.size w w' := by
  go_enter Try.func49, Try.ntmps49
  go_wp2_with (first | (go_at_call 74; refine (laws_eqStringS _ h ((hs.alloc _).alloc _) v v' ss hv hv').mono ?_; rintro e w1 ⟨rfl, hb1⟩; obtain ⟨kc1, kf1⟩ := bcell hb1; have kz1 := hb1.size; (try simp at kz1); (first | (refine (fun (kw1_0 : w.heap.size  < w1.heap.size) => ?_) ?_; rotate_left; omega) | skip); (first | (refine (fun (kw1_1 : w.heap.size + 1 < w1.heap.size) => ?_) ?_; rotate_left; omega) | skip); (first | (refine (fun (kw1_2 : w.heap.size + 1 + 1 < w1.heap.size) => ?_) ?_; rotate_left; omega) | skip)))
  go_ret
  exact ⟨rfl, (by repeat (first | with_reducible exact Below.refl _ _ | with_reducible assumption | with_reducible refine Below.setCell ?_ ?_ _ | with_reducible refine Below.alloc ?_ ?_ _ | with_reducible refine Below.drew ?_ | (with_reducible apply below_chain; with_reducible assumption) | exact Nat.le_refl _ | omega | (simp <;> omega)))⟩
def endsM (k : Int) : Bool := k == 1 || k == 2
theorem impl_Ends : Calls Try.prog 48 #[.agg #[.int .i64 k, .int .i64 n, v, .int .i64 st]] w fun e w' => e = .returned (.bool (endsM k)) ∧ Below w.heap.size w w' := by
  go_enter Try.func48, Try.ntmps48
  go_wp2
  all_goals
    go_ret
    exact ⟨congrArg (fun b => Ending.returned (.bool b)) (by grind [endsM]), (by repeat (first | with_reducible exact Below.refl _ _ | with_reducible assumption | with_reducible refine Below.setCell ?_ ?_ _ | with_reducible refine Below.alloc ?_ ?_ _ | with_reducible refine Below.drew ?_ | (with_reducible apply below_chain; with_reducible assumption) | exact Nat.le_refl _ | omega | (simp <;> omega)))⟩
theorem spec_Ends : Calls Try.prog 46 #[.agg #[.int .i64 k, .int .i64 n, v, .int .i64 st]] w fun e w' => e = .returned (.bool (endsM k)) ∧ Below w.heap.size w w' := by
  go_enter Try.func46, Try.ntmps46
  go_wp2
  all_goals
    go_ret
    exact ⟨congrArg (fun b => Ending.returned (.bool b)) (by grind [endsM]), (by repeat (first | with_reducible exact Below.refl _ _ | with_reducible assumption | with_reducible refine Below.setCell ?_ ?_ _ | with_reducible refine Below.alloc ?_ ?_ _ | with_reducible refine Below.drew ?_ | (with_reducible apply below_chain; with_reducible assumption) | exact Nat.le_refl _ | omega | (simp <;> omega)))⟩
end
end Go.Proofs.Ytallaohjlncajaa
