/-
  Proved: the statement 'Rows.FnExactSignOfSaid': for every input the law 'FnExactSignOf' returns true and leaves its arguments as they were; no further condition.
-/
import Derived.Test.YtallaohjlncajaaRows
import Derived.WalkKit
import Derived.ProofKit
import Derived.OpenShut
import Derived.ShutString
import Derived.ChangeOld
import Derived.Below
import Derived.Test.YtallaohjlncajaaTok
namespace Go.Proofs.Ytallaohjlncajaa.fnExactSignOf
open Go.ChangeShapes Go.WideShapes Go.ChangeAt Go.RowKit
open Go.ChangeMaps (open_string shut_string)
set_option linter.unusedVariables false

theorem own : ownKnob Try.prog.godebug = none := by kernel_rfl
theorem laidOut : laidOutB Try.prog = true := by kernel_rfl
theorem agg_of {P : Program} {W : World} {r : Reach} {b : Nat} {t : TypeId} {fs : Array Field} {v : Value} (hu : P.underlying t = some (.struct fs)) (o : Value.okWide P W r b t v) : ∃ cs, v = .agg cs ∧ v.cells.toList = cs.toList := by
  obtain ⟨cs, rfl, _⟩ := okWide_struct hu o
  exact ⟨cs, rfl, rfl⟩

/-! ### the walk -/
theorem walk {H : Type} {enc : TypeId × Value → H} {base : Nat} (w : World) (v0 : Value) (d0 : DataW H) (p0 : List MemPlace) (k0 : DataW.Trod enc Try.prog w 0 (fun _ => true) true 30 v0 d0 p0) (o0 : Value.okWide Try.prog w .any base 30 v0) :
    Calls Try.prog 10 #[v0] w fun e w' => e = .returned (.bool true) ∧ Below w.heap.size w w' := by
  obtain ⟨t, rfl, hs⟩ : ∃ t : Tok, v0 = t.val ∧ t.s.size ≤ maxLen := by
    obtain ⟨cs, rfl, hc⟩ := agg_of Try.underlying30 o0
    obtain ⟨fuel, hf⟩ := k0
    rw [hc] at hf
    obtain ⟨t, ht, hs⟩ := rd_Tok hf
    refine ⟨t, ?_, hs⟩
    have : cs = t.cells.toArray := by rw [← ht]
    rw [this]; rfl
  clear k0 o0
  have h1 := fun W => spec_SignOf W t
  have h2 := fun W => impl_SignOf W t
  have h3 := fun W => laws_toTok W t
  have h4 := fun W => laws_szTok W t 1048576 (by omega) (by omega) hs
  obtain ⟨k, n, s, a⟩ := t
  unfold Tok.val at *
  dsimp only at *
  have H1 := Lib.hid h1
  have H2 := Lib.hid h2
  have H3 := Lib.hid h3
  have H4 := Lib.hid h4
  clear h1 h2 h3 h4
  by_cases hl : (1048576 : Int) < s.size
  · rw [if_pos hl] at H4
    go_enter Try.func10, Try.ntmps10
    go_wp2_with (first | (go_at_call 33; refine (H4.out _).mono ?_; rintro e w1 ⟨rfl, hb1⟩))
    go_ret
    exact ⟨rfl, (by repeat (first | exact Below.refl _ _ | assumption | (apply below_chain; assumption) | refine Below.drew ?_ | refine Below.alloc ?_ ?_ _ | refine Below.setCell ?_ ?_ _ | exact Nat.le_refl _ | omega | (simp <;> omega)))⟩
  · rw [if_neg hl] at H4
    go_enter Try.func10, Try.ntmps10
    go_wp2_with (first | (go_at_call 33; refine (H4.out _).mono ?_; rintro e w1 ⟨rfl, hb1⟩; obtain ⟨kc1, kf1⟩ := bcell hb1; have kz1 := hb1.size; (try simp at kz1); (first | (refine (fun (kw1_0 : w.heap.size  < w1.heap.size) => ?_) ?_; rotate_left; omega) | skip); (first | (refine (fun (kw1_1 : w.heap.size + 1 < w1.heap.size) => ?_) ?_; rotate_left; omega) | skip); (first | (refine (fun (kw1_2 : w.heap.size + 1 + 1 < w1.heap.size) => ?_) ?_; rotate_left; omega) | skip)) | (go_at_call 35; refine (H3.out _).mono ?_; rintro e w2 ⟨rfl, hb2⟩; obtain ⟨kc2, kf2⟩ := bcell hb2; have kz2 := hb2.size; (try simp at kz2); (first | (refine (fun (kw2_0 : w.heap.size  < w2.heap.size) => ?_) ?_; rotate_left; omega) | skip); (first | (refine (fun (kw2_1 : w.heap.size + 1 < w2.heap.size) => ?_) ?_; rotate_left; omega) | skip); (first | (refine (fun (kw2_2 : w.heap.size + 1 + 1 < w2.heap.size) => ?_) ?_; rotate_left; omega) | skip)) | (go_at_call 34; refine (H1.out _).mono ?_; rintro e w3 ⟨rfl, hb3⟩; obtain ⟨kc3, kf3⟩ := bcell hb3; have kz3 := hb3.size; (try simp at kz3); (first | (refine (fun (kw3_0 : w.heap.size  < w3.heap.size) => ?_) ?_; rotate_left; omega) | skip); (first | (refine (fun (kw3_1 : w.heap.size + 1 < w3.heap.size) => ?_) ?_; rotate_left; omega) | skip); (first | (refine (fun (kw3_2 : w.heap.size + 1 + 1 < w3.heap.size) => ?_) ?_; rotate_left; omega) | skip)) | (go_at_call 36; refine (H2.out _).mono ?_; rintro e w4 ⟨rfl, hb4⟩; obtain ⟨kc4, kf4⟩ := bcell hb4; have kz4 := hb4.size; (try simp at kz4); (first | (refine (fun (kw4_0 : w.heap.size  < w4.heap.size) => ?_) ?_; rotate_left; omega) | skip); (first | (refine (fun (kw4_1 : w.heap.size + 1 < w4.heap.size) => ?_) ?_; rotate_left; omega) | skip); (first | (refine (fun (kw4_2 : w.heap.size + 1 + 1 < w4.heap.size) => ?_) ?_; rotate_left; omega) | skip)))
    go_ret
    exact ⟨rfl, (by repeat (first | exact Below.refl _ _ | assumption | (apply below_chain; assumption) | refine Below.drew ?_ | refine Below.alloc ?_ ?_ _ | refine Below.setCell ?_ ?_ _ | exact Nat.le_refl _ | omega | (simp <;> omega)))⟩

/-! ### the row's step -/
set_option maxRecDepth 100000 in
theorem lifted (os : Os) (started : os.Started) (H : Type) (enc : TypeId × Value → H) :
    ReturnsInHanded {} Try.checked os 10 .any (Rows.fnExactSignOfSpec.pre6 enc Try.prog Try.f10 Rows.fnExactSignOfRow.domain false) (Rows.fnExactSignOfSpec.post enc Try.prog Try.f10 false true false false) := by
  refine returnsInHanded_of_change (C := Try.checked) own started (by kernel_rfl) Try.func10
    (ChangeSpec.witness6 (enc := enc) (C := Try.checked) false ⟨#[], #[.agg #[.int .i64 0, .int .i64 0, .string ByteArray.empty, .int .i64 0]], []⟩ 8 (by kernel_rfl) (by kernel_rfl) (by kernel_rfl) (by kernel_rfl)) ?_
  intro W base args ds gs before hval0 hW hcnd _
  have hval : ∀ (j : Nat) t v, Try.f10.params[j]? = some t → args[j]? = some v → Value.okWide Try.prog W .any base t v := hval0
  have hW' := hW
  obtain ⟨p, q, hA0, hV, rfl, hfz, hnd⟩ := hW
  have hA : DataW.TrodAll enc Try.prog W 0 (fun _ => true) true Try.f10.params.toList args.toList ds p := hA0
  rw [Try.params10] at hA hval
  obtain ⟨v0, vs0, d0, ds0, p0, q0, hargs, rfl, rfl, h0, r0⟩ := trodAll_cons hA
  obtain ⟨rfl, rfl, rfl⟩ := trodAll_nil r0
  obtain rfl : args = #[v0] := by cases args; simp_all
  obtain ⟨rfl, rfl⟩ := trodVars_none hV
  have lt0 : ∀ x ∈ p0, x.block < W.heap.size := by obtain ⟨m, hm⟩ := h0; exact DataW.trod_lt m _ _ _ hm
  clear hA0 hval0
  refine (walk (enc := enc) W v0 d0 p0 h0 (hval 0 30 v0 rfl rfl)).mono fun e W' ⟨he, bel⟩ => ?_
  subst he
  exact ⟨_, rfl, _, _, _, [], _, [], hW', trodAll_mk1 (shut_bool Try.underlying4 _), (trodAll_cons_mk (Below.trod laidOut (by kernel_rfl) (of_decide_eq_true (by kernel_rfl)) h0 bel lt0) trodAll_mk0), rfl, bel.frame _, fun h => by cases h⟩

theorem over : Rows.fnExactSignOfRow.holds Try.pinned (OpenSpec.ofChange Rows.fnExactSignOfSpec) :=
  OpenClaim.holds_of_wide 10 Try.f10 rfl rfl rfl rfl rfl rfl rfl ⟨rfl, rfl, rfl, rfl, rfl⟩ rfl rfl rfl rfl rfl (by kernel_rfl) Try.func10 (by kernel_rfl)
    (of_decide_eq_true (by kernel_rfl)) (by unfold Func.isWrapper; first | (rw [if_pos (by decide +kernel)]; kernel_rfl) | (rw [if_neg (by decide +kernel)]; exact ⟨rfl, rfl⟩))
    (fun os started H enc _ => lifted os started H enc)

/-- the statement -/
theorem proved : Rows.FnExactSignOfSaid := over
#print axioms proved
end Go.Proofs.Ytallaohjlncajaa.fnExactSignOf
