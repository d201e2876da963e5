/-
  Proved: the statement 'Rows.FnRingSaid': for every input the law 'FnRing' returns true and leaves its arguments as they were; no further condition.
-/
import Derived.Test.YtallaohjlncajaaRows
import Derived.WalkKit
import Derived.ProofKit
import Derived.OpenShut
import Derived.ShutString
import Derived.ChangeOld
import Derived.Below
import Derived.Test.YtallaohjlncajaaDraw
import Derived.Test.YtallaohjlncajaaNumWalks
namespace Go.Proofs.Ytallaohjlncajaa.fnRing
open Go.ChangeShapes Go.WideShapes Go.ChangeAt Go.RowKit
open Go.ChangeMaps (open_string shut_string)
set_option linter.unusedVariables false

theorem own : ownKnob Try.prog.godebug = none := by kernel_rfl
theorem laidOut : laidOutB Try.prog = true := by kernel_rfl
theorem bytes_of {P : Program} {W : World} {r : Reach} {b : Nat} {t e : TypeId} {v : Value} (hu : P.underlying t = some (.slice e)) (o : Value.okWide P W r b t v) : ∃ a n c, v = .slice a n c := by
  obtain ⟨a, n, c, rfl, _⟩ := okWide_slice hu o
  exact ⟨a, n, c, rfl⟩
theorem ring_eq (x y z : Int) : wrap63 (z * wrap63 (x + y)) = wrap63 (wrap63 (z * x) + wrap63 (z * y)) := by
  rw [wrap63_mul_r, wrap63_add, Int.mul_add]
theorem ring_back (x y : Int) : wrap63 (wrap63 (x + y) - y) = wrap63 x := by
  rw [wrap63_sub_l]; congr 1; omega

/-! ### the walk -/
theorem walk {H : Type} {enc : TypeId × Value → H} {base : Nat} (w : World) (v0 : Value) (d0 : DataW H) (p0 : List MemPlace) (k0 : DataW.Trod enc Try.prog w 0 (fun _ => true) true 48 v0 d0 p0) (o0 : Value.okWide Try.prog w .any base 48 v0) :
    Calls Try.prog 16 #[v0] w fun e w' => e = .returned (.bool true) ∧ Below w.heap.size w w' := by
  obtain ⟨zs, hv⟩ : ∃ zs, BytS (hp w) v0 zs := by
    obtain ⟨a, n, c, rfl⟩ := bytes_of Try.underlying48 o0
    obtain ⟨fuel, hf⟩ := k0
    obtain ⟨v, zs, e, h⟩ := rd_bytes hf
    have e' : [Value.slice a n c] = [v] := e
    injection e' with e'
    exact ⟨zs, e' ▸ h⟩
  clear k0 o0
  have s0 := Sub.self w
  have HV := Lib.hid hv
  obtain ⟨a, c, rfl, hc1, hc2, -⟩ := hv
  unfold maxLen at hc2
  go_enter Try.func16, Try.ntmps16
  by_cases hn : (zs.length : Int) > 1048576
  · go_wp2_with fail
    go_ret
    exact ⟨rfl, Below.refl _ _⟩
  · go_wp2_with fail
    refine (spec_DrawAddW _ (hp w) s0 _ zs HV.out).mono ?_
    rintro e w1 ⟨x, y, rfl, hx, hy, hb1⟩
    go_wp2_with fail
    refine (spec_DrawWrap _ (hp w) (s0.below hb1) _ zs HV.out).mono ?_
    rintro e w2 ⟨z, rfl, hz, hb2⟩
    go_wp2_with (first | (go_at_call 24; refine (impl_AddW _ _ _).mono ?_; rintro e w' ⟨rfl, rfl⟩) | (go_at_call 26; refine (impl_SubW _ _ _).mono ?_; rintro e w' ⟨rfl, rfl⟩) | (go_at_call 28; refine (impl_MulW _ _ _).mono ?_; rintro e w' ⟨rfl, rfl⟩) | (go_at_call 22; refine (impl_Wrap _ _).mono ?_; rintro e w' ⟨rfl, rfl⟩) | (go_at_call 21; refine (spec_Wrap _ _).mono ?_; rintro e w' ⟨rfl, rfl⟩))
    all_goals first
      | exact absurd (ring_back x y) (by assumption)
      | exact absurd (ring_eq x y z) (by assumption)
      | exact absurd (congrArg wrap63 (Int.add_comm x y)) (by assumption)
      | (go_ret; refine ⟨ret_b (by simp), below_chain hb2 hb1 hb1.size⟩)

/-! ### the row's step -/
set_option maxRecDepth 100000 in
theorem lifted (os : Os) (started : os.Started) (H : Type) (enc : TypeId × Value → H) :
    ReturnsInHanded {} Try.checked os 16 .any (Rows.fnRingSpec.pre6 enc Try.prog Try.f16 Rows.fnRingRow.domain false) (Rows.fnRingSpec.post enc Try.prog Try.f16 false true false false) := by
  refine returnsInHanded_of_change (C := Try.checked) own started (by kernel_rfl) Try.func16
    (ChangeSpec.witness6 (enc := enc) (C := Try.checked) false ⟨#[], #[.slice none 0 0], []⟩ 8 (by kernel_rfl) (by kernel_rfl) (by kernel_rfl) (by kernel_rfl)) ?_
  intro W base args ds gs before hval0 hW hcnd _
  have hval : ∀ (j : Nat) t v, Try.f16.params[j]? = some t → args[j]? = some v → Value.okWide Try.prog W .any base t v := hval0
  have hW' := hW
  obtain ⟨p, q, hA0, hV, rfl, hfz, hnd⟩ := hW
  have hA : DataW.TrodAll enc Try.prog W 0 (fun _ => true) true Try.f16.params.toList args.toList ds p := hA0
  rw [Try.params16] at hA hval
  obtain ⟨v0, vs0, d0, ds0, p0, q0, hargs, rfl, rfl, h0, r0⟩ := trodAll_cons hA
  obtain ⟨rfl, rfl, rfl⟩ := trodAll_nil r0
  obtain rfl : args = #[v0] := by cases args; simp_all
  obtain ⟨rfl, rfl⟩ := trodVars_none hV
  have lt0 : ∀ x ∈ p0, x.block < W.heap.size := by obtain ⟨m, hm⟩ := h0; exact DataW.trod_lt m _ _ _ hm
  clear hA0 hval0
  refine (walk (enc := enc) W v0 d0 p0 h0 (hval 0 48 v0 rfl rfl)).mono fun e W' ⟨he, bel⟩ => ?_
  subst he
  exact ⟨_, rfl, _, _, _, [], _, [], hW', trodAll_mk1 (shut_bool Try.underlying4 _), (trodAll_cons_mk (Below.trod laidOut (by kernel_rfl) (of_decide_eq_true (by kernel_rfl)) h0 bel lt0) trodAll_mk0), rfl, bel.frame _, fun h => by cases h⟩

theorem over : Rows.fnRingRow.holds Try.pinned (OpenSpec.ofChange Rows.fnRingSpec) :=
  OpenClaim.holds_of_wide 16 Try.f16 rfl rfl rfl rfl rfl rfl rfl ⟨rfl, rfl, rfl, rfl, rfl⟩ rfl rfl rfl rfl rfl (by kernel_rfl) Try.func16 (by kernel_rfl)
    (of_decide_eq_true (by kernel_rfl)) (by unfold Func.isWrapper; first | (rw [if_pos (by decide +kernel)]; kernel_rfl) | (rw [if_neg (by decide +kernel)]; exact ⟨rfl, rfl⟩))
    (fun os started H enc _ => lifted os started H enc)

/-- the statement -/
theorem proved : Rows.FnRingSaid := over
#print axioms proved
end Go.Proofs.Ytallaohjlncajaa.fnRing
