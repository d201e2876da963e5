/-
  Proved: the statement 'Rows.FnExactHeapOkSaid': for every input the law 'FnExactHeapOk' returns true and leaves its arguments as they were; no further condition.
-/
import Derived.Test.YthpphiplbaehdaaRows
import Derived.WalkKit
import Derived.ProofKit
import Derived.OpenShut
import Derived.ShutString
import Derived.ChangeOld
import Derived.Below
import Derived.Test.YthpphiplbaehdaaHeapS
namespace Go.Proofs.Ythpphiplbaehdaa.fnExactHeapOk
open Go.ChangeShapes Go.WideShapes Go.ChangeAt Go.RowKit
open Go.ChangeMaps (open_string shut_string)
set_option linter.unusedVariables false

theorem own : ownKnob Try.prog.godebug = none := by kernel_rfl
theorem laidOut : laidOutB Try.prog = true := by kernel_rfl
theorem sl_of {P : Program} {W : World} {r : Reach} {b : Nat} {t e : TypeId} {v : Value} (hu : P.underlying t = some (.slice e)) (o : Value.okWide P W r b t v) : ∃ a n c, v = .slice a n c := by
  obtain ⟨a, n, c, rfl, _⟩ := okWide_slice hu o
  exact ⟨a, n, c, rfl⟩

/-! ### the walk -/
set_option maxRecDepth 100000 in
set_option maxHeartbeats 1000000 in
theorem walk {H : Type} {enc : TypeId × Value → H} {base : Nat} (w : World) (v0 : Value) (d0 : DataW H) (p0 : List MemPlace) (k0 : DataW.Trod enc Try.prog w 0 (fun _ => true) true 33 v0 d0 p0) (o0 : Value.okWide Try.prog w .any base 33 v0) (v1 : Value) (d1 : DataW H) (p1 : List MemPlace) (k1 : DataW.Trod enc Try.prog w 0 (fun _ => true) true 34 v1 d1 p1) (o1 : Value.okWide Try.prog w .any base 34 v1) :
    Calls Try.prog 4 #[v0, v1] w fun e w' => e = .returned (.bool true) ∧ Below w.heap.size w w' := by
  obtain ⟨xs, hu⟩ : ∃ (xs : List DCell), DCellS (hp w) v0 xs := by
    obtain ⟨a, n, c, rfl⟩ := sl_of Try.underlying33 o0
    obtain ⟨fuel, hf⟩ := k0
    obtain ⟨v, xs, e, h⟩ := rd_CellS hf
    have e' : [Value.slice a n c] = [v] := e
    injection e' with e'
    exact ⟨xs, e' ▸ h⟩
  obtain ⟨vs, hv⟩ : ∃ (vs : List DVal), DValS (hp w) v1 vs := by
    obtain ⟨a, n, c, rfl⟩ := sl_of Try.underlying34 o1
    obtain ⟨fuel, hf⟩ := k1
    obtain ⟨v, xs, e, h⟩ := rd_ValS hf
    have e' : [Value.slice a n c] = [v] := e
    injection e' with e'
    exact ⟨xs, e' ▸ h⟩
  clear k0 o0 k1 o1
  have s0 := Sub.self w
  have HU := Lib.hid hu
  have HV := Lib.hid hv
  clear hu hv
  go_enter Try.func4, Try.ntmps4
  go_wp2_with fail
  refine (laws_szCellS _ (hp w) s0 v0 xs HU.out 1048576 (by omega) (by omega)).mono ?_
  rintro e w1 ⟨⟨r, rfl, r1, r2, r3⟩, hb1⟩
  have R3 := Lib.hid r3
  clear r3
  have s1 := s0.below hb1
  by_cases hr : r < 0
  · go_wp2_with fail
    go_ret
    exact ⟨rfl, hb1⟩
  have SM := Lib.hid (R3.out (by omega))
  clear R3
  go_wp2_with fail
  refine (laws_szValS _ (hp w) s1 v1 vs HV.out r (by omega) (by omega)).mono ?_
  rintro e w2 ⟨⟨q, rfl, q1, q2, q3⟩, hb2⟩
  have Q3 := Lib.hid q3
  clear q3
  have s2 := s1.below hb2
  have b2 := below_chain hb2 hb1 hb1.size
  by_cases hq : q < 0
  · go_wp2_with fail
    go_ret
    exact ⟨rfl, b2⟩
  have SN := Lib.hid (Q3.out (by omega))
  clear Q3
  go_wp2_with fail
  refine (laws_toCellS _ (hp w) s2 v0 xs HU.out SM.out).mono ?_
  rintro e w3 ⟨x3, rfl, hx3, hb3⟩
  have X3 := Lib.hid hx3
  clear hx3
  have d3 := ((Live.start s2).call hb3 (Nat.le_refl _)).sub
  have s3 := s2.below hb3
  have b3 := below_chain hb3 b2 b2.size
  go_wp2_with fail
  refine (laws_toValS _ (hp w) s3 v1 vs HV.out SN.out).mono ?_
  rintro e w4 ⟨x4, rfl, hx4, hb4⟩
  have X4 := Lib.hid hx4
  clear hx4
  have d4 := ((Live.start s3).call hb4 (Nat.le_refl _)).sub
  have s4 := s3.below hb4
  have b4 := below_chain hb4 b3 b3.size
  go_wp2_with fail
  refine (spec_HeapOk _ (hp w4) (Sub.self _) x3 x4 xs vs (X3.out.mono (d3.below hb4).hle) (X4.out.mono d4.hle) (by have := SM.out.1; omega) (by have := SN.out.1; omega)).mono ?_
  rintro e w5 ⟨rfl, hb5⟩
  have s5 := s4.below hb5
  have b5 := below_chain hb5 b4 b4.size
  clear d3 d4 X3 X4
  go_wp2_with fail
  refine (laws_toCellS _ (hp w) s5 v0 xs HU.out SM.out).mono ?_
  rintro e w6 ⟨x6, rfl, hx6, hb6⟩
  have X6 := Lib.hid hx6
  clear hx6
  have d6 := ((Live.start s5).call hb6 (Nat.le_refl _)).sub
  have s6 := s5.below hb6
  have b6 := below_chain hb6 b5 b5.size
  go_wp2_with fail
  refine (laws_toValS _ (hp w) s6 v1 vs HV.out SN.out).mono ?_
  rintro e w7 ⟨x7, rfl, hx7, hb7⟩
  have X7 := Lib.hid hx7
  clear hx7
  have d7 := ((Live.start s6).call hb7 (Nat.le_refl _)).sub
  have s7 := s6.below hb7
  have b7 := below_chain hb7 b6 b6.size
  go_wp2_with fail
  refine (impl_HeapOk _ (hp w7) (Sub.self _) x6 x7 xs vs (X6.out.mono (d6.below hb7).hle) (X7.out.mono d7.hle) (by have := SM.out.1; omega) (by have := SN.out.1; omega)).mono ?_
  rintro e w8 ⟨rfl, hb8⟩
  have s8 := s7.below hb8
  have b8 := below_chain hb8 b7 b7.size
  have e6 := (d6.below hb7).below hb8
  have e7 := d7.below hb8
  go_wp2_with fail
  refine (laws_toCellS _ (hp w) s8 v0 xs HU.out SM.out).mono ?_
  rintro e w9 ⟨x9, rfl, hx9, hb9⟩
  have X9 := Lib.hid hx9
  clear hx9
  have d9 := ((Live.start s8).call hb9 (Nat.le_refl _)).sub
  have s9 := s8.below hb9
  have b9 := below_chain hb9 b8 b8.size
  go_wp2_with fail
  refine (laws_eqCellS _ (hp w9) (Sub.self _) x6 x9 xs (X6.out.mono (e6.below hb9).hle) (X9.out.mono d9.hle)).mono ?_
  rintro e w10 ⟨rfl, hb10⟩
  have s10 := s9.below hb10
  have b10 := below_chain hb10 b9 b9.size
  have e10 := (e7.below hb9).below hb10
  go_wp2_with fail
  refine (laws_toValS _ (hp w) s10 v1 vs HV.out SN.out).mono ?_
  rintro e w11 ⟨x11, rfl, hx11, hb11⟩
  have X11 := Lib.hid hx11
  clear hx11
  have d11 := ((Live.start s10).call hb11 (Nat.le_refl _)).sub
  have b11 := below_chain hb11 b10 b10.size
  go_wp2_with fail
  refine (laws_eqValS _ (hp w11) (Sub.self _) x7 x11 vs (X7.out.mono (e10.below hb11).hle) (X11.out.mono d11.hle)).mono ?_
  rintro e w12 ⟨rfl, hb12⟩
  go_wp2_with fail
  go_ret
  exact ⟨rfl, below_chain hb12 b11 b11.size⟩

/-! ### the row's step -/
set_option maxRecDepth 100000 in
theorem lifted (os : Os) (started : os.Started) (H : Type) (enc : TypeId × Value → H) :
    ReturnsInHanded {} Try.checked os 4 .any (Rows.fnExactHeapOkSpec.pre6 enc Try.prog Try.f4 Rows.fnExactHeapOkRow.domain false) (Rows.fnExactHeapOkSpec.post enc Try.prog Try.f4 false true false false) := by
  refine returnsInHanded_of_change (C := Try.checked) own started (by kernel_rfl) Try.func4
    (ChangeSpec.witness6 (enc := enc) (C := Try.checked) false ⟨#[], #[.slice none 0 0, .slice none 0 0], []⟩ 8 (by kernel_rfl) (by kernel_rfl) (by kernel_rfl) (by kernel_rfl)) ?_
  intro W base args ds gs before hval0 hW hcnd _
  have hval : ∀ (j : Nat) t v, Try.f4.params[j]? = some t → args[j]? = some v → Value.okWide Try.prog W .any base t v := hval0
  have hW' := hW
  obtain ⟨p, q, hA0, hV, rfl, hfz, hnd⟩ := hW
  have hA : DataW.TrodAll enc Try.prog W 0 (fun _ => true) true Try.f4.params.toList args.toList ds p := hA0
  rw [Try.params4] at hA hval
  obtain ⟨v0, vs0, d0, ds0, p0, q0, hargs, rfl, rfl, h0, r0⟩ := trodAll_cons hA
  obtain ⟨v1, vs1, d1, ds1, p1, q1, rfl, rfl, rfl, h1, r1⟩ := trodAll_cons r0
  obtain ⟨rfl, rfl, rfl⟩ := trodAll_nil r1
  obtain rfl : args = #[v0, v1] := by cases args; simp_all
  obtain ⟨rfl, rfl⟩ := trodVars_none hV
  have lt0 : ∀ x ∈ p0, x.block < W.heap.size := by obtain ⟨m, hm⟩ := h0; exact DataW.trod_lt m _ _ _ hm
  have lt1 : ∀ x ∈ p1, x.block < W.heap.size := by obtain ⟨m, hm⟩ := h1; exact DataW.trod_lt m _ _ _ hm
  clear hA0 hval0
  refine (walk (enc := enc) W v0 d0 p0 h0 (hval 0 33 v0 rfl rfl) v1 d1 p1 h1 (hval 1 34 v1 rfl rfl)).mono fun e W' ⟨he, bel⟩ => ?_
  subst he
  exact ⟨_, rfl, _, _, _, [], _, [], hW', trodAll_mk1 (shut_bool Try.underlying4 _), (trodAll_cons_mk (Below.trod laidOut (by kernel_rfl) (of_decide_eq_true (by kernel_rfl)) h0 bel lt0) (trodAll_cons_mk (Below.trod laidOut (by kernel_rfl) (of_decide_eq_true (by kernel_rfl)) h1 bel lt1) trodAll_mk0)), rfl, bel.frame _, fun h => by cases h⟩

theorem over : Rows.fnExactHeapOkRow.holds Try.pinned (OpenSpec.ofChange Rows.fnExactHeapOkSpec) :=
  OpenClaim.holds_of_wide 4 Try.f4 rfl rfl rfl rfl rfl rfl rfl ⟨rfl, rfl, rfl, rfl, rfl⟩ rfl rfl rfl rfl rfl (by kernel_rfl) Try.func4 (by kernel_rfl)
    (of_decide_eq_true (by kernel_rfl)) (by unfold Func.isWrapper; first | (rw [if_pos (by decide +kernel)]; kernel_rfl) | (rw [if_neg (by decide +kernel)]; exact ⟨rfl, rfl⟩))
    (fun os started H enc _ => lifted os started H enc)

/-- the statement -/
theorem proved : Rows.FnExactHeapOkSaid := over
#print axioms proved
end Go.Proofs.Ythpphiplbaehdaa.fnExactHeapOk
