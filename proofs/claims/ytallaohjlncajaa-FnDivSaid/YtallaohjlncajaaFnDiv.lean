/-
  Proved: the statement 'Rows.FnDivSaid': for every input the law 'FnDiv' returns true and leaves its arguments as they were; no further condition.
-/
import Derived.Test.YtallaohjlncajaaRows
import Derived.WalkKit
import Derived.ProofKit
import Derived.OpenShut
import Derived.ShutString
import Derived.ChangeOld
import Derived.Below
import Derived.Test.YtallaohjlncajaaDraw
import Derived.Test.YtallaohjlncajaaNumWalks
namespace Go.Proofs.Ytallaohjlncajaa.fnDiv
open Go.ChangeShapes Go.WideShapes Go.ChangeAt Go.RowKit
open Go.ChangeMaps (open_string shut_string)
set_option linter.unusedVariables false

theorem own : ownKnob Try.prog.godebug = none := by kernel_rfl
theorem laidOut : laidOutB Try.prog = true := by kernel_rfl
theorem bytes_of {P : Program} {W : World} {r : Reach} {b : Nat} {t e : TypeId} {v : Value} (hu : P.underlying t = some (.slice e)) (o : Value.okWide P W r b t v) : ∃ a n c, v = .slice a n c := by
  obtain ⟨a, n, c, rfl, _⟩ := okWide_slice hu o
  exact ⟨a, n, c, rfl⟩
theorem size_neg (w : World) (n : Int) (h : n < 0) (h0 : -4611686018427387904 ≤ n) : Calls Try.prog 53 #[.int .i64 n] w fun e w' => e = .returned (.int .i64 n.natAbs) ∧ w = w' := by
  go_enter Try.func53, Try.ntmps53
  go_wp2_with fail
  go_ret
  exact ⟨ret_i (by first | omega | (unfold wrap64; omega)), rfl⟩
theorem size_pos (w : World) (n : Int) (h : ¬ n < 0) : Calls Try.prog 53 #[.int .i64 n] w fun e w' => e = .returned (.int .i64 n.natAbs) ∧ w = w' := by
  go_enter Try.func53, Try.ntmps53
  go_wp2_with fail
  go_ret
  exact ⟨ret_i (by omega), rfl⟩
theorem laws_size (w : World) (n : Int) (h0 : -4611686018427387904 ≤ n) : Calls Try.prog 53 #[.int .i64 n] w fun e w' => e = .returned (.int .i64 n.natAbs) ∧ w = w' := by
  by_cases h : n < 0
  · exact size_neg w n h h0
  · exact size_pos w n h
theorem div_pair (a b : Int) (h : (wrap63 b == 0) = false) : ∃ q r : Int,
    (∀ w, Calls Try.prog 30 #[.int .i64 a, .int .i64 b] w fun e w' => e = .returned (.tuple #[.int .i64 q, .bool true]) ∧ w = w') ∧
    (∀ w, Calls Try.prog 32 #[.int .i64 a, .int .i64 b] w fun e w' => e = .returned (.tuple #[.int .i64 r, .bool true]) ∧ w = w') ∧
    r.natAbs < (wrap63 b).natAbs ∧ wrap63 (wrap63 (q * b) + r) = wrap63 a := by
  have hb : wrap63 b ≠ 0 := by simpa using h
  refine ⟨_, _, fun w => impl_DivW w a b h, fun w => impl_RemW w a b h, ?_, ?_⟩
  · rw [Int.natAbs_tmod]; exact Nat.mod_lt _ (by omega)
  · rw [wrap63_mul_l, wrap63_add_l, ← wrap63_add_l, ← wrap63_mul_r, wrap63_add_l]
    have e := Int.tmod_add_mul_tdiv (wrap63 a) (wrap63 b)
    have e2 : (wrap63 a).tdiv (wrap63 b) * wrap63 b + (wrap63 a).tmod (wrap63 b) = wrap63 a := by
      rw [Int.mul_comm, Int.add_comm]; first | exact e | (rw [Int.add_comm]; exact e)
    rw [e2, wrap63_idem]

/-! ### the walk -/
theorem walk {H : Type} {enc : TypeId × Value → H} {base : Nat} (w : World) (v0 : Value) (d0 : DataW H) (p0 : List MemPlace) (k0 : DataW.Trod enc Try.prog w 0 (fun _ => true) true 48 v0 d0 p0) (o0 : Value.okWide Try.prog w .any base 48 v0) :
    Calls Try.prog 17 #[v0] w fun e w' => e = .returned (.bool true) ∧ Below w.heap.size w w' := by
  obtain ⟨zs, hv⟩ : ∃ zs, BytS (hp w) v0 zs := by
    obtain ⟨a, n, c, rfl⟩ := bytes_of Try.underlying48 o0
    obtain ⟨fuel, hf⟩ := k0
    obtain ⟨v, zs, e, h⟩ := rd_bytes hf
    have e' : [Value.slice a n c] = [v] := e
    injection e' with e'
    exact ⟨zs, e' ▸ h⟩
  clear k0 o0
  have s0 := Sub.self w
  have HV := Lib.hid hv
  obtain ⟨a, c, rfl, hc1, hc2, -⟩ := hv
  unfold maxLen at hc2
  go_enter Try.func17, Try.ntmps17
  by_cases hn : (zs.length : Int) > 1048576
  · go_wp2_with fail
    go_ret
    exact ⟨rfl, Below.refl _ _⟩
  · go_wp2_with fail
    refine (spec_DrawDivW _ (hp w) s0 _ zs HV.out).mono ?_
    rintro e w1 ⟨x, y, rfl, hx, hy, hb1⟩
    cases hb : (wrap63 y == 0)
    · obtain ⟨q, r, hq, hr, hlt, he⟩ := div_pair x y hb
      obtain ⟨y1, y2⟩ := wrap63_bd y
      have hz : (wrap63 y != 0) = true := by simpa using hb
      have HQ := Lib.hid hq
      have HR := Lib.hid hr
      have HE := Lib.hid he
      clear hq hr he hx hy
      have hrc : r < 0 ∨ r = 0 ∨ 0 < r := by omega
      have i1 : wrap64 (-((wrap63 y).natAbs : Int)) = -((wrap63 y).natAbs : Int) := by unfold wrap64; omega
      rcases hrc with hr0 | rfl | hr0
      · have g1 : ¬ r ≤ -((wrap63 y).natAbs : Int) := by omega
        have g2 : ¬ r > 0 := by omega
        go_wp2_with (first | (go_at_call 30; refine (HQ.out _).mono ?_; rintro e w' ⟨rfl, rfl⟩) | (go_at_call 32; refine (HR.out _).mono ?_; rintro e w' ⟨rfl, rfl⟩) | (go_at_call 24; refine (impl_AddW _ _ _).mono ?_; rintro e w' ⟨rfl, rfl⟩) | (go_at_call 28; refine (impl_MulW _ _ _).mono ?_; rintro e w' ⟨rfl, rfl⟩) | (go_at_call 21; refine (spec_Wrap _ _).mono ?_; rintro e w' ⟨rfl, rfl⟩) | (go_at_call 53; refine (laws_size _ _ (by omega)).mono ?_; rintro e w' ⟨rfl, rfl⟩))
        all_goals first | (exfalso; omega) | (go_ret; exact ⟨ret_b (by have := HE.out; simp_all), hb1⟩)
      · go_wp2_with (first | (go_at_call 30; refine (HQ.out _).mono ?_; rintro e w' ⟨rfl, rfl⟩) | (go_at_call 32; refine (HR.out _).mono ?_; rintro e w' ⟨rfl, rfl⟩) | (go_at_call 24; refine (impl_AddW _ _ _).mono ?_; rintro e w' ⟨rfl, rfl⟩) | (go_at_call 28; refine (impl_MulW _ _ _).mono ?_; rintro e w' ⟨rfl, rfl⟩) | (go_at_call 21; refine (spec_Wrap _ _).mono ?_; rintro e w' ⟨rfl, rfl⟩) | (go_at_call 53; refine (laws_size _ _ (by omega)).mono ?_; rintro e w' ⟨rfl, rfl⟩))
        all_goals first | (exfalso; omega) | (go_ret; exact ⟨ret_b (by have := HE.out; simp_all), hb1⟩)
      · have g1 : ¬ r ≥ ((wrap63 y).natAbs : Int) := by omega
        have g2 : ¬ r < 0 := by omega
        go_wp2_with (first | (go_at_call 30; refine (HQ.out _).mono ?_; rintro e w' ⟨rfl, rfl⟩) | (go_at_call 32; refine (HR.out _).mono ?_; rintro e w' ⟨rfl, rfl⟩) | (go_at_call 24; refine (impl_AddW _ _ _).mono ?_; rintro e w' ⟨rfl, rfl⟩) | (go_at_call 28; refine (impl_MulW _ _ _).mono ?_; rintro e w' ⟨rfl, rfl⟩) | (go_at_call 21; refine (spec_Wrap _ _).mono ?_; rintro e w' ⟨rfl, rfl⟩) | (go_at_call 53; refine (laws_size _ _ (by omega)).mono ?_; rintro e w' ⟨rfl, rfl⟩))
        all_goals first | (exfalso; omega) | (go_ret; exact ⟨ret_b (by have := HE.out; simp_all), hb1⟩)
    · have hz : (wrap63 y != 0) = false := by simpa using hb
      go_wp2_with (first | (go_at_call 30; refine (impl_DivW_zero _ _ _ hb).mono ?_; rintro e w' ⟨rfl, rfl⟩) | (go_at_call 32; refine (impl_RemW_zero _ _ _ hb).mono ?_; rintro e w' ⟨rfl, rfl⟩) | (go_at_call 21; refine (spec_Wrap _ _).mono ?_; rintro e w' ⟨rfl, rfl⟩))
      go_ret
      exact ⟨rfl, hb1⟩

/-! ### the row's step -/
set_option maxRecDepth 100000 in
theorem lifted (os : Os) (started : os.Started) (H : Type) (enc : TypeId × Value → H) :
    ReturnsInHanded {} Try.checked os 17 .any (Rows.fnDivSpec.pre6 enc Try.prog Try.f17 Rows.fnDivRow.domain false) (Rows.fnDivSpec.post enc Try.prog Try.f17 false true false false) := by
  refine returnsInHanded_of_change (C := Try.checked) own started (by kernel_rfl) Try.func17
    (ChangeSpec.witness6 (enc := enc) (C := Try.checked) false ⟨#[], #[.slice none 0 0], []⟩ 8 (by kernel_rfl) (by kernel_rfl) (by kernel_rfl) (by kernel_rfl)) ?_
  intro W base args ds gs before hval0 hW hcnd _
  have hval : ∀ (j : Nat) t v, Try.f17.params[j]? = some t → args[j]? = some v → Value.okWide Try.prog W .any base t v := hval0
  have hW' := hW
  obtain ⟨p, q, hA0, hV, rfl, hfz, hnd⟩ := hW
  have hA : DataW.TrodAll enc Try.prog W 0 (fun _ => true) true Try.f17.params.toList args.toList ds p := hA0
  rw [Try.params17] at hA hval
  obtain ⟨v0, vs0, d0, ds0, p0, q0, hargs, rfl, rfl, h0, r0⟩ := trodAll_cons hA
  obtain ⟨rfl, rfl, rfl⟩ := trodAll_nil r0
  obtain rfl : args = #[v0] := by cases args; simp_all
  obtain ⟨rfl, rfl⟩ := trodVars_none hV
  have lt0 : ∀ x ∈ p0, x.block < W.heap.size := by obtain ⟨m, hm⟩ := h0; exact DataW.trod_lt m _ _ _ hm
  clear hA0 hval0
  refine (walk (enc := enc) W v0 d0 p0 h0 (hval 0 48 v0 rfl rfl)).mono fun e W' ⟨he, bel⟩ => ?_
  subst he
  exact ⟨_, rfl, _, _, _, [], _, [], hW', trodAll_mk1 (shut_bool Try.underlying4 _), (trodAll_cons_mk (Below.trod laidOut (by kernel_rfl) (of_decide_eq_true (by kernel_rfl)) h0 bel lt0) trodAll_mk0), rfl, bel.frame _, fun h => by cases h⟩

theorem over : Rows.fnDivRow.holds Try.pinned (OpenSpec.ofChange Rows.fnDivSpec) :=
  OpenClaim.holds_of_wide 17 Try.f17 rfl rfl rfl rfl rfl rfl rfl ⟨rfl, rfl, rfl, rfl, rfl⟩ rfl rfl rfl rfl rfl (by kernel_rfl) Try.func17 (by kernel_rfl)
    (of_decide_eq_true (by kernel_rfl)) (by unfold Func.isWrapper; first | (rw [if_pos (by decide +kernel)]; kernel_rfl) | (rw [if_neg (by decide +kernel)]; exact ⟨rfl, rfl⟩))
    (fun os started H enc _ => lifted os started H enc)

/-- the statement -/
theorem proved : Rows.FnDivSaid := over
#print axioms proved
end Go.Proofs.Ytallaohjlncajaa.fnDiv
