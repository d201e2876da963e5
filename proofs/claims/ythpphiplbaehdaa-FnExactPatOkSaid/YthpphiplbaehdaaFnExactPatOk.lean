/-
  Proved: the statement 'Rows.FnExactPatOkSaid': for every input the law 'FnExactPatOk' returns true and leaves its arguments as they were; no further condition.
-/
import Derived.Test.YthpphiplbaehdaaRows
import Derived.WalkKit
import Derived.ProofKit
import Derived.OpenShut
import Derived.ShutString
import Derived.ChangeOld
import Derived.Below
import Derived.Test.YthpphiplbaehdaaSpecPat
import Derived.Test.YthpphiplbaehdaaImplPat
namespace Go.Proofs.Ythpphiplbaehdaa.fnExactPatOk
open Go.ChangeShapes Go.WideShapes Go.ChangeAt Go.RowKit
open Go.ChangeMaps (open_string shut_string)
set_option linter.unusedVariables false

theorem own : ownKnob Try.prog.godebug = none := by kernel_rfl
theorem laidOut : laidOutB Try.prog = true := by kernel_rfl
theorem agg_of {P : Program} {W : World} {r : Reach} {b : Nat} {t : TypeId} {fs : Array Field} {v : Value} (hu : P.underlying t = some (.struct fs)) (o : Value.okWide P W r b t v) : ∃ cs, v = .agg cs ∧ v.cells.toList = cs.toList := by
  obtain ⟨cs, rfl, _⟩ := okWide_struct hu o
  exact ⟨cs, rfl, rfl⟩

/-! ### the walk -/
set_option maxRecDepth 100000 in
set_option maxHeartbeats 1000000 in
theorem walk {H : Type} {enc : TypeId × Value → H} {base : Nat} (w : World) (v0 : Value) (d0 : DataW H) (p0 : List MemPlace) (k0 : DataW.Trod enc Try.prog w 0 (fun _ => true) true 58 v0 d0 p0) (o0 : Value.okWide Try.prog w .any base 58 v0) :
    Calls Try.prog 6 #[v0] w fun e w' => e = .returned (.bool true) ∧ Below w.heap.size w w' := by
  obtain ⟨v, xs, rfl, hok, hv⟩ : ∃ (v : Value) (xs : List DPNode), v0 = .agg #[v] ∧ patOk xs ∧ patRel (hp w) xs v := by
    obtain ⟨cs, rfl, hc⟩ := agg_of Try.underlying58 o0
    obtain ⟨fuel, hf⟩ := k0
    rw [hc] at hf
    obtain ⟨xs, v, ht, hok, hs⟩ := rd_Pat hf
    refine ⟨v, xs, ?_, hok, hs⟩
    have : cs = [v].toArray := by rw [← ht]
    rw [this]
  clear k0 o0
  have s0 := Sub.self w
  have HV := Lib.hid hv
  clear hv
  go_enter Try.func6, Try.ntmps6
  go_wp2_with fail
  refine (laws_szPat _ xs hok (hp w) (s0.alloc _) v HV.out 1048576 (by omega) (by omega)).mono ?_
  rintro e w1 ⟨⟨r, rfl, r1, r2, r3⟩, hb1⟩
  have R3 := Lib.hid r3
  clear r3
  obtain ⟨kc1, kf1⟩ := bcell hb1; have kz1 := hb1.size; (try simp at kz1); (first | (refine (fun (kw1_0 : w.heap.size  < w1.heap.size) => ?_) ?_; rotate_left; omega) | skip); (first | (refine (fun (kw1_1 : w.heap.size + 1 < w1.heap.size) => ?_) ?_; rotate_left; omega) | skip); (first | (refine (fun (kw1_2 : w.heap.size + 1 + 1 < w1.heap.size) => ?_) ?_; rotate_left; omega) | skip)
  have s1 := (s0.alloc _).below hb1
  by_cases hr : r < 0
  · go_wp2_with fail
    go_ret
    exact ⟨rfl, (by repeat (first | with_reducible exact Below.refl _ _ | with_reducible assumption | with_reducible refine Below.setCell ?_ ?_ _ | with_reducible refine Below.alloc ?_ ?_ _ | with_reducible refine Below.drew ?_ | (with_reducible apply below_chain; with_reducible assumption) | exact Nat.le_refl _ | omega | (simp <;> omega)))⟩
  · have SM := Lib.hid (R3.out (by omega))
    have hl : xs.length ≤ 1000000000 := by have := SM.out.1; omega
    have KS := Lib.hid (show ∀ k (h : k < xs.length), xs[k].kids.length ≤ 1000000000 from fun k h => by have := (SM.out.2 k h).2.1; omega)
    clear R3
    go_wp2_with fail
    refine (laws_toPat _ xs (hp w) s1 v HV.out SM.out).mono ?_
    rintro e w2 ⟨v2, rfl, hv2, hb2⟩
    obtain ⟨kc2, kf2⟩ := bcell hb2; have kz2 := hb2.size; (try simp at kz2); (first | (refine (fun (kw2_0 : w.heap.size  < w2.heap.size) => ?_) ?_; rotate_left; omega) | skip); (first | (refine (fun (kw2_1 : w.heap.size + 1 < w2.heap.size) => ?_) ?_; rotate_left; omega) | skip); (first | (refine (fun (kw2_2 : w.heap.size + 1 + 1 < w2.heap.size) => ?_) ?_; rotate_left; omega) | skip)
    have s2 := s1.below hb2
    have d2 := ((Live.start s1).call hb2 (Nat.le_refl _)).sub
    go_wp2_with fail
    refine (spec_PatOk _ _ d2 v2 xs hv2 hl KS.out).mono ?_
    rintro e w3 ⟨rfl, hb3⟩
    obtain ⟨kc3, kf3⟩ := bcell hb3; have kz3 := hb3.size; (try simp at kz3); (first | (refine (fun (kw3_0 : w.heap.size  < w3.heap.size) => ?_) ?_; rotate_left; omega) | skip); (first | (refine (fun (kw3_1 : w.heap.size + 1 < w3.heap.size) => ?_) ?_; rotate_left; omega) | skip); (first | (refine (fun (kw3_2 : w.heap.size + 1 + 1 < w3.heap.size) => ?_) ?_; rotate_left; omega) | skip)
    have s3 := s2.below hb3
    go_wp2_with fail
    refine (laws_toPat _ xs (hp w) s3 v HV.out SM.out).mono ?_
    rintro e w4 ⟨v4, rfl, hv4, hb4⟩
    obtain ⟨kc4, kf4⟩ := bcell hb4; have kz4 := hb4.size; (try simp at kz4); (first | (refine (fun (kw4_0 : w.heap.size  < w4.heap.size) => ?_) ?_; rotate_left; omega) | skip); (first | (refine (fun (kw4_1 : w.heap.size + 1 < w4.heap.size) => ?_) ?_; rotate_left; omega) | skip); (first | (refine (fun (kw4_2 : w.heap.size + 1 + 1 < w4.heap.size) => ?_) ?_; rotate_left; omega) | skip)
    have s4 := s3.below hb4
    obtain ⟨a4, c4, rfl, -⟩ := id hv4
    have d4 := ((Live.start s3).call hb4 (Nat.le_refl _)).sub
    go_wp2_with fail
    refine (impl_PatOk _ _ (d4.alloc _) (.slice a4 xs.length c4) xs hv4 hl KS.out).mono ?_
    rintro e w5 ⟨rfl, hb5⟩
    obtain ⟨kc5, kf5⟩ := bcell hb5; have kz5 := hb5.size; (try simp at kz5); (first | (refine (fun (kw5_0 : w.heap.size  < w5.heap.size) => ?_) ?_; rotate_left; omega) | skip); (first | (refine (fun (kw5_1 : w.heap.size + 1 < w5.heap.size) => ?_) ?_; rotate_left; omega) | skip); (first | (refine (fun (kw5_2 : w.heap.size + 1 + 1 < w5.heap.size) => ?_) ?_; rotate_left; omega) | skip)
    have kx5 : w4.heap.size < w5.heap.size := by omega
    go_wp2_with fail
    have s5 := (s4.alloc _).below hb5
    have d5 := (d4.alloc _).below hb5
    have HV4 := Lib.hid hv4
    have HS5 := Lib.hid s5
    have HD5 := Lib.hid d5
    clear hv2 hv4 s0 s1 s2 s3 s4 s5 d4 d5 d2
    go_region_law (first | (refine step_guard rfl ?_; go_simp; go_at_call 35; refine (laws_toPat _ xs (hp w) HS5.out.drew v HV.out SM.out).mono ?_; rintro e w6 ⟨v6, rfl, hv6, hb6⟩; replace hb6 := below_undrew hb6; obtain ⟨kc6, kf6⟩ := bcell hb6; have kz6 := hb6.size; (try simp at kz6); (first | (refine (fun (kw6_0 : w.heap.size  < w6.heap.size) => ?_) ?_; rotate_left; omega) | skip); (first | (refine (fun (kw6_1 : w.heap.size + 1 < w6.heap.size) => ?_) ?_; rotate_left; omega) | skip); (first | (refine (fun (kw6_2 : w.heap.size + 1 + 1 < w6.heap.size) => ?_) ?_; rotate_left; omega) | skip); have HV6 := Lib.hid hv6; clear hv6; dsimp only) | (refine step_guard rfl ?_; go_simp; go_at_call 37; refine (laws_eqPat _ xs (hp _) (Sub.self _) (.slice a4 xs.length c4) v6 (patRel_mono (HD5.out.below hb6).hle HV4.out) (patRel_mono ((Live.start HS5.out).call hb6 (Nat.le_refl _)).sub.hle HV6.out)).mono ?_; rintro e w7 ⟨rfl, hb7⟩; obtain ⟨kc7, kf7⟩ := bcell hb7; have kz7 := hb7.size; (try simp at kz7); (first | (refine (fun (kw7_0 : w.heap.size  < w7.heap.size) => ?_) ?_; rotate_left; omega) | skip); (first | (refine (fun (kw7_1 : w.heap.size + 1 < w7.heap.size) => ?_) ?_; rotate_left; omega) | skip); (first | (refine (fun (kw7_2 : w.heap.size + 1 + 1 < w7.heap.size) => ?_) ?_; rotate_left; omega) | skip); dsimp only))
    all_goals
      go_wp2
      go_ret
      exact ⟨rfl, (by repeat (first | with_reducible exact Below.refl _ _ | with_reducible assumption | with_reducible refine Below.setCell ?_ ?_ _ | with_reducible refine Below.alloc ?_ ?_ _ | with_reducible refine Below.drew ?_ | (with_reducible apply below_chain; with_reducible assumption) | exact Nat.le_refl _ | omega | (simp <;> omega)))⟩

/-! ### the row's step -/
set_option maxRecDepth 100000 in
theorem lifted (os : Os) (started : os.Started) (H : Type) (enc : TypeId × Value → H) :
    ReturnsInHanded {} Try.checked os 6 .any (Rows.fnExactPatOkSpec.pre6 enc Try.prog Try.f6 Rows.fnExactPatOkRow.domain false) (Rows.fnExactPatOkSpec.post enc Try.prog Try.f6 false true false false) := by
  refine returnsInHanded_of_change (C := Try.checked) own started (by kernel_rfl) Try.func6
    (ChangeSpec.witness6 (enc := enc) (C := Try.checked) false ⟨#[], #[.agg #[.slice none 0 0]], []⟩ 8 (by kernel_rfl) (by kernel_rfl) (by kernel_rfl) (by kernel_rfl)) ?_
  intro W base args ds gs before hval0 hW hcnd _
  have hval : ∀ (j : Nat) t v, Try.f6.params[j]? = some t → args[j]? = some v → Value.okWide Try.prog W .any base t v := hval0
  have hW' := hW
  obtain ⟨p, q, hA0, hV, rfl, hfz, hnd⟩ := hW
  have hA : DataW.TrodAll enc Try.prog W 0 (fun _ => true) true Try.f6.params.toList args.toList ds p := hA0
  rw [Try.params6] at hA hval
  obtain ⟨v0, vs0, d0, ds0, p0, q0, hargs, rfl, rfl, h0, r0⟩ := trodAll_cons hA
  obtain ⟨rfl, rfl, rfl⟩ := trodAll_nil r0
  obtain rfl : args = #[v0] := by cases args; simp_all
  obtain ⟨rfl, rfl⟩ := trodVars_none hV
  have lt0 : ∀ x ∈ p0, x.block < W.heap.size := by obtain ⟨m, hm⟩ := h0; exact DataW.trod_lt m _ _ _ hm
  clear hA0 hval0
  refine (walk (enc := enc) W v0 d0 p0 h0 (hval 0 58 v0 rfl rfl)).mono fun e W' ⟨he, bel⟩ => ?_
  subst he
  exact ⟨_, rfl, _, _, _, [], _, [], hW', trodAll_mk1 (shut_bool Try.underlying4 _), (trodAll_cons_mk (Below.trod laidOut (by kernel_rfl) (of_decide_eq_true (by kernel_rfl)) h0 bel lt0) trodAll_mk0), rfl, bel.frame _, fun h => by cases h⟩

theorem over : Rows.fnExactPatOkRow.holds Try.pinned (OpenSpec.ofChange Rows.fnExactPatOkSpec) :=
  OpenClaim.holds_of_wide 6 Try.f6 rfl rfl rfl rfl rfl rfl rfl ⟨rfl, rfl, rfl, rfl, rfl⟩ rfl rfl rfl rfl rfl (by kernel_rfl) Try.func6 (by kernel_rfl)
    (of_decide_eq_true (by kernel_rfl)) (by unfold Func.isWrapper; first | (rw [if_pos (by decide +kernel)]; kernel_rfl) | (rw [if_neg (by decide +kernel)]; exact ⟨rfl, rfl⟩))
    (fun os started H enc _ => lifted os started H enc)

/-- the statement -/
theorem proved : Rows.FnExactPatOkSaid := over
#print axioms proved
end Go.Proofs.Ythpphiplbaehdaa.fnExactPatOk
