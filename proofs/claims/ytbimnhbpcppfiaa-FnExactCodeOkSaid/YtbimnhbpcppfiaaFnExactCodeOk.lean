/-
  Proved: the statement 'Rows.FnExactCodeOkSaid': for every input the law 'FnExactCodeOk' returns true and leaves its arguments as they were; no further condition.
-/
import Derived.Test.YtbimnhbpcppfiaaRows
import Derived.WalkKit
import Derived.ProofKit
import Derived.OpenShut
import Derived.ShutString
import Derived.ChangeOld
import Derived.Below
import Derived.Test.YtbimnhbpcppfiaaClosed
import Derived.Test.YtbimnhbpcppfiaaCodeTopS
namespace Go.Proofs.Ytbimnhbpcppfiaa.fnExactCodeOk
open Go.ChangeShapes Go.WideShapes Go.ChangeAt Go.RowKit
open Go.ChangeMaps (open_string shut_string)
set_option linter.unusedVariables false

theorem own : ownKnob Try.prog.godebug = none := cl_own
theorem laidOut : laidOutB Try.prog = true := cl_1
theorem agg_of {P : Program} {W : World} {r : Reach} {b : Nat} {t : TypeId} {fs : Array Field} {v : Value} (hu : P.underlying t = some (.struct fs)) (o : Value.okWide P W r b t v) : ∃ cs, v = .agg cs ∧ v.cells.toList = cs.toList := by
  obtain ⟨cs, rfl, _⟩ := okWide_struct hu o
  exact ⟨cs, rfl, rfl⟩

/-! ### the walk -/
set_option maxRecDepth 100000 in
set_option maxHeartbeats 1000000 in
theorem walk {H : Type} {enc : TypeId × Value → H} {base : Nat} (w : World) (v0 : Value) (d0 : DataW H) (p0 : List MemPlace) (k0 : DataW.Trod enc Try.prog w 0 (fun _ => true) true 67 v0 d0 p0) (o0 : Value.okWide Try.prog w .any base 67 v0) :
    Calls Try.prog 9 #[v0] w fun e w' => e = .returned (.bool true) ∧ Below w.heap.size w w' := by
  obtain ⟨v1, v2, x, rfl, hok, hv⟩ : ∃ (v1 v2 : Value) (x : DCode), v0 = .agg #[v1, v2] ∧ codeOk x ∧ codeRel (hp w) x v1 v2 := by
    obtain ⟨cs, rfl, hc⟩ := agg_of Try.underlying67 o0
    obtain ⟨fuel, hf⟩ := k0
    rw [hc] at hf
    obtain ⟨x, v1, v2, ht, hok, hs⟩ := rd_Code hf
    refine ⟨v1, v2, x, ?_, hok, hs⟩
    have : cs = [v1, v2].toArray := by rw [← ht]
    rw [this]
  clear k0 o0
  have s0 := Sub.self w
  have HV := Lib.hid hv
  clear hv
  go_enter Try.func9, Try.ntmps9
  go_wp2_with fail
  refine (laws_szCode _ x hok (hp w) (s0.alloc _) v1 v2 HV.out 1048576 (by omega) (by omega)).mono ?_
  rintro e w1 ⟨⟨r, rfl, r1, r2, r3⟩, hb1⟩
  have R3 := Lib.hid r3
  clear r3
  obtain ⟨kc1, kf1⟩ := bcell hb1; have kz1 := hb1.size; (try simp at kz1); (first | (refine (fun (kw1_0 : w.heap.size  < w1.heap.size) => ?_) ?_; rotate_left; omega) | skip); (first | (refine (fun (kw1_1 : w.heap.size + 1 < w1.heap.size) => ?_) ?_; rotate_left; omega) | skip); (first | (refine (fun (kw1_2 : w.heap.size + 1 + 1 < w1.heap.size) => ?_) ?_; rotate_left; omega) | skip)
  have s1 := (s0.alloc _).below hb1
  by_cases hr : r < 0
  · go_wp2_with fail
    go_ret
    exact ⟨rfl, (by repeat (first | with_reducible exact Below.refl _ _ | with_reducible assumption | with_reducible refine Below.setCell ?_ ?_ _ | with_reducible refine Below.alloc ?_ ?_ _ | with_reducible refine Below.drew ?_ | (with_reducible apply below_chain; with_reducible assumption) | exact Nat.le_refl _ | omega | (simp <;> omega)))⟩
  · have SM := Lib.hid (R3.out (by omega))
    have FIT := Lib.hid (show codeFit x by
      obtain ⟨m1, m2⟩ := SM.out
      refine ⟨by have := m1.1; omega, by have := m2.1; omega, fun k h => ?_⟩
      have m3 := m2.2 k h
      refine ⟨by have := m3.1; omega, fun j h2 => ?_⟩
      have := (m3.2 j h2).2.1
      omega)
    clear R3
    go_wp2_with fail
    refine (laws_toCode _ x (hp w) s1 v1 v2 HV.out SM.out).mono ?_
    rintro e w2 ⟨u1, u2, rfl, hv2, hb2⟩
    obtain ⟨kc2, kf2⟩ := bcell hb2; have kz2 := hb2.size; (try simp at kz2); (first | (refine (fun (kw2_0 : w.heap.size  < w2.heap.size) => ?_) ?_; rotate_left; omega) | skip); (first | (refine (fun (kw2_1 : w.heap.size + 1 < w2.heap.size) => ?_) ?_; rotate_left; omega) | skip); (first | (refine (fun (kw2_2 : w.heap.size + 1 + 1 < w2.heap.size) => ?_) ?_; rotate_left; omega) | skip)
    have s2 := s1.below hb2
    have d2 := ((Live.start s1).call hb2 (Nat.le_refl _)).sub
    go_wp2_with fail
    refine (spec_CodeOk _ _ d2 x u1 u2 hv2 FIT.out).mono ?_
    rintro e w3 ⟨rfl, hb3⟩
    obtain ⟨kc3, kf3⟩ := bcell hb3; have kz3 := hb3.size; (try simp at kz3); (first | (refine (fun (kw3_0 : w.heap.size  < w3.heap.size) => ?_) ?_; rotate_left; omega) | skip); (first | (refine (fun (kw3_1 : w.heap.size + 1 < w3.heap.size) => ?_) ?_; rotate_left; omega) | skip); (first | (refine (fun (kw3_2 : w.heap.size + 1 + 1 < w3.heap.size) => ?_) ?_; rotate_left; omega) | skip)
    have s3 := s2.below hb3
    go_wp2_with fail
    refine (laws_toCode _ x (hp w) s3 v1 v2 HV.out SM.out).mono ?_
    rintro e w4 ⟨t1, t2, rfl, hv4, hb4⟩
    obtain ⟨kc4, kf4⟩ := bcell hb4; have kz4 := hb4.size; (try simp at kz4); (first | (refine (fun (kw4_0 : w.heap.size  < w4.heap.size) => ?_) ?_; rotate_left; omega) | skip); (first | (refine (fun (kw4_1 : w.heap.size + 1 < w4.heap.size) => ?_) ?_; rotate_left; omega) | skip); (first | (refine (fun (kw4_2 : w.heap.size + 1 + 1 < w4.heap.size) => ?_) ?_; rotate_left; omega) | skip)
    have s4 := s3.below hb4
    obtain ⟨a4, c4, rfl, -⟩ := id hv4.1
    obtain ⟨a5, c5, rfl, -⟩ := id hv4.2
    have d4 := ((Live.start s3).call hb4 (Nat.le_refl _)).sub
    go_wp2_with fail
    refine (impl_CodeOk _ _ (d4.alloc _) x (.slice a4 x.ins.length c4) (.slice a5 x.pats.length c5) hv4 FIT.out).mono ?_
    rintro e w5 ⟨rfl, hb5⟩
    obtain ⟨kc5, kf5⟩ := bcell hb5; have kz5 := hb5.size; (try simp at kz5); (first | (refine (fun (kw5_0 : w.heap.size  < w5.heap.size) => ?_) ?_; rotate_left; omega) | skip); (first | (refine (fun (kw5_1 : w.heap.size + 1 < w5.heap.size) => ?_) ?_; rotate_left; omega) | skip); (first | (refine (fun (kw5_2 : w.heap.size + 1 + 1 < w5.heap.size) => ?_) ?_; rotate_left; omega) | skip)
    have kx5 : w4.heap.size < w5.heap.size := by omega
    go_wp2_with fail
    have s5 := (s4.alloc _).below hb5
    have d5 := (d4.alloc _).below hb5
    have HV4 := Lib.hid hv4
    have HS5 := Lib.hid s5
    have HD5 := Lib.hid d5
    clear hv2 hv4 s0 s1 s2 s3 s4 s5 d4 d5 d2
    go_region_law (first | (refine step_guard rfl ?_; go_simp; go_at_call 43; refine (laws_toCode _ x (hp w) HS5.out.drew v1 v2 HV.out SM.out).mono ?_; rintro e w6 ⟨z1, z2, rfl, hv6, hb6⟩; replace hb6 := below_undrew hb6; obtain ⟨kc6, kf6⟩ := bcell hb6; have kz6 := hb6.size; (try simp at kz6); (first | (refine (fun (kw6_0 : w.heap.size  < w6.heap.size) => ?_) ?_; rotate_left; omega) | skip); (first | (refine (fun (kw6_1 : w.heap.size + 1 < w6.heap.size) => ?_) ?_; rotate_left; omega) | skip); (first | (refine (fun (kw6_2 : w.heap.size + 1 + 1 < w6.heap.size) => ?_) ?_; rotate_left; omega) | skip); have HV6 := Lib.hid hv6; clear hv6; dsimp only) | (refine step_guard rfl ?_; go_simp; go_at_call 45; refine (laws_eqCode _ x (hp _) (Sub.self _) (.slice a4 x.ins.length c4) (.slice a5 x.pats.length c5) z1 z2 (codeRel_mono (HD5.out.below hb6).hle HV4.out) (codeRel_mono ((Live.start HS5.out).call hb6 (Nat.le_refl _)).sub.hle HV6.out)).mono ?_; rintro e w7 ⟨rfl, hb7⟩; obtain ⟨kc7, kf7⟩ := bcell hb7; have kz7 := hb7.size; (try simp at kz7); (first | (refine (fun (kw7_0 : w.heap.size  < w7.heap.size) => ?_) ?_; rotate_left; omega) | skip); (first | (refine (fun (kw7_1 : w.heap.size + 1 < w7.heap.size) => ?_) ?_; rotate_left; omega) | skip); (first | (refine (fun (kw7_2 : w.heap.size + 1 + 1 < w7.heap.size) => ?_) ?_; rotate_left; omega) | skip); dsimp only))
    all_goals
      go_wp2
      go_ret
      exact ⟨rfl, (by repeat (first | with_reducible exact Below.refl _ _ | with_reducible assumption | with_reducible refine Below.setCell ?_ ?_ _ | with_reducible refine Below.alloc ?_ ?_ _ | with_reducible refine Below.drew ?_ | (with_reducible apply below_chain; with_reducible assumption) | exact Nat.le_refl _ | omega | (simp <;> omega)))⟩

/-! ### the row's step -/
set_option maxRecDepth 100000 in
theorem lifted (os : Os) (started : os.Started) (H : Type) (enc : TypeId × Value → H) :
    ReturnsInHanded {} Try.checked os 9 .any (Rows.fnExactCodeOkSpec.pre6 enc Try.prog Try.f9 Rows.fnExactCodeOkRow.domain false) (Rows.fnExactCodeOkSpec.post enc Try.prog Try.f9 false true false false) := by
  refine returnsInHanded_of_change (C := Try.checked) own started (by kernel_rfl) Try.func9
    (ChangeSpec.witness6 (enc := enc) (C := Try.checked) false ⟨#[], #[.agg #[.slice none 0 0, .slice none 0 0]], []⟩ 8 (by kernel_rfl) (by kernel_rfl) (by kernel_rfl) (by kernel_rfl)) ?_
  intro W base args ds gs before hval0 hW hcnd _
  have hval : ∀ (j : Nat) t v, Try.f9.params[j]? = some t → args[j]? = some v → Value.okWide Try.prog W .any base t v := hval0
  have hW' := hW
  obtain ⟨p, q, hA0, hV, rfl, hfz, hnd⟩ := hW
  have hA : DataW.TrodAll enc Try.prog W 0 (fun _ => true) true Try.f9.params.toList args.toList ds p := hA0
  rw [Try.params9] at hA hval
  obtain ⟨v0, vs0, d0, ds0, p0, q0, hargs, rfl, rfl, h0, r0⟩ := trodAll_cons hA
  obtain ⟨rfl, rfl, rfl⟩ := trodAll_nil r0
  obtain rfl : args = #[v0] := by cases args; simp_all
  obtain ⟨rfl, rfl⟩ := trodVars_none hV
  have lt0 : ∀ x ∈ p0, x.block < W.heap.size := by obtain ⟨m, hm⟩ := h0; exact DataW.trod_lt m _ _ _ hm
  clear hA0 hval0
  refine (walk (enc := enc) W v0 d0 p0 h0 (hval 0 67 v0 rfl rfl)).mono fun e W' ⟨he, bel⟩ => ?_
  subst he
  exact ⟨_, rfl, _, _, _, [], _, [], hW', trodAll_mk1 (shut_bool Try.underlying4 _), (trodAll_cons_mk (Below.trod laidOut (by kernel_rfl) (of_decide_eq_true (by kernel_rfl)) h0 bel lt0) trodAll_mk0), rfl, bel.frame _, fun h => by cases h⟩

theorem fact0 : (Rows.fnExactCodeOkRow.wf (OpenSpec.ofChange Rows.fnExactCodeOkSpec)) = true := by kernel_rfl
theorem fact3 : (Try.f9.params.all (Try.prog.readableRec ·)) = true := by kernel_rfl
theorem fact4 : (namedTie Try.prog Rows.fnExactCodeOkRow.named Rows.fnExactCodeOkSpec.vars) = true := by kernel_rfl
theorem fact5 : ((Rows.fnExactCodeOkRow.stops == [])) = true := by kernel_rfl
theorem fact7 : ((Rows.fnExactCodeOkRow.knobs == [])) = true := by kernel_rfl
theorem fact9 : ((Rows.fnExactCodeOkRow.inPlace == Try.prog.inPlace 9)) = true := by kernel_rfl
theorem fact10 : ((Rows.fnExactCodeOkRow.unfollowed == Try.prog.unfollowed 9)) = true := by kernel_rfl
theorem fact11 : ((Rows.fnExactCodeOkRow.recurses == Try.prog.recurses 9)) = true := by kernel_rfl
theorem fact12 : ((Rows.fnExactCodeOkRow.named == Try.prog.varsNamed 9)) = true := by kernel_rfl
theorem fact13 : ((Rows.fnExactCodeOkRow.maps == (Try.f9.params.toList ++ Rows.fnExactCodeOkSpec.plain.varTypes Try.prog).any (Try.prog.mapsRec ·))) = true := by kernel_rfl
theorem fact14 : ((Rows.fnExactCodeOkRow.ifaces == (Try.f9.params.toList ++ Rows.fnExactCodeOkSpec.plain.varTypes Try.prog).any (Try.prog.ifacesRec ·))) = true := by kernel_rfl
theorem fact15 : ((Rows.fnExactCodeOkRow.mapsOut == Try.prog.mapsAmong Try.f9.resultTypes.toList)) = true := by kernel_rfl
theorem fact16 : ((Rows.fnExactCodeOkRow.loops == (Try.f9.params.toList ++ Rows.fnExactCodeOkSpec.plain.varTypes Try.prog).any (Try.prog.loopsFrom ·))) = true := by kernel_rfl
theorem fact17 : ((Rows.fnExactCodeOkRow.wideKeys == (Try.f9.params.toList ++ Rows.fnExactCodeOkSpec.plain.varTypes Try.prog ++ Try.f9.resultTypes.toList).any (Try.prog.wideKeysFrom ·))) = true := by kernel_rfl
theorem fact18 : (Rows.fnExactCodeOkSpec.vars.all (Try.prog.varReadable ·)) = true := by kernel_rfl
theorem fact19 : (Try.f9.resultTypes.all (fun t => Try.prog.readableRec t && decide (t < Try.prog.types.size))) = true := by kernel_rfl
theorem fact20 : ((Rows.fnExactCodeOkRow.ifacesOut == Try.f9.resultTypes.toList.any (Try.prog.ifacesRec ·))) = true := by kernel_rfl
theorem fact21 : ((Rows.fnExactCodeOkRow.loopsOut == Try.f9.resultTypes.toList.any (Try.prog.loopsFrom ·))) = true := by kernel_rfl
theorem fact23 : (Rows.fnExactCodeOkRow.shortTexts.isNone) = true := by kernel_rfl
theorem fact28 : ((Rows.fnExactCodeOkRow.kinds == (if Rows.fnExactCodeOkRow.domain.isEmpty then [] else Try.f9.params.toList.map fun t => match Try.prog.underlying t with | some (.int k) => some k | _ => none))) = true := by kernel_rfl
theorem fact29 : ((Rows.fnExactCodeOkRow.pinned == Rows.fnExactCodeOkRow.pinnedBy)) = true := by kernel_rfl
theorem fact30 : ((Rows.fnExactCodeOkRow.veiled == (Try.f9.params.toList ++ Rows.fnExactCodeOkSpec.plain.varTypes Try.prog ++ Try.f9.resultTypes.toList).any (Try.prog.veiledRec ·))) = true := by kernel_rfl
theorem fact31 : (Rows.fnExactCodeOkRow.veiledFits Try.prog Try.f9.params.toList (Try.f9.params.toList ++ Rows.fnExactCodeOkSpec.plain.varTypes Try.prog ++ Try.f9.resultTypes.toList)) = true := by kernel_rfl
set_option maxRecDepth 100000 in
theorem closed : joinedFacts Try.prog 9 Try.f9 Rows.fnExactCodeOkSpec Rows.fnExactCodeOkRow = true := (and_t (and_t (and_t (and_t (and_t (and_t (and_t (and_t (and_t (and_t (and_t (and_t (and_t (and_t (and_t (and_t (and_t (and_t (and_t (and_t (and_t (and_t (and_t (and_t (and_t (and_t (and_t (and_t (and_t (and_t (and_t fact0 cl_1) cl_2) fact3) fact4) fact5) cl_6) fact7) cl_8) fact9) fact10) fact11) fact12) fact13) fact14) fact15) fact16) fact17) fact18) fact19) fact20) fact21) cl_22) fact23) cl_24) cl_25) cl_26) cl_27) fact28) fact29) fact30) fact31)
set_option maxRecDepth 100000 in
theorem inst : Try.f9.isInstance Try.prog Rows.fnExactCodeOkRow.origin Rows.fnExactCodeOkRow.targs := of_decide_eq_true (by kernel_rfl)
set_option maxRecDepth 100000 in
theorem wrap : Try.f9.isWrapper Try.prog Rows.fnExactCodeOkRow.wrapper Rows.fnExactCodeOkRow.mainSum := by unfold Func.isWrapper; first | (rw [if_pos (by decide +kernel)]; kernel_rfl) | (rw [if_neg (by decide +kernel)]; exact ⟨rfl, rfl⟩)
set_option maxRecDepth 100000 in
theorem over : Rows.fnExactCodeOkRow.holds Try.pinned (OpenSpec.ofChange Rows.fnExactCodeOkSpec) :=
  OpenClaim.holds_of_wide 9 Try.f9 rfl rfl rfl rfl rfl rfl rfl ⟨rfl, rfl, rfl, rfl, rfl⟩ rfl rfl rfl rfl rfl (by kernel_rfl) Try.func9 closed
    inst wrap
    (fun os started H enc _ => lifted os started H enc)

/-- the statement -/
theorem proved : Rows.FnExactCodeOkSaid := over
#print axioms proved
end Go.Proofs.Ytbimnhbpcppfiaa.fnExactCodeOk
