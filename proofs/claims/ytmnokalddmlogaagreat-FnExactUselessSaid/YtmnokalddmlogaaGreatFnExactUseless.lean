/-
  Proved: the statement 'Rows.FnExactUselessSaid': for every input the law 'FnExactUseless' returns true and leaves its arguments as they were; no further condition.
-/
import Derived.Test.YtmnokalddmlogaaGreatRows
import Derived.WalkKit
import Derived.ProofKit
import Derived.OpenShut
import Derived.ShutString
import Derived.ChangeOld
import Derived.Below
import Derived.Test.YtmnokalddmlogaaGreatClosed
import Derived.Test.YtmnokalddmlogaaGreatP11
namespace Go.Proofs.YtmnokalddmlogaaGreat.fnExactUseless
open Go.ChangeShapes Go.WideShapes Go.ChangeAt Go.RowKit
open Go.ChangeMaps (open_string shut_string)
set_option linter.unusedVariables false

theorem own : ownKnob Tryz.prog.godebug = none := cl_own
theorem laidOut : laidOutB Tryz.prog = true := cl_1


/-! ### the walk -/
set_option maxRecDepth 100000 in
set_option maxHeartbeats 1000000 in
theorem walk {H : Type} {enc : TypeId × Value → H} {base : Nat} (w : World) (v0 : Value) (d0 : DataW H) (p0 : List MemPlace) (k0 : DataW.Trod enc Tryz.prog w 0 (fun _ => true) true 25 v0 d0 p0) (o0 : Value.okWide Tryz.prog w .any base 25 v0) (v1 : Value) (d1 : DataW H) (p1 : List MemPlace) (k1 : DataW.Trod enc Tryz.prog w 0 (fun _ => true) true 26 v1 d1 p1) (o1 : Value.okWide Tryz.prog w .any base 26 v1) :
    Calls Tryz.prog 5 #[v0, v1] w fun e w' => e = .returned (.bool true) ∧ Below w.heap.size w w' := by
  obtain ⟨x0, r0, o0'⟩ := rdE_Program.ag Tryz.underlying25 k0 o0
  obtain ⟨x1, r1, o1'⟩ := rdE_Pats.sl Tryz.underlying26 k1 o1
  exact (c_FnExactUseless x0 x1 o0' o1').law w [v0, v1] rfl (args2 r0 r1)

/-! ### the row's step -/
set_option maxRecDepth 100000 in
theorem lifted (os : Os) (started : os.Started) (H : Type) (enc : TypeId × Value → H) :
    ReturnsInHanded {} Tryz.checked os 5 .any (Rows.fnExactUselessSpec.pre6 enc Tryz.prog Tryz.f5 Rows.fnExactUselessRow.domain false) (Rows.fnExactUselessSpec.post enc Tryz.prog Tryz.f5 false true false false) := by
  refine returnsInHanded_of_change (C := Tryz.checked) own started (by kernel_rfl) Tryz.func5
    (ChangeSpec.witness6 (enc := enc) (C := Tryz.checked) false ⟨#[], #[.agg #[.slice none 0 0, .slice none 0 0], .slice none 0 0], []⟩ 8 (by kernel_rfl) (by kernel_rfl) (by kernel_rfl) (by kernel_rfl)) ?_
  intro W base args ds gs before hval0 hW hcnd _
  have hval : ∀ (j : Nat) t v, Tryz.f5.params[j]? = some t → args[j]? = some v → Value.okWide Tryz.prog W .any base t v := hval0
  have hW' := hW
  obtain ⟨p, q, hA0, hV, rfl, hfz, hnd⟩ := hW
  have hA : DataW.TrodAll enc Tryz.prog W 0 (fun _ => true) true Tryz.f5.params.toList args.toList ds p := hA0
  rw [Tryz.params5] at hA hval
  obtain ⟨v0, vs0, d0, ds0, p0, q0, hargs, rfl, rfl, h0, r0⟩ := trodAll_cons hA
  obtain ⟨v1, vs1, d1, ds1, p1, q1, rfl, rfl, rfl, h1, r1⟩ := trodAll_cons r0
  obtain ⟨rfl, rfl, rfl⟩ := trodAll_nil r1
  obtain rfl : args = #[v0, v1] := by cases args; simp_all
  obtain ⟨rfl, rfl⟩ := trodVars_none hV
  have lt0 : ∀ x ∈ p0, x.block < W.heap.size := by obtain ⟨m, hm⟩ := h0; exact DataW.trod_lt m _ _ _ hm
  have lt1 : ∀ x ∈ p1, x.block < W.heap.size := by obtain ⟨m, hm⟩ := h1; exact DataW.trod_lt m _ _ _ hm
  clear hA0 hval0
  refine (walk (enc := enc) W v0 d0 p0 h0 (hval 0 25 v0 rfl rfl) v1 d1 p1 h1 (hval 1 26 v1 rfl rfl)).mono fun e W' ⟨he, bel⟩ => ?_
  subst he
  exact ⟨_, rfl, _, _, _, [], _, [], hW', trodAll_mk1 (shut_bool Tryz.underlying4 _), (trodAll_cons_mk (Below.trod laidOut (by kernel_rfl) (of_decide_eq_true (by kernel_rfl)) h0 bel lt0) (trodAll_cons_mk (Below.trod laidOut (by kernel_rfl) (of_decide_eq_true (by kernel_rfl)) h1 bel lt1) trodAll_mk0)), rfl, bel.frame _, fun h => by cases h⟩

theorem fact0 : (Rows.fnExactUselessRow.wf (OpenSpec.ofChange Rows.fnExactUselessSpec)) = true := by kernel_rfl
theorem fact3 : (Tryz.f5.params.all (Tryz.prog.readableRec ·)) = true := by kernel_rfl
theorem fact4 : (namedTie Tryz.prog Rows.fnExactUselessRow.named Rows.fnExactUselessSpec.vars) = true := by kernel_rfl
theorem fact5 : ((Rows.fnExactUselessRow.stops == [])) = true := by kernel_rfl
theorem fact7 : ((Rows.fnExactUselessRow.knobs == [])) = true := by kernel_rfl
theorem fact9 : ((Rows.fnExactUselessRow.inPlace == Tryz.prog.inPlace 5)) = true := by kernel_rfl
theorem fact10 : ((Rows.fnExactUselessRow.unfollowed == Tryz.prog.unfollowed 5)) = true := by kernel_rfl
theorem fact11 : ((Rows.fnExactUselessRow.recurses == Tryz.prog.recurses 5)) = true := by kernel_rfl
theorem fact12 : ((Rows.fnExactUselessRow.named == Tryz.prog.varsNamed 5)) = true := by kernel_rfl
theorem fact13 : ((Rows.fnExactUselessRow.maps == (Tryz.f5.params.toList ++ Rows.fnExactUselessSpec.plain.varTypes Tryz.prog).any (Tryz.prog.mapsRec ·))) = true := by kernel_rfl
theorem fact14 : ((Rows.fnExactUselessRow.ifaces == (Tryz.f5.params.toList ++ Rows.fnExactUselessSpec.plain.varTypes Tryz.prog).any (Tryz.prog.ifacesRec ·))) = true := by kernel_rfl
theorem fact15 : ((Rows.fnExactUselessRow.mapsOut == Tryz.prog.mapsAmong Tryz.f5.resultTypes.toList)) = true := by kernel_rfl
theorem fact16 : ((Rows.fnExactUselessRow.loops == (Tryz.f5.params.toList ++ Rows.fnExactUselessSpec.plain.varTypes Tryz.prog).any (Tryz.prog.loopsFrom ·))) = true := by kernel_rfl
theorem fact17 : ((Rows.fnExactUselessRow.wideKeys == (Tryz.f5.params.toList ++ Rows.fnExactUselessSpec.plain.varTypes Tryz.prog ++ Tryz.f5.resultTypes.toList).any (Tryz.prog.wideKeysFrom ·))) = true := by kernel_rfl
theorem fact18 : (Rows.fnExactUselessSpec.vars.all (Tryz.prog.varReadable ·)) = true := by kernel_rfl
theorem fact19 : (Tryz.f5.resultTypes.all (fun t => Tryz.prog.readableRec t && decide (t < Tryz.prog.types.size))) = true := by kernel_rfl
theorem fact20 : ((Rows.fnExactUselessRow.ifacesOut == Tryz.f5.resultTypes.toList.any (Tryz.prog.ifacesRec ·))) = true := by kernel_rfl
theorem fact21 : ((Rows.fnExactUselessRow.loopsOut == Tryz.f5.resultTypes.toList.any (Tryz.prog.loopsFrom ·))) = true := by kernel_rfl
theorem fact23 : (Rows.fnExactUselessRow.shortTexts.isNone) = true := by kernel_rfl
theorem fact28 : ((Rows.fnExactUselessRow.kinds == (if Rows.fnExactUselessRow.domain.isEmpty then [] else Tryz.f5.params.toList.map fun t => match Tryz.prog.underlying t with | some (.int k) => some k | _ => none))) = true := by kernel_rfl
theorem fact29 : ((Rows.fnExactUselessRow.pinned == Rows.fnExactUselessRow.pinnedBy)) = true := by kernel_rfl
theorem fact30 : ((Rows.fnExactUselessRow.veiled == (Tryz.f5.params.toList ++ Rows.fnExactUselessSpec.plain.varTypes Tryz.prog ++ Tryz.f5.resultTypes.toList).any (Tryz.prog.veiledRec ·))) = true := by kernel_rfl
theorem fact31 : (Rows.fnExactUselessRow.veiledFits Tryz.prog Tryz.f5.params.toList (Tryz.f5.params.toList ++ Rows.fnExactUselessSpec.plain.varTypes Tryz.prog ++ Tryz.f5.resultTypes.toList)) = true := by kernel_rfl
set_option maxRecDepth 100000 in
theorem closed : joinedFacts Tryz.prog 5 Tryz.f5 Rows.fnExactUselessSpec Rows.fnExactUselessRow = true := (and_t (and_t (and_t (and_t (and_t (and_t (and_t (and_t (and_t (and_t (and_t (and_t (and_t (and_t (and_t (and_t (and_t (and_t (and_t (and_t (and_t (and_t (and_t (and_t (and_t (and_t (and_t (and_t (and_t (and_t (and_t fact0 cl_1) cl_2) fact3) fact4) fact5) cl_6) fact7) cl_8) fact9) fact10) fact11) fact12) fact13) fact14) fact15) fact16) fact17) fact18) fact19) fact20) fact21) cl_22) fact23) cl_24) cl_25) cl_26) cl_27) fact28) fact29) fact30) fact31)
set_option maxRecDepth 100000 in
theorem inst : Tryz.f5.isInstance Tryz.prog Rows.fnExactUselessRow.origin Rows.fnExactUselessRow.targs := of_decide_eq_true (by kernel_rfl)
set_option maxRecDepth 100000 in
theorem wrap : Tryz.f5.isWrapper Tryz.prog Rows.fnExactUselessRow.wrapper Rows.fnExactUselessRow.mainSum := by unfold Func.isWrapper; first | (rw [if_pos (by decide +kernel)]; kernel_rfl) | (rw [if_neg (by decide +kernel)]; exact ⟨rfl, rfl⟩)
set_option maxRecDepth 100000 in
theorem over : Rows.fnExactUselessRow.holds Tryz.pinned (OpenSpec.ofChange Rows.fnExactUselessSpec) :=
  OpenClaim.holds_of_wide 5 Tryz.f5 rfl rfl rfl rfl rfl rfl rfl ⟨rfl, rfl, rfl, rfl, rfl⟩ rfl rfl rfl rfl rfl (by kernel_rfl) Tryz.func5 closed
    inst wrap
    (fun os started H enc _ => lifted os started H enc)

/-- the statement -/
theorem proved : Rows.FnExactUselessSaid := over
#print axioms proved
end Go.Proofs.YtmnokalddmlogaaGreat.fnExactUseless
