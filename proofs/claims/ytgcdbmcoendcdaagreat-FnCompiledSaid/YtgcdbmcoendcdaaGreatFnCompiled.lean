/-
  Proved: the statement 'Rows.FnCompiledSaid': for every input the law 'FnCompiled' returns true and leaves its arguments as they were; no further condition.
-/
import Derived.Test.YtgcdbmcoendcdaaGreatRows
import Derived.WalkKit
import Derived.ProofKit
import Derived.OpenShut
import Derived.ShutString
import Derived.ChangeOld
import Derived.Below
import Derived.Test.YtgcdbmcoendcdaaGreatClosed
import Derived.Test.YtgcdbmcoendcdaaGreatC11
namespace Go.Proofs.YtgcdbmcoendcdaaGreat.fnCompiled
open Go.ChangeShapes Go.WideShapes Go.ChangeAt Go.RowKit
open Go.ChangeMaps (open_string shut_string)
set_option linter.unusedVariables false

theorem own : ownKnob Tryz.prog.godebug = none := cl_own
theorem laidOut : laidOutB Tryz.prog = true := cl_1


/-! ### the walk -/
theorem slAny {S : Nat → Prop} {up : Nat → Option Pos} {w : World} {p : Option Pos} {k : Nat} {rows : List (List D)} {v : Value} (h : Rep S up w none (.sl k rows) v) : Rep S up w p (.sl k rows) v := by
  cases h <;> constructor <;> assumption
set_option maxRecDepth 100000 in
theorem bytesRead {H : Type} {enc : TypeId × Value → H} {base : Nat} {w : World} {v0 : Value} {d0 : DataW H} {p0 : List MemPlace} (k0 : DataW.Trod enc Tryz.prog w 0 (fun _ => true) true 36 v0 d0 p0) (o0 : Value.okWide Tryz.prog w .any base 36 v0) : ∃ zs : List UInt8, Rep (WE w) upW w none (.sl 1 (zs.map u8E)) v0 := by
  obtain ⟨a, n, c, rfl, _⟩ := okWide_slice Tryz.underlying36 o0
  obtain ⟨fuel, hf⟩ : ∃ fuel, Rd enc Tryz.prog w fuel 36 (Value.slice a n c).cells.toList (d0, p0) := k0
  obtain ⟨zs, hy, -⟩ := rdE_bytes.2 _ _ _ _ _ _ hf
  exact ⟨zs, hy.2 0 _ _ rfl rfl⟩
set_option maxRecDepth 100000 in
set_option maxHeartbeats 1000000 in
theorem walk {H : Type} {enc : TypeId × Value → H} {base : Nat} (w : World) (v0 : Value) (d0 : DataW H) (p0 : List MemPlace) (k0 : DataW.Trod enc Tryz.prog w 0 (fun _ => true) true 36 v0 d0 p0) (o0 : Value.okWide Tryz.prog w .any base 36 v0) :
    Calls Tryz.prog 5 #[v0] w fun e w' => e = .returned (.bool true) ∧ Below w.heap.size w w' := by
  obtain ⟨zs, hr⟩ := bytesRead k0 o0
  refine ((c_FnCompiled zs).run w ⟨fun _ => none, fun _ => 0, upW, WE w⟩ [v0] (fun _ q => q) (fun b p q => (by cases q)) rfl (fun j b u q1 q2 => ?_)).mono ?_
  · match j, q1, q2 with
    | 0, q1, q2 =>
      obtain rfl := Option.some.inj q1
      obtain rfl := Option.some.inj q2
      exact slAny hr
    | j + 1, q1, q2 => simp at q1
  · rintro e w' ⟨v, g', r, o, rfl, b1, b2, b3, b4, b5, b6, rfl, b7, -⟩
    have b7 : Rep g'.S g'.up w' (some (.ans 0 0)) (.s (.bool true)) v := b7
    have : v = .bool true := Rep.s_inv b7
    subst this
    exact ⟨rfl, b1.os, b1.tape, b1.output, b1.size, fun k hk => b2 k hk rfl⟩

/-! ### the row's step -/
set_option maxRecDepth 100000 in
theorem lifted (os : Os) (started : os.Started) (H : Type) (enc : TypeId × Value → H) :
    ReturnsInHanded {} Tryz.checked os 5 .any (Rows.fnCompiledSpec.pre6 enc Tryz.prog Tryz.f5 Rows.fnCompiledRow.domain false) (Rows.fnCompiledSpec.post enc Tryz.prog Tryz.f5 false true false false) := by
  refine returnsInHanded_of_change (C := Tryz.checked) own started (by kernel_rfl) Tryz.func5
    (ChangeSpec.witness6 (enc := enc) (C := Tryz.checked) false ⟨#[], #[.slice none 0 0], []⟩ 8 (by kernel_rfl) (by kernel_rfl) (by kernel_rfl) (by kernel_rfl)) ?_
  intro W base args ds gs before hval0 hW hcnd _
  have hval : ∀ (j : Nat) t v, Tryz.f5.params[j]? = some t → args[j]? = some v → Value.okWide Tryz.prog W .any base t v := hval0
  have hW' := hW
  obtain ⟨p, q, hA0, hV, rfl, hfz, hnd⟩ := hW
  have hA : DataW.TrodAll enc Tryz.prog W 0 (fun _ => true) true Tryz.f5.params.toList args.toList ds p := hA0
  rw [Tryz.params5] at hA hval
  obtain ⟨v0, vs0, d0, ds0, p0, q0, hargs, rfl, rfl, h0, r0⟩ := trodAll_cons hA
  obtain ⟨rfl, rfl, rfl⟩ := trodAll_nil r0
  obtain rfl : args = #[v0] := by cases args; simp_all
  obtain ⟨rfl, rfl⟩ := trodVars_none hV
  have lt0 : ∀ x ∈ p0, x.block < W.heap.size := by obtain ⟨m, hm⟩ := h0; exact DataW.trod_lt m _ _ _ hm
  clear hA0 hval0
  refine (walk (enc := enc) W v0 d0 p0 h0 (hval 0 36 v0 rfl rfl)).mono fun e W' ⟨he, bel⟩ => ?_
  subst he
  exact ⟨_, rfl, _, _, _, [], _, [], hW', trodAll_mk1 (shut_bool Tryz.underlying4 _), (trodAll_cons_mk (Below.trod laidOut (by kernel_rfl) (of_decide_eq_true (by kernel_rfl)) h0 bel lt0) trodAll_mk0), rfl, bel.frame _, fun h => by cases h⟩

theorem fact0 : (Rows.fnCompiledRow.wf (OpenSpec.ofChange Rows.fnCompiledSpec)) = true := by kernel_rfl
theorem fact3 : (Tryz.f5.params.all (Tryz.prog.readableRec ·)) = true := by kernel_rfl
theorem fact4 : (namedTie Tryz.prog Rows.fnCompiledRow.named Rows.fnCompiledSpec.vars) = true := by kernel_rfl
theorem fact5 : ((Rows.fnCompiledRow.stops == [])) = true := by kernel_rfl
theorem fact7 : ((Rows.fnCompiledRow.knobs == [])) = true := by kernel_rfl
theorem fact9 : ((Rows.fnCompiledRow.inPlace == Tryz.prog.inPlace 5)) = true := by kernel_rfl
theorem fact10 : ((Rows.fnCompiledRow.unfollowed == Tryz.prog.unfollowed 5)) = true := by kernel_rfl
theorem fact11 : ((Rows.fnCompiledRow.recurses == Tryz.prog.recurses 5)) = true := by kernel_rfl
theorem fact12 : ((Rows.fnCompiledRow.named == Tryz.prog.varsNamed 5)) = true := by kernel_rfl
theorem fact13 : ((Rows.fnCompiledRow.maps == (Tryz.f5.params.toList ++ Rows.fnCompiledSpec.plain.varTypes Tryz.prog).any (Tryz.prog.mapsRec ·))) = true := by kernel_rfl
theorem fact14 : ((Rows.fnCompiledRow.ifaces == (Tryz.f5.params.toList ++ Rows.fnCompiledSpec.plain.varTypes Tryz.prog).any (Tryz.prog.ifacesRec ·))) = true := by kernel_rfl
theorem fact15 : ((Rows.fnCompiledRow.mapsOut == Tryz.prog.mapsAmong Tryz.f5.resultTypes.toList)) = true := by kernel_rfl
theorem fact16 : ((Rows.fnCompiledRow.loops == (Tryz.f5.params.toList ++ Rows.fnCompiledSpec.plain.varTypes Tryz.prog).any (Tryz.prog.loopsFrom ·))) = true := by kernel_rfl
theorem fact17 : ((Rows.fnCompiledRow.wideKeys == (Tryz.f5.params.toList ++ Rows.fnCompiledSpec.plain.varTypes Tryz.prog ++ Tryz.f5.resultTypes.toList).any (Tryz.prog.wideKeysFrom ·))) = true := by kernel_rfl
theorem fact18 : (Rows.fnCompiledSpec.vars.all (Tryz.prog.varReadable ·)) = true := by kernel_rfl
theorem fact19 : (Tryz.f5.resultTypes.all (fun t => Tryz.prog.readableRec t && decide (t < Tryz.prog.types.size))) = true := by kernel_rfl
theorem fact20 : ((Rows.fnCompiledRow.ifacesOut == Tryz.f5.resultTypes.toList.any (Tryz.prog.ifacesRec ·))) = true := by kernel_rfl
theorem fact21 : ((Rows.fnCompiledRow.loopsOut == Tryz.f5.resultTypes.toList.any (Tryz.prog.loopsFrom ·))) = true := by kernel_rfl
theorem fact23 : (Rows.fnCompiledRow.shortTexts.isNone) = true := by kernel_rfl
theorem fact28 : ((Rows.fnCompiledRow.kinds == (if Rows.fnCompiledRow.domain.isEmpty then [] else Tryz.f5.params.toList.map fun t => match Tryz.prog.underlying t with | some (.int k) => some k | _ => none))) = true := by kernel_rfl
theorem fact29 : ((Rows.fnCompiledRow.pinned == Rows.fnCompiledRow.pinnedBy)) = true := by kernel_rfl
theorem fact30 : ((Rows.fnCompiledRow.veiled == (Tryz.f5.params.toList ++ Rows.fnCompiledSpec.plain.varTypes Tryz.prog ++ Tryz.f5.resultTypes.toList).any (Tryz.prog.veiledRec ·))) = true := by kernel_rfl
theorem fact31 : (Rows.fnCompiledRow.veiledFits Tryz.prog Tryz.f5.params.toList (Tryz.f5.params.toList ++ Rows.fnCompiledSpec.plain.varTypes Tryz.prog ++ Tryz.f5.resultTypes.toList)) = true := by kernel_rfl
set_option maxRecDepth 100000 in
theorem closed : joinedFacts Tryz.prog 5 Tryz.f5 Rows.fnCompiledSpec Rows.fnCompiledRow = true := (and_t (and_t (and_t (and_t (and_t (and_t (and_t (and_t (and_t (and_t (and_t (and_t (and_t (and_t (and_t (and_t (and_t (and_t (and_t (and_t (and_t (and_t (and_t (and_t (and_t (and_t (and_t (and_t (and_t (and_t (and_t fact0 cl_1) cl_2) fact3) fact4) fact5) cl_6) fact7) cl_8) fact9) fact10) fact11) fact12) fact13) fact14) fact15) fact16) fact17) fact18) fact19) fact20) fact21) cl_22) fact23) cl_24) cl_25) cl_26) cl_27) fact28) fact29) fact30) fact31)
set_option maxRecDepth 100000 in
theorem inst : Tryz.f5.isInstance Tryz.prog Rows.fnCompiledRow.origin Rows.fnCompiledRow.targs := of_decide_eq_true (by kernel_rfl)
set_option maxRecDepth 100000 in
theorem wrap : Tryz.f5.isWrapper Tryz.prog Rows.fnCompiledRow.wrapper Rows.fnCompiledRow.mainSum := by unfold Func.isWrapper; first | (rw [if_pos (by decide +kernel)]; kernel_rfl) | (rw [if_neg (by decide +kernel)]; exact ⟨rfl, rfl⟩)
set_option maxRecDepth 100000 in
theorem over : Rows.fnCompiledRow.holds Tryz.pinned (OpenSpec.ofChange Rows.fnCompiledSpec) :=
  OpenClaim.holds_of_wide 5 Tryz.f5 rfl rfl rfl rfl rfl rfl rfl ⟨rfl, rfl, rfl, rfl, rfl⟩ rfl rfl rfl rfl rfl (by kernel_rfl) Tryz.func5 closed
    inst wrap
    (fun os started H enc _ => lifted os started H enc)

/-- the statement -/
theorem proved : Rows.FnCompiledSaid := over
#print axioms proved
end Go.Proofs.YtgcdbmcoendcdaaGreat.fnCompiled
