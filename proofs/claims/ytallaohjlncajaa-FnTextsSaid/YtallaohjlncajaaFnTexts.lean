/-
  Proved: the statement 'Rows.FnTextsSaid': for every input the law 'FnTexts' returns true and leaves its arguments as they were; no further condition.
-/
import Derived.Test.YtallaohjlncajaaRows
import Derived.WalkKit
import Derived.ProofKit
import Derived.OpenShut
import Derived.ShutString
import Derived.ChangeOld
import Derived.Below
import Derived.Test.YtallaohjlncajaaDrawTxt
import Derived.Test.YtallaohjlncajaaQuoInj
namespace Go.Proofs.Ytallaohjlncajaa.fnTexts
open Go.ChangeShapes Go.WideShapes Go.ChangeAt Go.RowKit
open Go.ChangeMaps (open_string shut_string)
set_option linter.unusedVariables false

theorem own : ownKnob Try.prog.godebug = none := by kernel_rfl
theorem laidOut : laidOutB Try.prog = true := by kernel_rfl
theorem bytes_of {P : Program} {W : World} {r : Reach} {b : Nat} {t e : TypeId} {v : Value} (hu : P.underlying t = some (.slice e)) (o : Value.okWide P W r b t v) : ∃ a n c, v = .slice a n c := by
  obtain ⟨a, n, c, rfl, _⟩ := okWide_slice hu o
  exact ⟨a, n, c, rfl⟩
theorem nil_str (x : ByteArray) : x.toList.isEmpty = decide (x = ⟨#[]⟩) := by
  rw [← str_beq x ⟨#[]⟩]
  have : (⟨#[]⟩ : ByteArray).toList = [] := by simp [ByteArray.toList_eq]
  rw [this]
  cases x.toList <;> rfl
/-- what one number's and one text's ways there and back are. -/
theorem ways (n : Int) (s : ByteArray) (hn : -9223372036854775808 ≤ n ∧ n ≤ 9223372036854775807) (hs : s.size ≤ 12) : ∃ (t : ByteArray) (m : Int) (ok : Bool) (q : ByteArray),
    (∀ w, Calls Try.prog 42 #[.int .i64 n] w fun e w' => e = .returned (.string t) ∧ Below w.heap.size w w') ∧
    (∀ w, Calls Try.prog 55 #[.string t] w fun e w' => e = .returned (.tuple #[.int .i64 m, .bool ok]) ∧ Below w.heap.size w w') ∧
    (∀ w, Calls Try.prog 40 #[.string s] w fun e w' => e = .returned (.string q) ∧ Below w.heap.size w w') ∧
    (∀ w, Calls Try.prog 57 #[.string q] w fun e w' => e = .returned (.tuple #[.string s, .bool true]) ∧ Below w.heap.size w w') ∧
    (!t.toList.isEmpty) = ok ∧ (wrap63 n == n) = ok ∧ (ok = true → m = n) := by
  have hq : (bs (quoL s.data.toList)).size ≤ 9000000000 := by
    rw [bs_size]
    have := quoL_len s.data.toList
    have : s.data.toList.length = s.size := rfl
    omega
  have hU := fun w => impl_Unquote w _ hq
  rw [unq_quo] at hU
  have hl := numT_len n
  have hN := fun w => impl_TextNum w (bs (numT n)) (by rw [bs_size]; unfold maxLen; omega)
  by_cases h : -4611686018427387904 ≤ n ∧ n ≤ 4611686018427387903
  · rw [txt_num h.1 h.2] at hN
    exact ⟨_, _, _, _, fun w => impl_NumText w n hn.1 hn.2, hN, fun w => impl_Quote w s (by omega), hU, by rw [nil_str, decide_eq_false (numT_ne h.1 h.2)]; rfl, beq_iff_eq.mpr (wrap63_self h.1 h.2), fun _ => rfl⟩
  · rw [txt_out h] at hN
    refine ⟨_, _, _, _, fun w => impl_NumText w n hn.1 hn.2, hN, fun w => impl_Quote w s (by omega), hU, ?_, ?_, fun h => by cases h⟩
    · rw [numT_out h, nil_str, decide_eq_true (show bs [] = ⟨#[]⟩ from rfl)]; rfl
    · exact beq_eq_false_iff_ne.mpr fun e => h ((wrap63_self_iff n).1 e)

/-! ### the walk -/
theorem walk {H : Type} {enc : TypeId × Value → H} {base : Nat} (w : World) (v0 : Value) (d0 : DataW H) (p0 : List MemPlace) (k0 : DataW.Trod enc Try.prog w 0 (fun _ => true) true 48 v0 d0 p0) (o0 : Value.okWide Try.prog w .any base 48 v0) :
    Calls Try.prog 20 #[v0] w fun e w' => e = .returned (.bool true) ∧ Below w.heap.size w w' := by
  obtain ⟨zs, hv⟩ : ∃ zs, BytS (hp w) v0 zs := by
    obtain ⟨a, n, c, rfl⟩ := bytes_of Try.underlying48 o0
    obtain ⟨fuel, hf⟩ := k0
    obtain ⟨v, zs, e, h⟩ := rd_bytes hf
    have e' : [Value.slice a n c] = [v] := e
    injection e' with e'
    exact ⟨zs, e' ▸ h⟩
  clear k0 o0
  have s0 := Sub.self w
  have HV := Lib.hid hv
  obtain ⟨a, c, rfl, hc1, hc2, -⟩ := hv
  unfold maxLen at hc2
  go_enter Try.func20, Try.ntmps20
  by_cases hn : (zs.length : Int) > 1048576
  · go_wp2_with fail
    go_ret
    exact ⟨rfl, Below.refl _ _⟩
  · go_wp2_with fail
    refine (spec_DrawNumText _ (hp w) s0 _ zs HV.out).mono ?_
    rintro e w1 ⟨n, rfl, hx, hb1⟩
    go_wp2_with fail
    refine (spec_DrawQuote _ (hp w) (s0.below hb1) _ zs HV.out).mono ?_
    rintro e w2 ⟨s, rfl, hs, hb2⟩
    obtain ⟨t, m, ok, q, h1, h2, h3, h4, h5, h6, h7⟩ := ways n s hx hs
    have H1 := Lib.hid h1
    have H2 := Lib.hid h2
    have H3 := Lib.hid h3
    have H4 := Lib.hid h4
    have H5 := Lib.hid h5
    have H6 := Lib.hid h6
    have b2 := below_chain hb2 hb1 hb1.size
    clear h1 h2 h3 h4 h5 h6 hx hb1 hb2
    go_wp2_with fail
    refine (H1.out _).mono ?_
    rintro e w3 ⟨rfl, hb3⟩
    have b3 := below_chain hb3 b2 b2.size
    clear b2 hb3
    have h5 := H5.out
    have h6 := H6.out
    cases ok
    all_goals
      go_wp2_with (first | (go_at_call 55; refine (H2.out _).mono ?_; rintro e w4 ⟨rfl, hb4⟩) | (go_at_call 40; refine (H3.out _).mono ?_; rintro e w5 ⟨rfl, hb5⟩) | (go_at_call 57; refine (H4.out _).mono ?_; rintro e w6 ⟨rfl, hb6⟩) | (go_at_call 21; refine (spec_Wrap _ _).mono ?_; rintro e w' ⟨rfl, rfl⟩))
      go_ret
      have b4 := below_chain hb4 b3 b3.size
      have b5 := below_chain hb5 b4 b4.size
      exact ⟨rfl, below_chain hb6 b5 b5.size⟩

/-! ### the row's step -/
set_option maxRecDepth 100000 in
theorem lifted (os : Os) (started : os.Started) (H : Type) (enc : TypeId × Value → H) :
    ReturnsInHanded {} Try.checked os 20 .any (Rows.fnTextsSpec.pre6 enc Try.prog Try.f20 Rows.fnTextsRow.domain false) (Rows.fnTextsSpec.post enc Try.prog Try.f20 false true false false) := by
  refine returnsInHanded_of_change (C := Try.checked) own started (by kernel_rfl) Try.func20
    (ChangeSpec.witness6 (enc := enc) (C := Try.checked) false ⟨#[], #[.slice none 0 0], []⟩ 8 (by kernel_rfl) (by kernel_rfl) (by kernel_rfl) (by kernel_rfl)) ?_
  intro W base args ds gs before hval0 hW hcnd _
  have hval : ∀ (j : Nat) t v, Try.f20.params[j]? = some t → args[j]? = some v → Value.okWide Try.prog W .any base t v := hval0
  have hW' := hW
  obtain ⟨p, q, hA0, hV, rfl, hfz, hnd⟩ := hW
  have hA : DataW.TrodAll enc Try.prog W 0 (fun _ => true) true Try.f20.params.toList args.toList ds p := hA0
  rw [Try.params20] at hA hval
  obtain ⟨v0, vs0, d0, ds0, p0, q0, hargs, rfl, rfl, h0, r0⟩ := trodAll_cons hA
  obtain ⟨rfl, rfl, rfl⟩ := trodAll_nil r0
  obtain rfl : args = #[v0] := by cases args; simp_all
  obtain ⟨rfl, rfl⟩ := trodVars_none hV
  have lt0 : ∀ x ∈ p0, x.block < W.heap.size := by obtain ⟨m, hm⟩ := h0; exact DataW.trod_lt m _ _ _ hm
  clear hA0 hval0
  refine (walk (enc := enc) W v0 d0 p0 h0 (hval 0 48 v0 rfl rfl)).mono fun e W' ⟨he, bel⟩ => ?_
  subst he
  exact ⟨_, rfl, _, _, _, [], _, [], hW', trodAll_mk1 (shut_bool Try.underlying4 _), (trodAll_cons_mk (Below.trod laidOut (by kernel_rfl) (of_decide_eq_true (by kernel_rfl)) h0 bel lt0) trodAll_mk0), rfl, bel.frame _, fun h => by cases h⟩

theorem over : Rows.fnTextsRow.holds Try.pinned (OpenSpec.ofChange Rows.fnTextsSpec) :=
  OpenClaim.holds_of_wide 20 Try.f20 rfl rfl rfl rfl rfl rfl rfl ⟨rfl, rfl, rfl, rfl, rfl⟩ rfl rfl rfl rfl rfl (by kernel_rfl) Try.func20 (by kernel_rfl)
    (of_decide_eq_true (by kernel_rfl)) (by unfold Func.isWrapper; first | (rw [if_pos (by decide +kernel)]; kernel_rfl) | (rw [if_neg (by decide +kernel)]; exact ⟨rfl, rfl⟩))
    (fun os started H enc _ => lifted os started H enc)

/-- the statement -/
theorem proved : Rows.FnTextsSaid := over
#print axioms proved
end Go.Proofs.Ytallaohjlncajaa.fnTexts
