import Derived.Test.YtngobmjdbjlkcaaDrB
/- Two drawn types for a unifier, over the second engine. -/
namespace Go.Proofs.Ytngobmjdbjlkcaa
set_option linter.unusedVariables false
set_option linter.unusedSimpArgs false
open Go.RowKit
def PairU (r : D) : Prop := ∃ xs ys : List TyI, r = .tup [.ag [.sl 3 (xs.map TyI.enc)], .ag [.sl 3 (ys.map TyI.enc)]] ∧ xs.length ≤ 200000 ∧ ys.length ≤ 200000 ∧ (∀ x ∈ xs, x.ok) ∧ (∀ y ∈ ys, y.ok)
set_option maxRecDepth 100000 in
set_option maxHeartbeats 8000000 in
theorem c_DrawUnify (zs : List UInt8) : FCon Try.prog 43 [.sl 1 (zs.map u8E)] (fun r _ => PairU r) := by
  refine (FCon.frz (Rs := fun r _ => PairU (frA r)) ?_).mono (fun r o ⟨r0, h1, h2⟩ => by rw [h2]; exact h1)
  refine FCon.intro PM _ Try.func43 (by kernel_rfl) rfl _ Try.ntmps43 rfl [(12, 5, [], [], (lin [] [0, 1, 2, 3, 4])), (13, 3, [2], [(2, 1)], (lin [2] [0, 1, 2]))] (by decide +kernel) (by simp) (by simp) rfl (by first | rfl | simp only [go_sem]) ?_
  iterate 3 (refine AC_go ?_; simp only [go_sem, simprocAttr]; (have hWf := f0; repeat' (first | refine zY ?_ | with_reducible apply And.intro | ((with_reducible apply q_CallG); refine CallG_mk (c_l01New zs) ?_; rintro _ _ ⟨h, rfl⟩) | ((with_reducible apply q_CallQ); refine CallQ_mk (c_l01New zs) ?_) | ((with_reducible apply q_CallG); refine CallG_mk (c_l05Two ⟨zs, 0, h⟩) ?_; rintro _ _ ⟨⟨xs, ys, rfl, hx, hy, ox, oy⟩, c, rfl⟩) | ((with_reducible apply q_CallQ); refine CallQ_mk (c_l05Two ⟨zs, 0, h⟩) ?_) | ((with_reducible intro hb0); revert hb0; with_reducible first | exact zB0 | refine zB fun hb => ?_ | fail) | ((with_reducible apply q_Meet); exact zM) | exact zC | refine zT ?_ | fail)))
  obtain ⟨k, c1, k0, k1, B⟩ := below_eq' c (n := 30) (by omega) (by omega)
  by_cases hk : k = 0
  · subst hk
    (have hWf := WFx.mk @TyI.frzS; repeat' (first | refine zS ?_ | exact zE | with_reducible apply And.intro | ((with_reducible apply q_CallG); refine CallG_mk (B) ?_; rintro _ _ ⟨rfl, rfl⟩) | ((with_reducible apply q_CallQ); refine CallQ_mk (B) ?_) | ((with_reducible intro hb0); revert hb0; with_reducible first | exact zB0 | refine zB fun hb => ?_ | fail) | ((with_reducible apply q_Meet); exact zM) | exact zC | refine zT ?_ | fail))
    refine ACL_ac (AC_fr 21 (.arr 31 3 [[.s (.int .i64 0), .s (.string ⟨#[]⟩), .s (.int .i64 0)]]) (by simp only [go_sem, simprocAttr]) rfl (AC_go ?_))
    simp only [go_sem, simprocAttr]
    refine AC_loop (fun n σ => ∃ (c' : Cur) (j : Nat) (xs ys : List TyI), j ≤ 9 ∧ n = 9 - j ∧ xs.length ≤ 2 * j + 1 ∧ ys.length ≤ 4 * j + 1 ∧ (∀ x ∈ xs, x.ok) ∧ (∀ y ∈ ys, y.ok) ∧ σ.t 2 = .bx 2 0 ∧ σ.b 2 = some (.box [.nil]) ∧ σ.t 3 = .bx 3 0 ∧ σ.b 3 = some (.box [.nil]) ∧ σ.t 4 = .bx 1011 0 ∧ σ.b 1011 = some (.box [.sl 1 (c'.zs.map u8E), .s (.int .i64 c'.k), .s (.int .i64 c'.h)]) ∧ σ.t 5 = .bx 5 0 ∧ σ.t 6 = .bx 6 0 ∧ σ.t 7 = .s (.int .i64 ((j + 1 : Nat) : Int)) ∧
      ((σ.b 5 = some (.box [.sl 3 (xs.map TyI.enc)]) ∧ σ.b 6 = some (.box [.sl 3 (ys.map TyI.enc)])) ∨ (σ.b 5 = some (.box [.bs 1043 3 xs.length]) ∧ σ.b 6 = some (.box [.bs 1050 3 ys.length]) ∧ σ.b 1043 = some (.arr 31 3 (xs.map TyI.own)) ∧ σ.b 1050 = some (.arr 31 3 (ys.map TyI.own))))) 9 ⟨c1, 0, [⟨0, ⟨#[]⟩, 0⟩], [⟨0, ⟨#[]⟩, 0⟩], by omega, rfl, by simp, by simp, by simp; exact ok_var (by omega) (by omega), by simp; exact ok_var (by omega) (by omega), ?_⟩ ?_
    · simp only [go_sem, simprocAttr, TyI.enc_eq]
      all_goals trace_state
    · rintro n σ ⟨c', j, xs, ys, hj, rfl, hx, hy, ox, oy, h2, hb2, h3, hb3, h4, hb4, h5, h6, h7, hbb⟩ K' hK
      obtain ⟨v, c5, v0, v1, B5⟩ := below_eq' c' (n := 3) (by omega) (by omega)
      by_cases hlt : ((j + 1 : Nat) : Int) < 8 + v
      · have e1 : decide (((j + 1 : Nat) : Int) < 8 + v) = true := by simpa using hlt
        have hN1 := c_l03Named starB [⟨xs⟩, ⟨[⟨((j + 1 : Nat) : Int), ⟨#[]⟩, 0⟩]⟩] (by simp) (by simp; omega)
        have hN2 := c_l03Named starB [⟨[⟨((j + 1 : Nat) : Int) - 1, ⟨#[]⟩, 0⟩]⟩, ⟨[⟨((j + 1 : Nat) : Int) - 1, ⟨#[]⟩, 0⟩]⟩] (by simp) (by simp)
        have hN3 := c_l03Named starB [⟨ys⟩, ⟨namedM starB [⟨[⟨((j + 1 : Nat) : Int) - 1, ⟨#[]⟩, 0⟩]⟩, ⟨[⟨((j + 1 : Nat) : Int) - 1, ⟨#[]⟩, 0⟩]⟩]⟩] (by simp) (by simp [namedM]; omega)
        rcases hbb with ⟨hb5, hb6⟩ | ⟨hb5, hb6, hb7, hb8⟩
        · iterate 6 (refine AC_go ?_; simp only [go_sem, simprocAttr, h2, hb2, h3, hb3, h4, hb4, h5, h6, h7, hb5, hb6, e1, TyI.frzS]; (have hWf := WFx.mk (And.intro @h2 <| And.intro @hb2 <| And.intro @h3 <| And.intro @hb3 <| And.intro @h4 <| And.intro @hb4 <| And.intro @h5 <| And.intro @h6 <| And.intro @h7 <| And.intro @hb5 <| And.intro @hb6 <| And.intro @e1 <| @TyI.frzS); repeat' (first | refine zY ?_ | with_reducible apply And.intro | ((with_reducible apply q_CallG); refine CallG_mk (B5) ?_; rintro _ _ ⟨rfl, rfl⟩) | ((with_reducible apply q_CallQ); refine CallQ_mk (B5) ?_) | refine zK (hN1) ?_ | refine zK (hN2) ?_ | refine zK (hN3) ?_ | ((with_reducible intro hb0); revert hb0; with_reducible first | exact zB0 | refine zB fun hb => ?_ | fail) | ((with_reducible apply q_Meet); exact zM) | exact zC | refine zT ?_ | fail)))
          refine AC_fr 38 (.arr 31 3 [[.s (.int .i64 (((j + 1 : Nat) : Int) - 1)), .s (.string ⟨#[]⟩), .s (.int .i64 0)]]) (by simp only [go_sem, simprocAttr]) rfl ?_
          (have hWf := WFx.mk (And.intro @h2 <| And.intro @hb2 <| And.intro @h3 <| And.intro @hb3 <| And.intro @h4 <| And.intro @hb4 <| And.intro @h5 <| And.intro @h6 <| And.intro @h7 <| And.intro @hb5 <| And.intro @hb6 <| And.intro @e1 <| @TyI.frzS); repeat' (first | refine zS ?_ | exact zE | with_reducible apply And.intro | ((with_reducible apply q_CallG); refine CallG_mk (B5) ?_; rintro _ _ ⟨rfl, rfl⟩) | ((with_reducible apply q_CallQ); refine CallQ_mk (B5) ?_) | refine zK (hN1) ?_ | refine zK (hN2) ?_ | refine zK (hN3) ?_ | ((with_reducible intro hb0); revert hb0; with_reducible first | exact zB0 | refine zB fun hb => ?_ | fail) | ((with_reducible apply q_Meet); exact zM) | exact zC | refine zT ?_ | fail))
          refine hK (9 - (j + 1)) _ (by omega) ⟨c5, j + 1, namedM starB [⟨xs⟩, ⟨[⟨((j + 1 : Nat) : Int), ⟨#[]⟩, 0⟩]⟩], namedM starB [⟨ys⟩, ⟨namedM starB [⟨[⟨((j + 1 : Nat) : Int) - 1, ⟨#[]⟩, 0⟩]⟩, ⟨[⟨((j + 1 : Nat) : Int) - 1, ⟨#[]⟩, 0⟩]⟩]⟩], by omega, by omega, by simp [namedM]; omega, by simp [namedM]; omega, named_ok (by decide) (by simp) (by simp; exact ⟨ox, ok_var (by omega) (by omega)⟩), named_ok (by decide) (by simp) (by
            intro t ht
            simp only [List.mem_cons, List.not_mem_nil, or_false] at ht
            rcases ht with rfl | rfl
            · exact oy
            · exact named_ok (by decide) (by simp) (by simp; exact ok_var (by omega) (by omega))), ?_⟩
          simp only [go_sem, simprocAttr, h2, hb2, h3, hb3, h4, hb4, h5, h6, h7, Int.natCast_succ]
          all_goals trace_state
        · iterate 6 (refine AC_go ?_; simp only [go_sem, simprocAttr, h2, hb2, h3, hb3, h4, hb4, h5, h6, h7, hb5, hb6, hb7, hb8, e1, TyI.frzS]; (have hWf := WFx.mk (And.intro @h2 <| And.intro @hb2 <| And.intro @h3 <| And.intro @hb3 <| And.intro @h4 <| And.intro @hb4 <| And.intro @h5 <| And.intro @h6 <| And.intro @h7 <| And.intro @hb5 <| And.intro @hb6 <| And.intro @hb7 <| And.intro @hb8 <| And.intro @e1 <| @TyI.frzS); repeat' (first | refine zY ?_ | with_reducible apply And.intro | ((with_reducible apply q_CallG); refine CallG_mk (B5) ?_; rintro _ _ ⟨rfl, rfl⟩) | ((with_reducible apply q_CallQ); refine CallQ_mk (B5) ?_) | refine zK (hN1) ?_ | refine zK (hN2) ?_ | refine zK (hN3) ?_ | ((with_reducible intro hb0); revert hb0; with_reducible first | exact zB0 | refine zB fun hb => ?_ | fail) | ((with_reducible apply q_Meet); exact zM) | exact zC | refine zT ?_ | fail)))
          refine AC_fr 38 (.arr 31 3 [[.s (.int .i64 (((j + 1 : Nat) : Int) - 1)), .s (.string ⟨#[]⟩), .s (.int .i64 0)]]) (by simp only [go_sem, simprocAttr]) rfl ?_
          (have hWf := WFx.mk (And.intro @h2 <| And.intro @hb2 <| And.intro @h3 <| And.intro @hb3 <| And.intro @h4 <| And.intro @hb4 <| And.intro @h5 <| And.intro @h6 <| And.intro @h7 <| And.intro @hb5 <| And.intro @hb6 <| And.intro @hb7 <| And.intro @hb8 <| And.intro @e1 <| @TyI.frzS); repeat' (first | refine zS ?_ | exact zE | with_reducible apply And.intro | ((with_reducible apply q_CallG); refine CallG_mk (B5) ?_; rintro _ _ ⟨rfl, rfl⟩) | ((with_reducible apply q_CallQ); refine CallQ_mk (B5) ?_) | refine zK (hN1) ?_ | refine zK (hN2) ?_ | refine zK (hN3) ?_ | ((with_reducible intro hb0); revert hb0; with_reducible first | exact zB0 | refine zB fun hb => ?_ | fail) | ((with_reducible apply q_Meet); exact zM) | exact zC | refine zT ?_ | fail))
          refine hK (9 - (j + 1)) _ (by omega) ⟨c5, j + 1, namedM starB [⟨xs⟩, ⟨[⟨((j + 1 : Nat) : Int), ⟨#[]⟩, 0⟩]⟩], namedM starB [⟨ys⟩, ⟨namedM starB [⟨[⟨((j + 1 : Nat) : Int) - 1, ⟨#[]⟩, 0⟩]⟩, ⟨[⟨((j + 1 : Nat) : Int) - 1, ⟨#[]⟩, 0⟩]⟩]⟩], by omega, by omega, by simp [namedM]; omega, by simp [namedM]; omega, named_ok (by decide) (by simp) (by simp; exact ⟨ox, ok_var (by omega) (by omega)⟩), named_ok (by decide) (by simp) (by
            intro t ht
            simp only [List.mem_cons, List.not_mem_nil, or_false] at ht
            rcases ht with rfl | rfl
            · exact oy
            · exact named_ok (by decide) (by simp) (by simp; exact ok_var (by omega) (by omega))), ?_⟩
          simp only [go_sem, simprocAttr, h2, hb2, h3, hb3, h4, hb4, h5, h6, h7, Int.natCast_succ]
          all_goals trace_state
      · have e1 : decide (((j + 1 : Nat) : Int) < 8 + v) = false := by simpa using hlt
        rcases hbb with ⟨hb5, hb6⟩ | ⟨hb5, hb6, hb7, hb8⟩
        · (have hWf := WFx.mk (And.intro @h2 <| And.intro @hb2 <| And.intro @h3 <| And.intro @hb3 <| And.intro @h4 <| And.intro @hb4 <| And.intro @h5 <| And.intro @h6 <| And.intro @h7 <| And.intro @hb5 <| And.intro @hb6 <| And.intro @e1 <| @TyI.frzS); repeat' (first | refine zS ?_ | exact zE | with_reducible apply And.intro | ((with_reducible apply q_CallG); refine CallG_mk (B5) ?_; rintro _ _ ⟨rfl, rfl⟩) | ((with_reducible apply q_CallQ); refine CallQ_mk (B5) ?_) | ((with_reducible intro hb0); revert hb0; with_reducible first | exact zB0 | refine zB fun hb => ?_ | fail) | ((with_reducible apply q_Meet); exact zM) | exact zC | refine zT ?_ | fail))
          all_goals exact ⟨xs, ys, rfl, by omega, by omega, ox, oy⟩
        · (have hWf := WFx.mk (And.intro @h2 <| And.intro @hb2 <| And.intro @h3 <| And.intro @hb3 <| And.intro @h4 <| And.intro @hb4 <| And.intro @h5 <| And.intro @h6 <| And.intro @h7 <| And.intro @hb5 <| And.intro @hb6 <| And.intro @hb7 <| And.intro @hb8 <| And.intro @e1 <| @TyI.frzS); repeat' (first | refine zS ?_ | exact zE | with_reducible apply And.intro | ((with_reducible apply q_CallG); refine CallG_mk (B5) ?_; rintro _ _ ⟨rfl, rfl⟩) | ((with_reducible apply q_CallQ); refine CallQ_mk (B5) ?_) | ((with_reducible intro hb0); revert hb0; with_reducible first | exact zB0 | refine zB fun hb => ?_ | fail) | ((with_reducible apply q_Meet); exact zM) | exact zC | refine zT ?_ | fail))
          all_goals exact ⟨xs, ys, rfl, by omega, by omega, ox, oy⟩
  · have e1 : (k == 0) = false := by simpa using hk
    (have hWf := WFx.mk (And.intro @e1 <| @TyI.frzS); repeat' (first | refine zS ?_ | exact zE | with_reducible apply And.intro | ((with_reducible apply q_CallG); refine CallG_mk (B) ?_; rintro _ _ ⟨rfl, rfl⟩) | ((with_reducible apply q_CallQ); refine CallQ_mk (B) ?_) | ((with_reducible intro hb0); revert hb0; with_reducible first | exact zB0 | refine zB fun hb => ?_ | fail) | ((with_reducible apply q_Meet); exact zM) | exact zC | refine zT ?_ | fail))
    all_goals exact ⟨xs, ys, rfl, by omega, by omega, ox, oy⟩
end Go.Proofs.Ytngobmjdbjlkcaa
