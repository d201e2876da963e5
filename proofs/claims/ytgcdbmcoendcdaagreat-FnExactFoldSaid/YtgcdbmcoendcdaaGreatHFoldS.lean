import Derived.Test.YtgcdbmcoendcdaaGreatHFoldJ
/- Folding in the reference, over the second engine: constants. -/
set_option maxRecDepth 100000
set_option maxHeartbeats 4000000
namespace Go.Proofs.YtgcdbmcoendcdaaGreat
set_option linter.unusedVariables false
set_option linter.unusedSimpArgs false
open Go.RowKit Arb
def mD (st n : Int) : List D := [.nil, .nil, .nil, .s (.int .i64 0), .s (.int .i64 0), .nil, .nil, .s (.int .i64 st), .s (.int .i64 n)]
theorem mD_eq (st n : Int) : mD st n = [.nil, .nil, .nil, .s (.int .i64 0), .s (.int .i64 0), .nil, .nil, .s (.int .i64 st), .s (.int .i64 n)] := rfl
def vD (k n : Int) (s : ByteArray) : List D := [.s (.int .i64 k), .s (.int .i64 n), .s (.string s), .nil, .nil]
theorem vD_eq (k n : Int) (s : ByteArray) : vD k n s = [.s (.int .i64 k), .s (.int .i64 n), .s (.string s), .nil, .nil] := rfl
theorem c_l08Stop (k n : Int) : FCon Tryz.prog 211 [.opt (mD 0 0), .s (.int .i64 k), .s (.int .i64 n)] (fun r o => r = .tup [.ag (vD 0 0 noS), .s (.bool false)] ∧ o = [.opt (mD k n), .un, .un]) := by
  refine FCon.intro PM _ Tryz.func211 (by kernel_rfl) rfl _ Tryz.ntmps211 rfl [] (by decide +kernel) (by simp) (by simp) rfl (by first | rfl | simp only [go_sem]) ?_
  (have hWf := WFx.mk (ai @mD_eq <| @vD_eq); repeat' (first | refine zS ?_ | exact zE | with_reducible apply And.intro | with_reducible exact zB0 | with_reducible refine zB fun hb => ?_ | exact zC | refine zT ?_ | fail))
  all_goals rfl
theorem c_l08Bool (b : Bool) : FCon Tryz.prog 217 [.s (.bool b)] (fun r _ => r = .ag (vD 4 0 (if b then trueS else falseS))) := by
  cases b with
  | true =>
    refine FCon.intro PM _ Tryz.func217 (by kernel_rfl) rfl _ Tryz.ntmps217 rfl [] (by decide +kernel) (by simp) (by simp) rfl (by first | rfl | simp only [go_sem]) ?_
    (have hWf := WFx.mk @vD_eq; repeat' (first | refine zS ?_ | exact zE | with_reducible apply And.intro | with_reducible exact zB0 | with_reducible refine zB fun hb => ?_ | exact zC | refine zT ?_ | fail))
    all_goals rfl
  | false =>
    refine FCon.intro PM _ Tryz.func217 (by kernel_rfl) rfl _ Tryz.ntmps217 rfl [] (by decide +kernel) (by simp) (by simp) rfl (by first | rfl | simp only [go_sem]) ?_
    (have hWf := WFx.mk @vD_eq; repeat' (first | refine zS ?_ | exact zE | with_reducible apply And.intro | with_reducible exact zB0 | with_reducible refine zB fun hb => ?_ | exact zC | refine zT ?_ | fail))
    all_goals rfl
def pvA : Option (Int × Bool) → D
  | some (v, true) => .tup [.ag (vD 4 0 (if v = 1 then trueS else falseS)), .s (.bool true)]
  | some (v, false) => .tup [.ag (vD 1 v noS), .s (.bool true)]
  | none => .tup [.ag (vD 0 0 noS), .s (.bool false)]
def pvM : Option (Int × Bool) → D
  | some _ => .opt (mD 0 0)
  | none => .opt (mD 2 (-2))
theorem boolS {p : Prop} [Decidable p] {b : Bool} (h : b = decide p) : (if b = true then trueS else falseS) = if (if p then (1 : Int) else 0) = 1 then trueS else falseS := by
  subst h; by_cases q : p <;> simp [q]
theorem c_l08Prim (s : ByteArray) (hp : primM s = true) (h94 : ¬ s.toList = [94]) (m n : Int) : FCon Tryz.prog 155 [.opt (mD 0 0), .s (.string s), .ag (vD 1 m noS), .ag (vD 1 n noS)] (fun r o => r = pvA (primI s m n) ∧ o = [pvM (primI s m n), .un, .un, .un]) := by
  have hst := c_l08Stop 2 (-2)
  rw [mD_eq, vD_eq] at hst
  have g94 := lF h94
  by_cases h1 : s.toList = [43]
  · rw [show primI s m n = some (wrap63 (m + n), false) by unfold primI; rw [if_pos h1]]
    refine FCon.intro PM _ Tryz.func155 (by kernel_rfl) rfl _ Tryz.ntmps155 rfl [] (by decide +kernel) (by simp) (by simp) rfl (by first | rfl | simp only [go_sem]) ?_
    (have hWf := WFx.mk (ai @mD_eq <| ai @vD_eq <| ai @g94 <| ai (lT h1) <| ai @t94 <| @t43); repeat' (first | refine zS ?_ | exact zE | with_reducible apply And.intro | refine zK (c_sAddW m n) ?_ | with_reducible exact zB0 | with_reducible refine zB fun hb => ?_ | exact zC | refine zT ?_ | fail))
    all_goals rfl
  have g1 := lF h1
  by_cases h2 : s.toList = [45]
  · rw [show primI s m n = some (wrap63 (m - n), false) by unfold primI; rw [if_neg h1, if_pos h2]]
    refine FCon.intro PM _ Tryz.func155 (by kernel_rfl) rfl _ Tryz.ntmps155 rfl [] (by decide +kernel) (by simp) (by simp) rfl (by first | rfl | simp only [go_sem]) ?_
    (have hWf := WFx.mk (ai @mD_eq <| ai @vD_eq <| ai @g94 <| ai @g1 <| ai (lT h2) <| ai @t94 <| ai @t43 <| @t45); repeat' (first | refine zS ?_ | exact zE | with_reducible apply And.intro | refine zK (c_sSubW m n) ?_ | with_reducible exact zB0 | with_reducible refine zB fun hb => ?_ | exact zC | refine zT ?_ | fail))
    all_goals rfl
  have g2 := lF h2
  by_cases h3 : s.toList = [42]
  · rw [show primI s m n = some (wrap63 (m * n), false) by unfold primI; rw [if_neg h1, if_neg h2, if_pos h3]]
    refine FCon.intro PM _ Tryz.func155 (by kernel_rfl) rfl _ Tryz.ntmps155 rfl [] (by decide +kernel) (by simp) (by simp) rfl (by first | rfl | simp only [go_sem]) ?_
    (have hWf := WFx.mk (ai @mD_eq <| ai @vD_eq <| ai @g94 <| ai @g1 <| ai @g2 <| ai (lT h3) <| ai @t94 <| ai @t43 <| ai @t45 <| @t42); repeat' (first | refine zS ?_ | exact zE | with_reducible apply And.intro | refine zK (c_sMulW m n) ?_ | with_reducible exact zB0 | with_reducible refine zB fun hb => ?_ | exact zC | refine zT ?_ | fail))
    all_goals rfl
  have g3 := lF h3
  by_cases h4 : s.toList = [47]
  · have hd := c_sDivW m n
    unfold divQ at hd
    cases hz : (wrap63 n == 0) with
    | true =>
      rw [show primI s m n = none by unfold primI; rw [if_neg h1, if_neg h2, if_neg h3, if_pos h4, hz, if_pos rfl]]
      rw [hz, if_pos rfl] at hd
      refine FCon.intro PM _ Tryz.func155 (by kernel_rfl) rfl _ Tryz.ntmps155 rfl [] (by decide +kernel) (by simp) (by simp) rfl (by first | rfl | simp only [go_sem]) ?_
      (have hWf := WFx.mk (ai @mD_eq <| ai @vD_eq <| ai @g94 <| ai @g1 <| ai @g2 <| ai @g3 <| ai (lT h4) <| ai @t94 <| ai @t43 <| ai @t45 <| ai @t42 <| @t47); repeat' (first | refine zS ?_ | exact zE | with_reducible apply And.intro | refine zK (hd) ?_ | refine zH hst ?_ | with_reducible exact zB0 | with_reducible refine zB fun hb => ?_ | exact zC | refine zT ?_ | fail))
      all_goals rfl
    | false =>
      rw [show primI s m n = some (wrap63 ((wrap63 m).tdiv (wrap63 n)), false) by unfold primI; rw [if_neg h1, if_neg h2, if_neg h3, if_pos h4, hz, if_neg (by decide)]]
      rw [hz, if_neg (by decide)] at hd
      refine FCon.intro PM _ Tryz.func155 (by kernel_rfl) rfl _ Tryz.ntmps155 rfl [] (by decide +kernel) (by simp) (by simp) rfl (by first | rfl | simp only [go_sem]) ?_
      (have hWf := WFx.mk (ai @mD_eq <| ai @vD_eq <| ai @g94 <| ai @g1 <| ai @g2 <| ai @g3 <| ai (lT h4) <| ai @t94 <| ai @t43 <| ai @t45 <| ai @t42 <| @t47); repeat' (first | refine zS ?_ | exact zE | with_reducible apply And.intro | refine zK (hd) ?_ | refine zH hst ?_ | with_reducible exact zB0 | with_reducible refine zB fun hb => ?_ | exact zC | refine zT ?_ | fail))
      all_goals rfl
  have g4 := lF h4
  by_cases h5 : s.toList = [37]
  · have hd := c_sRemW m n
    unfold remQ at hd
    cases hz : (wrap63 n == 0) with
    | true =>
      rw [show primI s m n = none by unfold primI; rw [if_neg h1, if_neg h2, if_neg h3, if_neg h4, if_pos h5, hz, if_pos rfl]]
      rw [hz, if_pos rfl] at hd
      refine FCon.intro PM _ Tryz.func155 (by kernel_rfl) rfl _ Tryz.ntmps155 rfl [] (by decide +kernel) (by simp) (by simp) rfl (by first | rfl | simp only [go_sem]) ?_
      (have hWf := WFx.mk (ai @mD_eq <| ai @vD_eq <| ai @g94 <| ai @g1 <| ai @g2 <| ai @g3 <| ai @g4 <| ai (lT h5) <| ai @t94 <| ai @t43 <| ai @t45 <| ai @t42 <| ai @t47 <| @t37); repeat' (first | refine zS ?_ | exact zE | with_reducible apply And.intro | refine zK (hd) ?_ | refine zH hst ?_ | with_reducible exact zB0 | with_reducible refine zB fun hb => ?_ | exact zC | refine zT ?_ | fail))
      all_goals rfl
    | false =>
      rw [show primI s m n = some ((wrap63 m).tmod (wrap63 n), false) by unfold primI; rw [if_neg h1, if_neg h2, if_neg h3, if_neg h4, if_pos h5, hz, if_neg (by decide)]]
      rw [hz, if_neg (by decide)] at hd
      refine FCon.intro PM _ Tryz.func155 (by kernel_rfl) rfl _ Tryz.ntmps155 rfl [] (by decide +kernel) (by simp) (by simp) rfl (by first | rfl | simp only [go_sem]) ?_
      (have hWf := WFx.mk (ai @mD_eq <| ai @vD_eq <| ai @g94 <| ai @g1 <| ai @g2 <| ai @g3 <| ai @g4 <| ai (lT h5) <| ai @t94 <| ai @t43 <| ai @t45 <| ai @t42 <| ai @t47 <| @t37); repeat' (first | refine zS ?_ | exact zE | with_reducible apply And.intro | refine zK (hd) ?_ | refine zH hst ?_ | with_reducible exact zB0 | with_reducible refine zB fun hb => ?_ | exact zC | refine zT ?_ | fail))
      all_goals rfl
  have g5 := lF h5
  by_cases h6 : s.toList = [61]
  · rw [show primI s m n = some (if m = n then 1 else 0, true) by unfold primI; rw [if_neg h1, if_neg h2, if_neg h3, if_neg h4, if_neg h5, if_pos h6]]
    have hc := c_l08Bool (m == n)
    rw [boolS (p := m = n) (by rw [Bool.eq_iff_iff]; simp), vD_eq] at hc
    refine FCon.intro PM _ Tryz.func155 (by kernel_rfl) rfl _ Tryz.ntmps155 rfl [] (by decide +kernel) (by simp) (by simp) rfl (by first | rfl | simp only [go_sem]) ?_
    (have hWf := WFx.mk (ai @mD_eq <| ai @vD_eq <| ai @g94 <| ai @g1 <| ai @g2 <| ai @g3 <| ai @g4 <| ai @g5 <| ai (lT h6) <| ai @t94 <| ai @t43 <| ai @t45 <| ai @t42 <| ai @t47 <| ai @t37 <| @t61); repeat' (first | refine zS ?_ | exact zE | with_reducible apply And.intro | refine zK (hc) ?_ | with_reducible exact zB0 | with_reducible refine zB fun hb => ?_ | exact zC | refine zT ?_ | fail))
    all_goals rfl
  have g6 := lF h6
  by_cases h7 : s.toList = [60, 62]
  · rw [show primI s m n = some (if m = n then 0 else 1, true) by unfold primI; rw [if_neg h1, if_neg h2, if_neg h3, if_neg h4, if_neg h5, if_neg h6, if_pos h7]]
    have hc := c_l08Bool (m != n)
    rw [show (if (m != n) = true then trueS else falseS) = if (if m = n then (0 : Int) else 1) = 1 then trueS else falseS by by_cases q : m = n <;> simp [q], vD_eq] at hc
    refine FCon.intro PM _ Tryz.func155 (by kernel_rfl) rfl _ Tryz.ntmps155 rfl [] (by decide +kernel) (by simp) (by simp) rfl (by first | rfl | simp only [go_sem]) ?_
    (have hWf := WFx.mk (ai @mD_eq <| ai @vD_eq <| ai @g94 <| ai @g1 <| ai @g2 <| ai @g3 <| ai @g4 <| ai @g5 <| ai @g6 <| ai (lT h7) <| ai @t94 <| ai @t43 <| ai @t45 <| ai @t42 <| ai @t47 <| ai @t37 <| ai @t61 <| @t6062); repeat' (first | refine zS ?_ | exact zE | with_reducible apply And.intro | refine zK (hc) ?_ | with_reducible exact zB0 | with_reducible refine zB fun hb => ?_ | exact zC | refine zT ?_ | fail))
    all_goals rfl
  have g7 := lF h7
  by_cases h8 : s.toList = [60]
  · rw [show primI s m n = some (if m < n then 1 else 0, true) by unfold primI; rw [if_neg h1, if_neg h2, if_neg h3, if_neg h4, if_neg h5, if_neg h6, if_neg h7, if_pos h8]]
    have hc := c_l08Bool (decide (m < n))
    rw [boolS (p := m < n) rfl, vD_eq] at hc
    refine FCon.intro PM _ Tryz.func155 (by kernel_rfl) rfl _ Tryz.ntmps155 rfl [] (by decide +kernel) (by simp) (by simp) rfl (by first | rfl | simp only [go_sem]) ?_
    (have hWf := WFx.mk (ai @mD_eq <| ai @vD_eq <| ai @g94 <| ai @g1 <| ai @g2 <| ai @g3 <| ai @g4 <| ai @g5 <| ai @g6 <| ai @g7 <| ai (lT h8) <| ai @t94 <| ai @t43 <| ai @t45 <| ai @t42 <| ai @t47 <| ai @t37 <| ai @t61 <| ai @t6062 <| @t60); repeat' (first | refine zS ?_ | exact zE | with_reducible apply And.intro | refine zK (hc) ?_ | with_reducible exact zB0 | with_reducible refine zB fun hb => ?_ | exact zC | refine zT ?_ | fail))
    all_goals rfl
  have g8 := lF h8
  have h9 : s.toList = [60, 61] := by
    unfold primM primL at hp
    simp only [List.any_cons, List.any_nil, Bool.or_false, Bool.or_eq_true, beq_iff_eq] at hp
    rcases hp with q | q | q | q | q | q | q | q | q | q
    · exact absurd q h1
    · exact absurd q h2
    · exact absurd q h3
    · exact absurd q h4
    · exact absurd q h5
    · exact absurd q h94
    · exact absurd q h6
    · exact absurd q h7
    · exact absurd q h8
    · exact q
  rw [show primI s m n = some (if m ≤ n then 1 else 0, true) by unfold primI; rw [if_neg h1, if_neg h2, if_neg h3, if_neg h4, if_neg h5, if_neg h6, if_neg h7, if_neg h8]]
  have hc := c_l08Bool (decide (m ≤ n))
  rw [boolS (p := m ≤ n) rfl, vD_eq] at hc
  refine FCon.intro PM _ Tryz.func155 (by kernel_rfl) rfl _ Tryz.ntmps155 rfl [] (by decide +kernel) (by simp) (by simp) rfl (by first | rfl | simp only [go_sem]) ?_
  (have hWf := WFx.mk (ai @mD_eq <| ai @vD_eq <| ai @g94 <| ai @g1 <| ai @g2 <| ai @g3 <| ai @g4 <| ai @g5 <| ai @g6 <| ai @g7 <| ai @g8 <| ai (lT h9) <| ai @t94 <| ai @t43 <| ai @t45 <| ai @t42 <| ai @t47 <| ai @t37 <| ai @t61 <| ai @t6062 <| ai @t60 <| @t6061); repeat' (first | refine zS ?_ | exact zE | with_reducible apply And.intro | refine zK (hc) ?_ | with_reducible exact zB0 | with_reducible refine zB fun hb => ?_ | exact zC | refine zT ?_ | fail))
  all_goals rfl
end Go.Proofs.YtgcdbmcoendcdaaGreat
