import Derived.Test.YtgcdbmcoendcdaaGreatHFoldI
/- Folding in the program, over the second engine: the rule, the rewriting. -/
set_option maxRecDepth 100000
set_option maxHeartbeats 4000000
namespace Go.Proofs.YtgcdbmcoendcdaaGreat
set_option linter.unusedVariables false
set_option linter.unusedSimpArgs false
open Go.RowKit Arb
def primR (s : ByteArray) (m n : Int) : Int × Bool × Bool := match primI s m n with
  | some (v, t) => (v, t, true)
  | none => (0, false, false)
theorem c_truth (b : Bool) : FCon Tryz.prog 222 [.s (.bool b)] (fun r _ => r = .tup [.s (.int .i64 (if b then 1 else 0)), .s (.bool true), .s (.bool true)]) := by
  cases b with
  | true =>
    refine FCon.intro PM _ Tryz.func222 (by kernel_rfl) rfl _ Tryz.ntmps222 rfl [] (by decide +kernel) (by simp) (by simp) rfl (by first | rfl | simp only [go_sem]) ?_
    (have hWf := f0; repeat' (first | refine zS ?_ | exact zE | with_reducible apply And.intro | with_reducible exact zB0 | with_reducible refine zB fun hb => ?_ | exact zC | refine zT ?_ | fail))
  | false =>
    refine FCon.intro PM _ Tryz.func222 (by kernel_rfl) rfl _ Tryz.ntmps222 rfl [] (by decide +kernel) (by simp) (by simp) rfl (by first | rfl | simp only [go_sem]) ?_
    (have hWf := f0; repeat' (first | refine zS ?_ | exact zE | with_reducible apply And.intro | with_reducible exact zB0 | with_reducible refine zB fun hb => ?_ | exact zC | refine zT ?_ | fail))
def primO : Option (Int × Bool) → Int × Bool × Bool
  | some (v, t) => (v, t, true)
  | none => (0, false, false)
theorem primR_of {s : ByteArray} {m n : Int} {o : Option (Int × Bool)} (h : primI s m n = o) : primR s m n = primO o := by subst h; rfl
theorem ite_dec {p : Prop} [Decidable p] (a b : Int) : (if decide p = true then a else b) = if p then a else b := by simp
theorem t43 : (⟨#[43]⟩ : ByteArray).toList = [43] := by rw [ByteArray.toList_eq]
theorem t45 : (⟨#[45]⟩ : ByteArray).toList = [45] := by rw [ByteArray.toList_eq]
theorem t42 : (⟨#[42]⟩ : ByteArray).toList = [42] := by rw [ByteArray.toList_eq]
theorem t47 : (⟨#[47]⟩ : ByteArray).toList = [47] := by rw [ByteArray.toList_eq]
theorem t37 : (⟨#[37]⟩ : ByteArray).toList = [37] := by rw [ByteArray.toList_eq]
theorem t61 : (⟨#[61]⟩ : ByteArray).toList = [61] := by rw [ByteArray.toList_eq]
theorem t60 : (⟨#[60]⟩ : ByteArray).toList = [60] := by rw [ByteArray.toList_eq]
theorem t6062 : (⟨#[60, 62]⟩ : ByteArray).toList = [60, 62] := by rw [ByteArray.toList_eq]
theorem t6061 : (⟨#[60, 61]⟩ : ByteArray).toList = [60, 61] := by rw [ByteArray.toList_eq]
theorem t94 : (⟨#[94]⟩ : ByteArray).toList = [94] := by rw [ByteArray.toList_eq]
theorem lT {s : ByteArray} {l : List UInt8} (h : s.toList = l) : (s.toList == l) = true := by simpa using h
theorem lF {s : ByteArray} {l : List UInt8} (h : ¬ s.toList = l) : (s.toList == l) = false := by simpa using h
theorem c_prim (s : ByteArray) (m n : Int) : FCon Tryz.prog 163 [.s (.string s), .s (.int .i64 m), .s (.int .i64 n)] (fun r _ => r = .tup [.s (.int .i64 (primR s m n).1), .s (.bool (primR s m n).2.1), .s (.bool (primR s m n).2.2)]) := by
  by_cases h1 : s.toList = [43]
  · rw [primR_of (by unfold primI; rw [if_pos h1])]
    refine FCon.intro PM _ Tryz.func163 (by kernel_rfl) rfl _ Tryz.ntmps163 rfl [] (by decide +kernel) (by simp) (by simp) rfl (by first | rfl | simp only [go_sem]) ?_
    (have hWf := WFx.mk (ai (lT h1) <| @t43); repeat' (first | refine zS ?_ | exact zE | with_reducible apply And.intro | refine zK (c_iAddW m n) ?_ | with_reducible exact zB0 | with_reducible refine zB fun hb => ?_ | exact zC | refine zT ?_ | fail))
    all_goals rfl
  have g1 := lF h1
  by_cases h2 : s.toList = [45]
  · rw [primR_of (by unfold primI; rw [if_neg h1, if_pos h2])]
    refine FCon.intro PM _ Tryz.func163 (by kernel_rfl) rfl _ Tryz.ntmps163 rfl [] (by decide +kernel) (by simp) (by simp) rfl (by first | rfl | simp only [go_sem]) ?_
    (have hWf := WFx.mk (ai @g1 <| ai (lT h2) <| ai @t43 <| @t45); repeat' (first | refine zS ?_ | exact zE | with_reducible apply And.intro | refine zK (c_iSubW m n) ?_ | with_reducible exact zB0 | with_reducible refine zB fun hb => ?_ | exact zC | refine zT ?_ | fail))
    all_goals rfl
  have g2 := lF h2
  by_cases h3 : s.toList = [42]
  · rw [primR_of (by unfold primI; rw [if_neg h1, if_neg h2, if_pos h3])]
    refine FCon.intro PM _ Tryz.func163 (by kernel_rfl) rfl _ Tryz.ntmps163 rfl [] (by decide +kernel) (by simp) (by simp) rfl (by first | rfl | simp only [go_sem]) ?_
    (have hWf := WFx.mk (ai @g1 <| ai @g2 <| ai (lT h3) <| ai @t43 <| ai @t45 <| @t42); repeat' (first | refine zS ?_ | exact zE | with_reducible apply And.intro | refine zK (c_iMulW m n) ?_ | with_reducible exact zB0 | with_reducible refine zB fun hb => ?_ | exact zC | refine zT ?_ | fail))
    all_goals rfl
  have g3 := lF h3
  by_cases h4 : s.toList = [47]
  · have hd := c_iDivW m n
    unfold divQ at hd
    cases hz : (wrap63 n == 0) with
    | true =>
      rw [primR_of (by unfold primI; rw [if_neg h1, if_neg h2, if_neg h3, if_pos h4, hz, if_pos rfl])]
      rw [hz, if_pos rfl] at hd
      refine FCon.intro PM _ Tryz.func163 (by kernel_rfl) rfl _ Tryz.ntmps163 rfl [] (by decide +kernel) (by simp) (by simp) rfl (by first | rfl | simp only [go_sem]) ?_
      (have hWf := WFx.mk (ai @g1 <| ai @g2 <| ai @g3 <| ai (lT h4) <| ai @t43 <| ai @t45 <| ai @t42 <| @t47); repeat' (first | refine zS ?_ | exact zE | with_reducible apply And.intro | refine zK (hd) ?_ | with_reducible exact zB0 | with_reducible refine zB fun hb => ?_ | exact zC | refine zT ?_ | fail))
      all_goals rfl
    | false =>
      rw [primR_of (by unfold primI; rw [if_neg h1, if_neg h2, if_neg h3, if_pos h4, hz, if_neg (by decide)])]
      rw [hz, if_neg (by decide)] at hd
      refine FCon.intro PM _ Tryz.func163 (by kernel_rfl) rfl _ Tryz.ntmps163 rfl [] (by decide +kernel) (by simp) (by simp) rfl (by first | rfl | simp only [go_sem]) ?_
      (have hWf := WFx.mk (ai @g1 <| ai @g2 <| ai @g3 <| ai (lT h4) <| ai @t43 <| ai @t45 <| ai @t42 <| @t47); repeat' (first | refine zS ?_ | exact zE | with_reducible apply And.intro | refine zK (hd) ?_ | with_reducible exact zB0 | with_reducible refine zB fun hb => ?_ | exact zC | refine zT ?_ | fail))
      all_goals rfl
  have g4 := lF h4
  by_cases h5 : s.toList = [37]
  · have hd := c_iRemW m n
    unfold remQ at hd
    cases hz : (wrap63 n == 0) with
    | true =>
      rw [primR_of (by unfold primI; rw [if_neg h1, if_neg h2, if_neg h3, if_neg h4, if_pos h5, hz, if_pos rfl])]
      rw [hz, if_pos rfl] at hd
      refine FCon.intro PM _ Tryz.func163 (by kernel_rfl) rfl _ Tryz.ntmps163 rfl [] (by decide +kernel) (by simp) (by simp) rfl (by first | rfl | simp only [go_sem]) ?_
      (have hWf := WFx.mk (ai @g1 <| ai @g2 <| ai @g3 <| ai @g4 <| ai (lT h5) <| ai @t43 <| ai @t45 <| ai @t42 <| ai @t47 <| @t37); repeat' (first | refine zS ?_ | exact zE | with_reducible apply And.intro | refine zK (hd) ?_ | with_reducible exact zB0 | with_reducible refine zB fun hb => ?_ | exact zC | refine zT ?_ | fail))
      all_goals rfl
    | false =>
      rw [primR_of (by unfold primI; rw [if_neg h1, if_neg h2, if_neg h3, if_neg h4, if_pos h5, hz, if_neg (by decide)])]
      rw [hz, if_neg (by decide)] at hd
      refine FCon.intro PM _ Tryz.func163 (by kernel_rfl) rfl _ Tryz.ntmps163 rfl [] (by decide +kernel) (by simp) (by simp) rfl (by first | rfl | simp only [go_sem]) ?_
      (have hWf := WFx.mk (ai @g1 <| ai @g2 <| ai @g3 <| ai @g4 <| ai (lT h5) <| ai @t43 <| ai @t45 <| ai @t42 <| ai @t47 <| @t37); repeat' (first | refine zS ?_ | exact zE | with_reducible apply And.intro | refine zK (hd) ?_ | with_reducible exact zB0 | with_reducible refine zB fun hb => ?_ | exact zC | refine zT ?_ | fail))
      all_goals rfl
  have g5 := lF h5
  by_cases h6 : s.toList = [61]
  · rw [primR_of (by unfold primI; rw [if_neg h1, if_neg h2, if_neg h3, if_neg h4, if_neg h5, if_pos h6])]
    have hc := c_truth (m == n)
    rw [show (if (m == n) = true then (1 : Int) else 0) = if m = n then 1 else 0 by simp] at hc
    refine FCon.intro PM _ Tryz.func163 (by kernel_rfl) rfl _ Tryz.ntmps163 rfl [] (by decide +kernel) (by simp) (by simp) rfl (by first | rfl | simp only [go_sem]) ?_
    (have hWf := WFx.mk (ai @g1 <| ai @g2 <| ai @g3 <| ai @g4 <| ai @g5 <| ai (lT h6) <| ai @t43 <| ai @t45 <| ai @t42 <| ai @t47 <| ai @t37 <| @t61); repeat' (first | refine zS ?_ | exact zE | with_reducible apply And.intro | refine zK (hc) ?_ | with_reducible exact zB0 | with_reducible refine zB fun hb => ?_ | exact zC | refine zT ?_ | fail))
    all_goals rfl
  have g6 := lF h6
  by_cases h7 : s.toList = [60, 62]
  · rw [primR_of (by unfold primI; rw [if_neg h1, if_neg h2, if_neg h3, if_neg h4, if_neg h5, if_neg h6, if_pos h7])]
    have hc := c_truth (m != n)
    rw [show (if (m != n) = true then (1 : Int) else 0) = if m = n then 0 else 1 by by_cases q : m = n <;> simp [q]] at hc
    refine FCon.intro PM _ Tryz.func163 (by kernel_rfl) rfl _ Tryz.ntmps163 rfl [] (by decide +kernel) (by simp) (by simp) rfl (by first | rfl | simp only [go_sem]) ?_
    (have hWf := WFx.mk (ai @g1 <| ai @g2 <| ai @g3 <| ai @g4 <| ai @g5 <| ai @g6 <| ai (lT h7) <| ai @t43 <| ai @t45 <| ai @t42 <| ai @t47 <| ai @t37 <| ai @t61 <| @t6062); repeat' (first | refine zS ?_ | exact zE | with_reducible apply And.intro | refine zK (hc) ?_ | with_reducible exact zB0 | with_reducible refine zB fun hb => ?_ | exact zC | refine zT ?_ | fail))
    all_goals rfl
  have g7 := lF h7
  by_cases h8 : s.toList = [60]
  · rw [primR_of (by unfold primI; rw [if_neg h1, if_neg h2, if_neg h3, if_neg h4, if_neg h5, if_neg h6, if_neg h7, if_pos h8])]
    have hc := c_truth (decide (m < n))
    rw [ite_dec] at hc
    refine FCon.intro PM _ Tryz.func163 (by kernel_rfl) rfl _ Tryz.ntmps163 rfl [] (by decide +kernel) (by simp) (by simp) rfl (by first | rfl | simp only [go_sem]) ?_
    (have hWf := WFx.mk (ai @g1 <| ai @g2 <| ai @g3 <| ai @g4 <| ai @g5 <| ai @g6 <| ai @g7 <| ai (lT h8) <| ai @t43 <| ai @t45 <| ai @t42 <| ai @t47 <| ai @t37 <| ai @t61 <| ai @t6062 <| @t60); repeat' (first | refine zS ?_ | exact zE | with_reducible apply And.intro | refine zK (hc) ?_ | with_reducible exact zB0 | with_reducible refine zB fun hb => ?_ | exact zC | refine zT ?_ | fail))
    all_goals rfl
  have g8 := lF h8
  rw [primR_of (by unfold primI; rw [if_neg h1, if_neg h2, if_neg h3, if_neg h4, if_neg h5, if_neg h6, if_neg h7, if_neg h8])]
  have hc := c_truth (decide (m ≤ n))
  rw [ite_dec] at hc
  refine FCon.intro PM _ Tryz.func163 (by kernel_rfl) rfl _ Tryz.ntmps163 rfl [] (by decide +kernel) (by simp) (by simp) rfl (by first | rfl | simp only [go_sem]) ?_
  (have hWf := WFx.mk (ai @g1 <| ai @g2 <| ai @g3 <| ai @g4 <| ai @g5 <| ai @g6 <| ai @g7 <| ai @g8 <| ai @t43 <| ai @t45 <| ai @t42 <| ai @t47 <| ai @t37 <| ai @t61 <| ai @t6062 <| @t60); repeat' (first | refine zS ?_ | exact zE | with_reducible apply And.intro | refine zK (hc) ?_ | with_reducible exact zB0 | with_reducible refine zB fun hb => ?_ | exact zC | refine zT ?_ | fail))
  all_goals rfl
theorem c_truthName (n : Int) : FCon Tryz.prog 164 [.s (.int .i64 n)] (fun r _ => r = .s (.string (if n = 1 then trueS else falseS))) := by
  by_cases h : n = 1
  · rw [if_pos h]
    refine FCon.intro PM _ Tryz.func164 (by kernel_rfl) rfl _ Tryz.ntmps164 rfl [] (by decide +kernel) (by simp) (by simp) rfl (by first | rfl | simp only [go_sem]) ?_
    (have hWf := WFx.mk @h; repeat' (first | refine zS ?_ | exact zE | with_reducible apply And.intro | with_reducible exact zB0 | with_reducible refine zB fun hb => ?_ | exact zC | refine zT ?_ | fail))
    rfl
  · rw [if_neg h]
    have f := kindF h
    refine FCon.intro PM _ Tryz.func164 (by kernel_rfl) rfl _ Tryz.ntmps164 rfl [] (by decide +kernel) (by simp) (by simp) rfl (by first | rfl | simp only [go_sem]) ?_
    (have hWf := WFx.mk @f; repeat' (first | refine zS ?_ | exact zE | with_reducible apply And.intro | with_reducible exact zB0 | with_reducible refine zB fun hb => ?_ | exact zC | refine zT ?_ | fail))
    rfl
theorem FCon.leaf {P : Program} {f : FuncId} {args : List D} {d : EI} (hp : d.pats = []) (h : FCon P f args (fun r _ => frA r = .pt [.s (.int .i64 d.kind), .s (.int .i64 d.at_), .s (.int .i64 d.n), .s (.string d.s), .nil, .nil])) : FCon P f args (fun r _ => r = exE (.mk d [])) := by
  refine h.ice.wk fun r o e => ?_
  subst e
  rw [exE_mk, hp]
  refine ⟨_, rfl, fun g w v q => ?_⟩
  have q : Rep g.S g.up w (some (.ans 0 0)) (.pt [.s (.int .i64 d.kind), .s (.int .i64 d.at_), .s (.int .i64 d.n), .s (.string d.s), .nil, .nil]) v := q
  show Rep g.S g.up w (some (.ans 0 0)) (.pt _) v
  cases q with
  | pt us a1 a2 =>
    refine .pt us (fun j y hy => ?_) fun j y hy => ?_
    · match j, hy with
      | 0, hy => exact a1 0 _ rfl
      | 1, hy => exact a1 1 _ rfl
      | 2, hy => exact a1 2 _ rfl
      | 3, hy => exact a1 3 _ rfl
      | 4, hy => exact a1 4 _ rfl
      | 5, hy => exact a1 5 _ rfl
    · match j, hy with
      | 0, hy => exact (by simpa using hy) ▸ a2 0 _ rfl
      | 1, hy => exact (by simpa using hy) ▸ a2 1 _ rfl
      | 2, hy => exact (by simpa using hy) ▸ a2 2 _ rfl
      | 3, hy => exact (by simpa using hy) ▸ a2 3 _ rfl
      | 4, hy => exact (by simpa using hy) ▸ Rep.nil_sl 1 (a2 4 _ rfl)
      | 5, hy => exact (by simpa using hy) ▸ Rep.nil_sl 1 (a2 5 _ rfl)
theorem foldP_94 {a x y : EI} (h : a.s.toList = [94]) : foldP a x y = if x.kind = 2 ∧ y.kind = 2 ∧ x.s.size + y.s.size ≤ 1000 then some ⟨2, a.at_, 0, x.s ++ y.s, []⟩ else none := by unfold foldP; rw [if_pos h]
theorem foldP_no {a x y : EI} (h : ¬ a.s.toList = [94]) : foldP a x y = if x.kind = 1 ∧ y.kind = 1 then
    (match primI a.s x.n y.n with
      | some (v, true) => some ⟨4, a.at_, 0, if v = 1 then trueS else falseS, []⟩
      | some (v, false) => if 0 ≤ v then some ⟨1, a.at_, v, noS, []⟩ else none
      | none => none)
  else none := by unfold foldP; rw [if_neg h]; rfl
def foldPT (a b c : EI) (r1 r2 : List ET) : ET := match foldP a b c with
  | some d => .mk d []
  | none => .mk a [.mk b r1, .mk c r2]
theorem foldPT_some {a b c d : EI} {r1 r2 : List ET} (h : foldP a b c = some d) : foldPT a b c r1 r2 = .mk d [] := by unfold foldPT; rw [h]
theorem foldPT_none {a b c : EI} {r1 r2 : List ET} (h : foldP a b c = none) : foldPT a b c r1 r2 = .mk a [.mk b r1, .mk c r2] := by unfold foldPT; rw [h]
theorem ex2 (a b c : EI) (r1 r2 : List ET) : exE (.mk a [.mk b r1, .mk c r2]) = .pt [.s (.int .i64 a.kind), .s (.int .i64 a.at_), .s (.int .i64 a.n), .s (.string a.s), .sl 1 [[.pt [.s (.int .i64 b.kind), .s (.int .i64 b.at_), .s (.int .i64 b.n), .s (.string b.s), .sl 1 (r1.map exS), .sl 1 (b.pats.map MPat.enc)]], [.pt [.s (.int .i64 c.kind), .s (.int .i64 c.at_), .s (.int .i64 c.n), .s (.string c.s), .sl 1 (r2.map exS), .sl 1 (c.pats.map MPat.enc)]]], .sl 1 (a.pats.map MPat.enc)] := by
  rw [exE_mk, List.map_cons, List.map_cons, List.map_nil, exS_mkF, exS_mkF]
theorem kindT {k z : Int} (h : k = z) : (k == z) = true := by simpa using h
theorem kindNF {k z : Int} (h : ¬ k = z) : (k != z) = true := by simpa using h
theorem kindNT {k z : Int} (h : k = z) : (k != z) = false := by simpa using h
theorem c_foldPrim (a b c : EI) (r1 r2 : List ET) (hx : b.s.size ≤ 1048576) (hy : c.s.size ≤ 1048576) : FCon Tryz.prog 80 [exE (.mk a [.mk b r1, .mk c r2])] (fun r _ => r = exE (foldPT a b c r1 r2)) := by
  by_cases h94 : a.s.toList = [94]
  · have hP := foldP_94 (x := b) (y := c) h94
    by_cases kb : b.kind = 2
    · by_cases kc : c.kind = 2
      · by_cases hz : b.s.size + c.s.size ≤ 1000
        · rw [if_pos ⟨kb, kc, hz⟩] at hP
          rw [foldPT_some hP, ex2]
          refine FCon.leaf rfl ?_
          refine FCon.intro PM _ Tryz.func80 (by kernel_rfl) rfl _ Tryz.ntmps80 rfl [(1, 13, [], [], (lin [] [0, 1, 2, 3, 4, 5, 6, 7, 8, 9, 10, 11, 12])), (3, 23, [], [], (lin [] [0, 1, 2, 3, 4, 5, 6, 7, 8, 9, 10, 11, 12, 13, 14, 15, 16, 17, 18, 19, 20, 21, 22])), (4, 13, [], [], (lin [] [0, 1, 2, 3, 4, 5, 6, 7, 8, 9, 10, 11, 12])), (8, 19, [], [], (lin [] [0, 1, 2, 3, 4, 5, 6, 7, 8, 9, 10, 11, 12, 13, 14, 15, 16, 17, 18])), (10, 6, [], [], (lin [] [0, 1, 2, 3, 4, 5]))] (by decide +kernel) (by simp) (by simp) rfl (by first | rfl | simp only [go_sem]) ?_
          (have hWf := WFx.mk (ai (lT h94) <| ai @t94 <| ai @kb <| @kc); repeat' (first | refine zS ?_ | exact zE | with_reducible apply And.intro | with_reducible exact zB0 | with_reducible refine zB fun hb => ?_ | exact zC | refine zT ?_ | fail))
          all_goals simp only [frA, frz, frzL, go_sem]
        · rw [if_neg (fun q => hz q.2.2)] at hP
          rw [foldPT_none hP, ex2]
          refine FCon.intro PM _ Tryz.func80 (by kernel_rfl) rfl _ Tryz.ntmps80 rfl [(1, 13, [], [], (lin [] [0, 1, 2, 3, 4, 5, 6, 7, 8, 9, 10, 11, 12])), (3, 23, [], [], (lin [] [0, 1, 2, 3, 4, 5, 6, 7, 8, 9, 10, 11, 12, 13, 14, 15, 16, 17, 18, 19, 20, 21, 22])), (4, 13, [], [], (lin [] [0, 1, 2, 3, 4, 5, 6, 7, 8, 9, 10, 11, 12])), (8, 19, [], [], (lin [] [0, 1, 2, 3, 4, 5, 6, 7, 8, 9, 10, 11, 12, 13, 14, 15, 16, 17, 18])), (10, 6, [], [], (lin [] [0, 1, 2, 3, 4, 5]))] (by decide +kernel) (by simp) (by simp) rfl (by first | rfl | simp only [go_sem]) ?_
          (have hWf := WFx.mk (ai (lT h94) <| ai @t94 <| ai @kb <| @kc); repeat' (first | refine zS ?_ | exact zE | with_reducible apply And.intro | with_reducible exact zB0 | with_reducible refine zB fun hb => ?_ | exact zC | refine zT ?_ | fail))
      · have f := kindF kc
        rw [if_neg (fun q => kc q.2.1)] at hP
        rw [foldPT_none hP, ex2]
        refine FCon.intro PM _ Tryz.func80 (by kernel_rfl) rfl _ Tryz.ntmps80 rfl [(1, 13, [], [], (lin [] [0, 1, 2, 3, 4, 5, 6, 7, 8, 9, 10, 11, 12])), (3, 23, [], [], (lin [] [0, 1, 2, 3, 4, 5, 6, 7, 8, 9, 10, 11, 12, 13, 14, 15, 16, 17, 18, 19, 20, 21, 22])), (4, 13, [], [], (lin [] [0, 1, 2, 3, 4, 5, 6, 7, 8, 9, 10, 11, 12])), (8, 19, [], [], (lin [] [0, 1, 2, 3, 4, 5, 6, 7, 8, 9, 10, 11, 12, 13, 14, 15, 16, 17, 18])), (10, 6, [], [], (lin [] [0, 1, 2, 3, 4, 5]))] (by decide +kernel) (by simp) (by simp) rfl (by first | rfl | simp only [go_sem]) ?_
        (have hWf := WFx.mk (ai (lT h94) <| ai @t94 <| ai @kb <| @f); repeat' (first | refine zS ?_ | exact zE | with_reducible apply And.intro | with_reducible exact zB0 | with_reducible refine zB fun hb => ?_ | exact zC | refine zT ?_ | fail))
    · have f := kindF kb
      rw [if_neg (fun q => kb q.1)] at hP
      rw [foldPT_none hP, ex2]
      refine FCon.intro PM _ Tryz.func80 (by kernel_rfl) rfl _ Tryz.ntmps80 rfl [(1, 13, [], [], (lin [] [0, 1, 2, 3, 4, 5, 6, 7, 8, 9, 10, 11, 12])), (3, 23, [], [], (lin [] [0, 1, 2, 3, 4, 5, 6, 7, 8, 9, 10, 11, 12, 13, 14, 15, 16, 17, 18, 19, 20, 21, 22])), (4, 13, [], [], (lin [] [0, 1, 2, 3, 4, 5, 6, 7, 8, 9, 10, 11, 12])), (8, 19, [], [], (lin [] [0, 1, 2, 3, 4, 5, 6, 7, 8, 9, 10, 11, 12, 13, 14, 15, 16, 17, 18])), (10, 6, [], [], (lin [] [0, 1, 2, 3, 4, 5]))] (by decide +kernel) (by simp) (by simp) rfl (by first | rfl | simp only [go_sem]) ?_
      (have hWf := WFx.mk (ai (lT h94) <| ai @t94 <| @f); repeat' (first | refine zS ?_ | exact zE | with_reducible apply And.intro | with_reducible exact zB0 | with_reducible refine zB fun hb => ?_ | exact zC | refine zT ?_ | fail))
  · have hP := foldP_no (x := b) (y := c) h94
    have g94 := lF h94
    by_cases kb : b.kind = 1
    · by_cases kc : c.kind = 1
      · rw [if_pos ⟨kb, kc⟩] at hP
        have n1 := kindNT kb
        have n2 := kindNT kc
        have hpr := c_prim a.s b.n c.n
        cases hq : primI a.s b.n c.n with
        | none =>
          rw [hq] at hP
          rw [primR_of hq] at hpr
          have hpr : FCon Tryz.prog 163 [.s (.string a.s), .s (.int .i64 b.n), .s (.int .i64 c.n)] (fun r _ => r = .tup [.s (.int .i64 0), .s (.bool false), .s (.bool false)]) := hpr
          rw [foldPT_none hP, ex2]
          refine FCon.intro PM _ Tryz.func80 (by kernel_rfl) rfl _ Tryz.ntmps80 rfl [(1, 13, [], [], (lin [] [0, 1, 2, 3, 4, 5, 6, 7, 8, 9, 10, 11, 12])), (3, 23, [], [], (lin [] [0, 1, 2, 3, 4, 5, 6, 7, 8, 9, 10, 11, 12, 13, 14, 15, 16, 17, 18, 19, 20, 21, 22])), (4, 13, [], [], (lin [] [0, 1, 2, 3, 4, 5, 6, 7, 8, 9, 10, 11, 12])), (8, 19, [], [], (lin [] [0, 1, 2, 3, 4, 5, 6, 7, 8, 9, 10, 11, 12, 13, 14, 15, 16, 17, 18])), (10, 6, [], [], (lin [] [0, 1, 2, 3, 4, 5]))] (by decide +kernel) (by simp) (by simp) rfl (by first | rfl | simp only [go_sem]) ?_
          (have hWf := WFx.mk (ai @g94 <| ai @t94 <| ai @n1 <| @n2); repeat' (first | refine zS ?_ | exact zE | with_reducible apply And.intro | refine zK (hpr) ?_ | with_reducible exact zB0 | with_reducible refine zB fun hb => ?_ | exact zC | refine zT ?_ | fail))
        | some vt =>
          obtain ⟨v, tr⟩ := vt
          rw [hq] at hP
          rw [primR_of hq] at hpr
          have hpr : FCon Tryz.prog 163 [.s (.string a.s), .s (.int .i64 b.n), .s (.int .i64 c.n)] (fun r _ => r = .tup [.s (.int .i64 v), .s (.bool tr), .s (.bool true)]) := hpr
          have htn := c_truthName v
          cases tr with
          | true =>
            rw [foldPT_some hP, ex2]
            refine FCon.leaf rfl ?_
            refine FCon.intro PM _ Tryz.func80 (by kernel_rfl) rfl _ Tryz.ntmps80 rfl [(1, 13, [], [], (lin [] [0, 1, 2, 3, 4, 5, 6, 7, 8, 9, 10, 11, 12])), (3, 23, [], [], (lin [] [0, 1, 2, 3, 4, 5, 6, 7, 8, 9, 10, 11, 12, 13, 14, 15, 16, 17, 18, 19, 20, 21, 22])), (4, 13, [], [], (lin [] [0, 1, 2, 3, 4, 5, 6, 7, 8, 9, 10, 11, 12])), (8, 19, [], [], (lin [] [0, 1, 2, 3, 4, 5, 6, 7, 8, 9, 10, 11, 12, 13, 14, 15, 16, 17, 18])), (10, 6, [], [], (lin [] [0, 1, 2, 3, 4, 5]))] (by decide +kernel) (by simp) (by simp) rfl (by first | rfl | simp only [go_sem]) ?_
            (have hWf := WFx.mk (ai @g94 <| ai @t94 <| ai @n1 <| @n2); repeat' (first | refine zS ?_ | exact zE | with_reducible apply And.intro | refine zK (hpr) ?_ | refine zK (htn) ?_ | with_reducible exact zB0 | with_reducible refine zB fun hb => ?_ | exact zC | refine zT ?_ | fail))
            all_goals simp only [frA, frz, frzL, go_sem]
          | false =>
            by_cases hv : 0 ≤ v
            · simp only [if_pos hv] at hP
              rw [foldPT_some hP, ex2]
              refine FCon.leaf rfl ?_
              refine FCon.intro PM _ Tryz.func80 (by kernel_rfl) rfl _ Tryz.ntmps80 rfl [(1, 13, [], [], (lin [] [0, 1, 2, 3, 4, 5, 6, 7, 8, 9, 10, 11, 12])), (3, 23, [], [], (lin [] [0, 1, 2, 3, 4, 5, 6, 7, 8, 9, 10, 11, 12, 13, 14, 15, 16, 17, 18, 19, 20, 21, 22])), (4, 13, [], [], (lin [] [0, 1, 2, 3, 4, 5, 6, 7, 8, 9, 10, 11, 12])), (8, 19, [], [], (lin [] [0, 1, 2, 3, 4, 5, 6, 7, 8, 9, 10, 11, 12, 13, 14, 15, 16, 17, 18])), (10, 6, [], [], (lin [] [0, 1, 2, 3, 4, 5]))] (by decide +kernel) (by simp) (by simp) rfl (by first | rfl | simp only [go_sem]) ?_
              (have hWf := WFx.mk (ai @g94 <| ai @t94 <| ai @n1 <| @n2); repeat' (first | refine zS ?_ | exact zE | with_reducible apply And.intro | refine zK (hpr) ?_ | with_reducible exact zB0 | with_reducible refine zB fun hb => ?_ | exact zC | refine zT ?_ | fail))
              all_goals rfl
            · simp only [if_neg hv] at hP
              rw [foldPT_none hP, ex2]
              refine FCon.intro PM _ Tryz.func80 (by kernel_rfl) rfl _ Tryz.ntmps80 rfl [(1, 13, [], [], (lin [] [0, 1, 2, 3, 4, 5, 6, 7, 8, 9, 10, 11, 12])), (3, 23, [], [], (lin [] [0, 1, 2, 3, 4, 5, 6, 7, 8, 9, 10, 11, 12, 13, 14, 15, 16, 17, 18, 19, 20, 21, 22])), (4, 13, [], [], (lin [] [0, 1, 2, 3, 4, 5, 6, 7, 8, 9, 10, 11, 12])), (8, 19, [], [], (lin [] [0, 1, 2, 3, 4, 5, 6, 7, 8, 9, 10, 11, 12, 13, 14, 15, 16, 17, 18])), (10, 6, [], [], (lin [] [0, 1, 2, 3, 4, 5]))] (by decide +kernel) (by simp) (by simp) rfl (by first | rfl | simp only [go_sem]) ?_
              (have hWf := WFx.mk (ai @g94 <| ai @t94 <| ai @n1 <| @n2); repeat' (first | refine zS ?_ | exact zE | with_reducible apply And.intro | refine zK (hpr) ?_ | with_reducible exact zB0 | with_reducible refine zB fun hb => ?_ | exact zC | refine zT ?_ | fail))
      · have f := kindNF kc
        have n1 := kindNT kb
        rw [if_neg (fun q => kc q.2)] at hP
        rw [foldPT_none hP, ex2]
        refine FCon.intro PM _ Tryz.func80 (by kernel_rfl) rfl _ Tryz.ntmps80 rfl [(1, 13, [], [], (lin [] [0, 1, 2, 3, 4, 5, 6, 7, 8, 9, 10, 11, 12])), (3, 23, [], [], (lin [] [0, 1, 2, 3, 4, 5, 6, 7, 8, 9, 10, 11, 12, 13, 14, 15, 16, 17, 18, 19, 20, 21, 22])), (4, 13, [], [], (lin [] [0, 1, 2, 3, 4, 5, 6, 7, 8, 9, 10, 11, 12])), (8, 19, [], [], (lin [] [0, 1, 2, 3, 4, 5, 6, 7, 8, 9, 10, 11, 12, 13, 14, 15, 16, 17, 18])), (10, 6, [], [], (lin [] [0, 1, 2, 3, 4, 5]))] (by decide +kernel) (by simp) (by simp) rfl (by first | rfl | simp only [go_sem]) ?_
        (have hWf := WFx.mk (ai @g94 <| ai @t94 <| ai @n1 <| @f); repeat' (first | refine zS ?_ | exact zE | with_reducible apply And.intro | with_reducible exact zB0 | with_reducible refine zB fun hb => ?_ | exact zC | refine zT ?_ | fail))
    · have f := kindNF kb
      rw [if_neg (fun q => kb q.1)] at hP
      rw [foldPT_none hP, ex2]
      refine FCon.intro PM _ Tryz.func80 (by kernel_rfl) rfl _ Tryz.ntmps80 rfl [(1, 13, [], [], (lin [] [0, 1, 2, 3, 4, 5, 6, 7, 8, 9, 10, 11, 12])), (3, 23, [], [], (lin [] [0, 1, 2, 3, 4, 5, 6, 7, 8, 9, 10, 11, 12, 13, 14, 15, 16, 17, 18, 19, 20, 21, 22])), (4, 13, [], [], (lin [] [0, 1, 2, 3, 4, 5, 6, 7, 8, 9, 10, 11, 12])), (8, 19, [], [], (lin [] [0, 1, 2, 3, 4, 5, 6, 7, 8, 9, 10, 11, 12, 13, 14, 15, 16, 17, 18])), (10, 6, [], [], (lin [] [0, 1, 2, 3, 4, 5]))] (by decide +kernel) (by simp) (by simp) rfl (by first | rfl | simp only [go_sem]) ?_
      (have hWf := WFx.mk (ai @g94 <| ai @t94 <| @f); repeat' (first | refine zS ?_ | exact zE | with_reducible apply And.intro | with_reducible exact zB0 | with_reducible refine zB fun hb => ?_ | exact zC | refine zT ?_ | fail))
theorem ex3 (a b c d : EI) (r1 r2 r3 : List ET) : exE (.mk a [.mk b r1, .mk c r2, .mk d r3]) = .pt [.s (.int .i64 a.kind), .s (.int .i64 a.at_), .s (.int .i64 a.n), .s (.string a.s), .sl 1 [[.pt [.s (.int .i64 b.kind), .s (.int .i64 b.at_), .s (.int .i64 b.n), .s (.string b.s), .sl 1 (r1.map exS), .sl 1 (b.pats.map MPat.enc)]], [.pt [.s (.int .i64 c.kind), .s (.int .i64 c.at_), .s (.int .i64 c.n), .s (.string c.s), .sl 1 (r2.map exS), .sl 1 (c.pats.map MPat.enc)]], [.pt [.s (.int .i64 d.kind), .s (.int .i64 d.at_), .s (.int .i64 d.n), .s (.string d.s), .sl 1 (r3.map exS), .sl 1 (d.pats.map MPat.enc)]]], .sl 1 (a.pats.map MPat.enc)] := by
  rw [exE_mk, List.map_cons, List.map_cons, List.map_cons, List.map_nil, exS_mkF, exS_mkF, exS_mkF]
theorem folded_other (a : EI) (l : List ET) (h1 : a.kind ≠ 10) (h2 : a.kind ≠ 9) (h3 : a.kind ≠ 19) (h4 : a.kind ≠ 7) : FCon Tryz.prog 32 [exE (.mk a l)] (fun r _ => r = exE (foldR id id a l)) := by
  have e : foldR id id a l = .mk a l := by unfold foldR; simp only [id]; rw [if_neg h1, if_neg h2, if_neg h3, if_neg h4]
  have f1 := kindF h1
  have f2 := kindF h2
  have f3 := kindF h3
  have f4 := kindF h4
  rw [e, exE_mk]
  refine FCon.intro PM _ Tryz.func32 (by kernel_rfl) rfl _ Tryz.ntmps32 rfl [(15, 20, [], [], (lin [] [0, 1, 2, 3, 4, 5, 6, 7, 8, 9, 10, 11, 12, 13, 14, 15, 16, 17, 18, 19]))] (by decide +kernel) (by simp) (by simp) rfl (by first | rfl | simp only [go_sem]) ?_
  (have hWf := WFx.mk (ai @f1 <| ai @f2 <| ai @f3 <| @f4); repeat' (first | refine zS ?_ | exact zE | with_reducible apply And.intro | with_reducible exact zB0 | with_reducible refine zB fun hb => ?_ | exact zC | refine zT ?_ | fail))
theorem folded_prim (a b c : EI) (r1 r2 : List ET) (h1 : a.kind = 10) (hx : b.s.size ≤ 1048576) (hy : c.s.size ≤ 1048576) : FCon Tryz.prog 32 [exE (.mk a [.mk b r1, .mk c r2])] (fun r _ => r = exE (foldR id id a [.mk b r1, .mk c r2])) := by
  have hc := c_foldPrim a b c r1 r2 hx hy
  have e : foldR id id a [.mk b r1, .mk c r2] = foldPT a b c r1 r2 := by unfold foldR foldPT; simp only [id]; rw [if_pos h1]; rfl
  have f1 := kindT h1
  obtain ⟨d, r, hd⟩ : ∃ d r, foldPT a b c r1 r2 = .mk d r := ⟨_, _, Arb.eta _⟩
  rw [e, hd]
  rw [hd] at hc
  rw [ex2, exE_mk] at hc ⊢
  refine FCon.intro PM _ Tryz.func32 (by kernel_rfl) rfl _ Tryz.ntmps32 rfl [(15, 20, [], [], (lin [] [0, 1, 2, 3, 4, 5, 6, 7, 8, 9, 10, 11, 12, 13, 14, 15, 16, 17, 18, 19]))] (by decide +kernel) (by simp) (by simp) rfl (by first | rfl | simp only [go_sem]) ?_
  (have hWf := WFx.mk @f1; repeat' (first | refine zS ?_ | exact zE | with_reducible apply And.intro | refine zK (hc) ?_ | with_reducible exact zB0 | with_reducible refine zB fun hb => ?_ | exact zC | refine zT ?_ | fail))
theorem folded_if (a b c d : EI) (r1 r2 r3 : List ET) (h2 : a.kind = 9) : FCon Tryz.prog 32 [exE (.mk a [.mk b r1, .mk c r2, .mk d r3])] (fun r _ => r = exE (foldR id id a [.mk b r1, .mk c r2, .mk d r3])) := by
  have h1 : ¬ a.kind = 10 := by omega
  have hc := c_truthOf b r1
  have e : foldR id id a [.mk b r1, .mk c r2, .mk d r3] = if truthM b = 1 then .mk c r2 else if truthM b = 0 then .mk d r3 else .mk a [.mk b r1, .mk c r2, .mk d r3] := by unfold foldR; simp only [id]; rw [if_neg h1, if_pos h2]; rfl
  have f1 := kindF h1
  have f2 := kindT h2
  rw [e]
  rw [exE_mk] at hc
  by_cases t1 : truthM b = 1
  · have g1 := kindT t1
    rw [if_pos t1, ex3, exE_mk]
    refine FCon.intro PM _ Tryz.func32 (by kernel_rfl) rfl _ Tryz.ntmps32 rfl [(15, 20, [], [], (lin [] [0, 1, 2, 3, 4, 5, 6, 7, 8, 9, 10, 11, 12, 13, 14, 15, 16, 17, 18, 19]))] (by decide +kernel) (by simp) (by simp) rfl (by first | rfl | simp only [go_sem]) ?_
    (have hWf := WFx.mk (ai @f1 <| ai @f2 <| @g1); repeat' (first | refine zS ?_ | exact zE | with_reducible apply And.intro | refine zK (hc) ?_ | with_reducible exact zB0 | with_reducible refine zB fun hb => ?_ | exact zC | refine zT ?_ | fail))
  · have g1 := kindF t1
    by_cases t0 : truthM b = 0
    · have g0 := kindT t0
      rw [if_neg t1, if_pos t0, ex3, exE_mk]
      refine FCon.intro PM _ Tryz.func32 (by kernel_rfl) rfl _ Tryz.ntmps32 rfl [(15, 20, [], [], (lin [] [0, 1, 2, 3, 4, 5, 6, 7, 8, 9, 10, 11, 12, 13, 14, 15, 16, 17, 18, 19]))] (by decide +kernel) (by simp) (by simp) rfl (by first | rfl | simp only [go_sem]) ?_
      (have hWf := WFx.mk (ai @f1 <| ai @f2 <| ai @g1 <| @g0); repeat' (first | refine zS ?_ | exact zE | with_reducible apply And.intro | refine zK (hc) ?_ | with_reducible exact zB0 | with_reducible refine zB fun hb => ?_ | exact zC | refine zT ?_ | fail))
    · have g0 := kindF t0
      have f3 : (a.kind == 19) = false := by rw [h2]; rfl
      have f4 : (a.kind == 7) = false := by rw [h2]; rfl
      rw [if_neg t1, if_neg t0, ex3]
      refine FCon.intro PM _ Tryz.func32 (by kernel_rfl) rfl _ Tryz.ntmps32 rfl [(15, 20, [], [], (lin [] [0, 1, 2, 3, 4, 5, 6, 7, 8, 9, 10, 11, 12, 13, 14, 15, 16, 17, 18, 19]))] (by decide +kernel) (by simp) (by simp) rfl (by first | rfl | simp only [go_sem]) ?_
      (have hWf := WFx.mk (ai @f1 <| ai @f2 <| ai @g1 <| ai @g0 <| ai @f3 <| @f4); repeat' (first | refine zS ?_ | exact zE | with_reducible apply And.intro | refine zK (hc) ?_ | with_reducible exact zB0 | with_reducible refine zB fun hb => ?_ | exact zC | refine zT ?_ | fail))
theorem folded_seq (a b c : EI) (r1 r2 : List ET) (h3 : a.kind = 19) : FCon Tryz.prog 32 [exE (.mk a [.mk b r1, .mk c r2])] (fun r _ => r = exE (foldR id id a [.mk b r1, .mk c r2])) := by
  have h1 : ¬ a.kind = 10 := by omega
  have h2 : ¬ a.kind = 9 := by omega
  have e : foldR id id a [.mk b r1, .mk c r2] = if b.kind = 12 then .mk c r2 else .mk a [.mk b r1, .mk c r2] := by unfold foldR; simp only [id]; rw [if_neg h1, if_neg h2, if_pos h3]; rfl
  have f1 := kindF h1
  have f2 := kindF h2
  have f3 := kindT h3
  rw [e]
  by_cases t1 : b.kind = 12
  · have g1 := kindT t1
    rw [if_pos t1, ex2, exE_mk]
    refine FCon.intro PM _ Tryz.func32 (by kernel_rfl) rfl _ Tryz.ntmps32 rfl [(15, 20, [], [], (lin [] [0, 1, 2, 3, 4, 5, 6, 7, 8, 9, 10, 11, 12, 13, 14, 15, 16, 17, 18, 19]))] (by decide +kernel) (by simp) (by simp) rfl (by first | rfl | simp only [go_sem]) ?_
    (have hWf := WFx.mk (ai @f1 <| ai @f2 <| ai @f3 <| @g1); repeat' (first | refine zS ?_ | exact zE | with_reducible apply And.intro | with_reducible exact zB0 | with_reducible refine zB fun hb => ?_ | exact zC | refine zT ?_ | fail))
  · have g1 := kindF t1
    have f4 : (a.kind == 7) = false := by rw [h3]; rfl
    rw [if_neg t1, ex2]
    refine FCon.intro PM _ Tryz.func32 (by kernel_rfl) rfl _ Tryz.ntmps32 rfl [(15, 20, [], [], (lin [] [0, 1, 2, 3, 4, 5, 6, 7, 8, 9, 10, 11, 12, 13, 14, 15, 16, 17, 18, 19]))] (by decide +kernel) (by simp) (by simp) rfl (by first | rfl | simp only [go_sem]) ?_
    (have hWf := WFx.mk (ai @f1 <| ai @f2 <| ai @f3 <| ai @g1 <| @f4); repeat' (first | refine zS ?_ | exact zE | with_reducible apply And.intro | with_reducible exact zB0 | with_reducible refine zB fun hb => ?_ | exact zC | refine zT ?_ | fail))
theorem plainM_eq (b : EI) (n : Nat) : plainM b n = (isPl b n || (b.kind == 5)) := by
  unfold plainM isPl
  rw [Bool.eq_iff_iff]
  simp only [Bool.or_eq_true, Bool.and_eq_true, decide_eq_true_eq, beq_iff_eq]
  omega
theorem folded_let (a b c : EI) (r1 r2 : List ET) (h4 : a.kind = 7) (hA : All cntN (.mk c r2)) (hs : (Arb.mk c r2).size ≤ 1000000) : FCon Tryz.prog 32 [exE (.mk a [.mk b r1, .mk c r2])] (fun r _ => r = exE (foldR id id a [.mk b r1, .mk c r2])) := by
  have h1 : ¬ a.kind = 10 := by omega
  have h2 : ¬ a.kind = 9 := by omega
  have h3 : ¬ a.kind = 19 := by omega
  have e : foldR id id a [.mk b r1, .mk c r2] = if plainM b r1.length = true ∧ countM a.s (.mk c r2) = 0 then .mk c r2 else .mk a [.mk b r1, .mk c r2] := by
    unfold foldR; simp only [id]; rw [if_neg h1, if_neg h2, if_neg h3, if_pos h4]
    show (if plainM b r1.length = true ∧ countM a.s (mapA id (.mk c r2)) = 0 then _ else _) = _
    rw [mapA_id]
  have hp := c_isPlain b r1
  have hc := c_count a.s (.mk c r2) hA hs
  have f1 := kindF h1
  have f2 := kindF h2
  have f3 := kindF h3
  have f4 := kindT h4
  rw [e]
  rw [exE_mk] at hp hc
  rw [plainM_eq]
  cases p1 : isPl b r1.length with
  | true =>
    rw [p1] at hp
    by_cases hn : countM a.s (.mk c r2) = 0
    · have g1 : ((countM a.s (.mk c r2) : Int) == 0) = true := by rw [hn]; rfl
      rw [if_pos ⟨rfl, hn⟩, ex2, exE_mk]
      refine FCon.intro PM _ Tryz.func32 (by kernel_rfl) rfl _ Tryz.ntmps32 rfl [(15, 20, [], [], (lin [] [0, 1, 2, 3, 4, 5, 6, 7, 8, 9, 10, 11, 12, 13, 14, 15, 16, 17, 18, 19]))] (by decide +kernel) (by simp) (by simp) rfl (by first | rfl | simp only [go_sem]) ?_
      (have hWf := WFx.mk (ai @f1 <| ai @f2 <| ai @f3 <| ai @f4 <| @g1); repeat' (first | refine zS ?_ | exact zE | with_reducible apply And.intro | refine zK (hp) ?_ | refine zK (hc) ?_ | with_reducible exact zB0 | with_reducible refine zB fun hb => ?_ | exact zC | refine zT ?_ | fail))
    · have g1 : ((countM a.s (.mk c r2) : Int) == 0) = false := by simpa using hn
      rw [if_neg (fun q => hn q.2), ex2]
      refine FCon.intro PM _ Tryz.func32 (by kernel_rfl) rfl _ Tryz.ntmps32 rfl [(15, 20, [], [], (lin [] [0, 1, 2, 3, 4, 5, 6, 7, 8, 9, 10, 11, 12, 13, 14, 15, 16, 17, 18, 19]))] (by decide +kernel) (by simp) (by simp) rfl (by first | rfl | simp only [go_sem]) ?_
      (have hWf := WFx.mk (ai @f1 <| ai @f2 <| ai @f3 <| ai @f4 <| @g1); repeat' (first | refine zS ?_ | exact zE | with_reducible apply And.intro | refine zK (hp) ?_ | refine zK (hc) ?_ | with_reducible exact zB0 | with_reducible refine zB fun hb => ?_ | exact zC | refine zT ?_ | fail))
  | false =>
    rw [p1] at hp
    by_cases k5 : b.kind = 5
    · have g5 := kindT k5
      by_cases hn : countM a.s (.mk c r2) = 0
      · have g1 : ((countM a.s (.mk c r2) : Int) == 0) = true := by rw [hn]; rfl
        rw [if_pos ⟨by rw [g5]; rfl, hn⟩, ex2, exE_mk]
        refine FCon.intro PM _ Tryz.func32 (by kernel_rfl) rfl _ Tryz.ntmps32 rfl [(15, 20, [], [], (lin [] [0, 1, 2, 3, 4, 5, 6, 7, 8, 9, 10, 11, 12, 13, 14, 15, 16, 17, 18, 19]))] (by decide +kernel) (by simp) (by simp) rfl (by first | rfl | simp only [go_sem]) ?_
        (have hWf := WFx.mk (ai @f1 <| ai @f2 <| ai @f3 <| ai @f4 <| ai @g1 <| @g5); repeat' (first | refine zS ?_ | exact zE | with_reducible apply And.intro | refine zK (hp) ?_ | refine zK (hc) ?_ | with_reducible exact zB0 | with_reducible refine zB fun hb => ?_ | exact zC | refine zT ?_ | fail))
      · have g1 : ((countM a.s (.mk c r2) : Int) == 0) = false := by simpa using hn
        rw [if_neg (fun q => hn q.2), ex2]
        refine FCon.intro PM _ Tryz.func32 (by kernel_rfl) rfl _ Tryz.ntmps32 rfl [(15, 20, [], [], (lin [] [0, 1, 2, 3, 4, 5, 6, 7, 8, 9, 10, 11, 12, 13, 14, 15, 16, 17, 18, 19]))] (by decide +kernel) (by simp) (by simp) rfl (by first | rfl | simp only [go_sem]) ?_
        (have hWf := WFx.mk (ai @f1 <| ai @f2 <| ai @f3 <| ai @f4 <| ai @g1 <| @g5); repeat' (first | refine zS ?_ | exact zE | with_reducible apply And.intro | refine zK (hp) ?_ | refine zK (hc) ?_ | with_reducible exact zB0 | with_reducible refine zB fun hb => ?_ | exact zC | refine zT ?_ | fail))
    · have g5 := kindF k5
      rw [if_neg (fun q => by have := q.1; rw [g5] at this; cases this), ex2]
      refine FCon.intro PM _ Tryz.func32 (by kernel_rfl) rfl _ Tryz.ntmps32 rfl [(15, 20, [], [], (lin [] [0, 1, 2, 3, 4, 5, 6, 7, 8, 9, 10, 11, 12, 13, 14, 15, 16, 17, 18, 19]))] (by decide +kernel) (by simp) (by simp) rfl (by first | rfl | simp only [go_sem]) ?_
      (have hWf := WFx.mk (ai @f1 <| ai @f2 <| ai @f3 <| ai @f4 <| @g5); repeat' (first | refine zS ?_ | exact zE | with_reducible apply And.intro | refine zK (hp) ?_ | refine zK (hc) ?_ | with_reducible exact zB0 | with_reducible refine zB fun hb => ?_ | exact zC | refine zT ?_ | fail))
end Go.Proofs.YtgcdbmcoendcdaaGreat
