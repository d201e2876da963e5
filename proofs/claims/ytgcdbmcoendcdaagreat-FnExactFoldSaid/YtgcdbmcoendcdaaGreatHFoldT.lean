import Derived.Test.YtgcdbmcoendcdaaGreatHFoldS
/- Folding in the reference, over the second engine: trees by value. -/
set_option maxRecDepth 100000
set_option maxHeartbeats 4000000
namespace Go.Proofs.YtgcdbmcoendcdaaGreat
set_option linter.unusedVariables false
set_option linter.unusedSimpArgs false
open Go.RowKit Arb
abbrev NT := Arb MNode
mutual
def subE : NT → List D
  | .mk a l => [.s (.int .i64 a.kind), .s (.int .i64 a.at_), .s (.int .i64 a.n), .s (.string a.s), .sl 1 (a.kids.map iE), .sl 1 (a.pats.map MPat.enc), .sl 7 (subEL l)]
def subEL : List NT → List (List D)
  | [] => []
  | t :: l => subE t :: subEL l
end
theorem subEL_map (l : List NT) : subEL l = l.map subE := by
  induction l with
  | nil => rfl
  | cons t l ih => rw [subEL, ih]; rfl
theorem subE_mk (a : MNode) (l : List NT) : subE (.mk a l) = [.s (.int .i64 a.kind), .s (.int .i64 a.at_), .s (.int .i64 a.n), .s (.string a.s), .sl 1 (a.kids.map iE), .sl 1 (a.pats.map MPat.enc), .sl 7 (l.map subE)] := by rw [subE, subEL_map]
theorem subE_frz (t : NT) : frzL (subE t) = subE t := by
  obtain ⟨a, l⟩ := t
  rw [subE_mk]; rfl
def nwC (d d' : D) : Prop := d' = d ∨ (d = .nil ∧ ((∃ k, d' = .sl k []) ∨ ∃ e k, d' = .osl e k []))
theorem FCon.agW {P : Program} {f : FuncId} {args : List D} {xs ys : List D} (h : FCon P f args (fun r _ => r = .ag xs)) (hl : ys.length = xs.length) (hc : ∀ (j : Nat) (x y : D), xs[j]? = some x → ys[j]? = some y → nwC x y) : FCon P f args (fun r _ => r = .ag ys) := h.wk fun r o e => by
  subst e
  refine ⟨_, rfl, fun g w v q => ?_⟩
  obtain ⟨us, rfl, h1, h2⟩ := q
  refine ⟨us, rfl, by rw [hl]; exact h1, fun l y u hy hu => ?_⟩
  have hlt : l < xs.length := by rw [← hl]; exact (List.getElem?_eq_some_iff.1 hy).1
  have hx : xs[l]? = some xs[l] := List.getElem?_eq_getElem hlt
  have hr := h2 l _ u hx hu
  rcases hc l _ y hx hy with e | ⟨e, ⟨k, e'⟩ | ⟨e1, k, e'⟩⟩
  · rw [e]; exact hr
  · rw [e] at hr; subst e'; exact Rep.nil_sl k hr
  · rw [e] at hr; subst e'; exact Rep.nil_osl e1 k hr
theorem FCon.subLeaf {P : Program} {f : FuncId} {args : List D} {d : EI} (hp : d.pats = []) (h : FCon P f args (fun r _ => r = .ag [.s (.int .i64 d.kind), .s (.int .i64 d.at_), .s (.int .i64 d.n), .s (.string d.s), .nil, .nil, .nil])) : FCon P f args (fun r _ => r = .ag (subE (.mk (d.node []) []))) := by
  refine h.agW (by rw [subE_mk]; rfl) fun j x y hx hy => ?_
  rw [subE_mk] at hy
  simp only [EI.node, hp, List.map_nil] at hy
  match j, hx, hy with
  | 0, hx, hy => left; rw [← Option.some.inj hx, ← Option.some.inj hy]
  | 1, hx, hy => left; rw [← Option.some.inj hx, ← Option.some.inj hy]
  | 2, hx, hy => left; rw [← Option.some.inj hx, ← Option.some.inj hy]
  | 3, hx, hy => left; rw [← Option.some.inj hx, ← Option.some.inj hy]
  | 4, hx, hy => right; exact ⟨(Option.some.inj hx).symm, .inl ⟨1, (Option.some.inj hy).symm⟩⟩
  | 5, hx, hy => right; exact ⟨(Option.some.inj hx).symm, .inl ⟨1, (Option.some.inj hy).symm⟩⟩
  | 6, hx, hy => right; exact ⟨(Option.some.inj hx).symm, .inl ⟨7, (Option.some.inj hy).symm⟩⟩
theorem c_oneNil (k at_ : Int) (s : ByteArray) : FCon Tryz.prog 154 [.s (.int .i64 k), .s (.int .i64 at_), .s (.string s), .nil] (fun r _ => r = .ag [.s (.int .i64 k), .s (.int .i64 at_), .s (.int .i64 0), .s (.string s), .nil, .nil, .nil]) := by
  refine FCon.intro PM _ Tryz.func154 (by kernel_rfl) rfl _ Tryz.ntmps154 rfl [] (by decide +kernel) (by simp) (by simp) rfl (by first | rfl | simp only [go_sem]) ?_
  (have hWf := f0; repeat' (first | refine zS ?_ | exact zE | with_reducible apply And.intro | with_reducible exact zB0 | with_reducible refine zB fun hb => ?_ | exact zC | refine zT ?_ | fail))
def foldPN (a : MNode) (x y : NT) : NT := match foldP a.inf x.a.inf y.a.inf with
  | some d => .mk (d.node []) []
  | none => .mk a [x, y]
theorem foldPN_some {a : MNode} {x y : NT} {d : EI} (h : foldP a.inf x.a.inf y.a.inf = some d) : foldPN a x y = .mk (d.node []) [] := by unfold foldPN; rw [h]
theorem foldPN_none {a : MNode} {x y : NT} (h : foldP a.inf x.a.inf y.a.inf = none) : foldPN a x y = .mk a [x, y] := by unfold foldPN; rw [h]
theorem sub2 (a b c : MNode) (r1 r2 : List NT) : subE (.mk a [.mk b r1, .mk c r2]) = [.s (.int .i64 a.kind), .s (.int .i64 a.at_), .s (.int .i64 a.n), .s (.string a.s), .sl 1 (a.kids.map iE), .sl 1 (a.pats.map MPat.enc), .sl 7 [[.s (.int .i64 b.kind), .s (.int .i64 b.at_), .s (.int .i64 b.n), .s (.string b.s), .sl 1 (b.kids.map iE), .sl 1 (b.pats.map MPat.enc), .sl 7 (r1.map subE)], [.s (.int .i64 c.kind), .s (.int .i64 c.at_), .s (.int .i64 c.n), .s (.string c.s), .sl 1 (c.kids.map iE), .sl 1 (c.pats.map MPat.enc), .sl 7 (r2.map subE)]]] := by
  rw [subE_mk, List.map_cons, List.map_cons, List.map_nil, subE_mk, subE_mk]
theorem c_l09Prim (a b c : MNode) (r1 r2 : List NT) (hp : primM a.s = true) (hx : b.s.size ≤ 1048576) (hy : c.s.size ≤ 1048576) : FCon Tryz.prog 72 [.ag (subE (.mk a [.mk b r1, .mk c r2]))] (fun r _ => r = .ag (subE (foldPN a (.mk b r1) (.mk c r2)))) := by
  by_cases h94 : a.s.toList = [94]
  · have hP : foldP a.inf b.inf c.inf = _ := foldP_94 (x := b.inf) (y := c.inf) h94
    by_cases kb : b.kind = 2
    · by_cases kc : c.kind = 2
      · by_cases hz : b.s.size + c.s.size ≤ 1000
        · rw [if_pos ⟨kb, kc, hz⟩] at hP
          rw [foldPN_some hP, sub2]
          refine FCon.subLeaf rfl ?_
          have ho := c_oneNil 2 a.at_ (b.s ++ c.s)
          refine FCon.intro PM _ Tryz.func72 (by kernel_rfl) rfl _ Tryz.ntmps72 rfl [] (by decide +kernel) (by simp) (by simp) rfl (by first | rfl | simp only [go_sem]) ?_
          (have hWf := WFx.mk (ai (lT h94) <| ai @t94 <| ai @kb <| @kc); repeat' (first | refine zS ?_ | exact zE | with_reducible apply And.intro | refine zK (ho) ?_ | with_reducible exact zB0 | with_reducible refine zB fun hb => ?_ | exact zC | refine zT ?_ | fail))
          all_goals rfl
        · rw [if_neg (fun q => hz q.2.2)] at hP
          rw [foldPN_none hP, sub2]
          refine FCon.intro PM _ Tryz.func72 (by kernel_rfl) rfl _ Tryz.ntmps72 rfl [] (by decide +kernel) (by simp) (by simp) rfl (by first | rfl | simp only [go_sem]) ?_
          (have hWf := WFx.mk (ai (lT h94) <| ai @t94 <| ai @kb <| @kc); repeat' (first | refine zS ?_ | exact zE | with_reducible apply And.intro | with_reducible exact zB0 | with_reducible refine zB fun hb => ?_ | exact zC | refine zT ?_ | fail))
      · have f := kindF kc
        rw [if_neg (fun q => kc q.2.1)] at hP
        rw [foldPN_none hP, sub2]
        refine FCon.intro PM _ Tryz.func72 (by kernel_rfl) rfl _ Tryz.ntmps72 rfl [] (by decide +kernel) (by simp) (by simp) rfl (by first | rfl | simp only [go_sem]) ?_
        (have hWf := WFx.mk (ai (lT h94) <| ai @t94 <| ai @kb <| @f); repeat' (first | refine zS ?_ | exact zE | with_reducible apply And.intro | with_reducible exact zB0 | with_reducible refine zB fun hb => ?_ | exact zC | refine zT ?_ | fail))
    · have f := kindF kb
      rw [if_neg (fun q => kb q.1)] at hP
      rw [foldPN_none hP, sub2]
      refine FCon.intro PM _ Tryz.func72 (by kernel_rfl) rfl _ Tryz.ntmps72 rfl [] (by decide +kernel) (by simp) (by simp) rfl (by first | rfl | simp only [go_sem]) ?_
      (have hWf := WFx.mk (ai (lT h94) <| ai @t94 <| @f); repeat' (first | refine zS ?_ | exact zE | with_reducible apply And.intro | with_reducible exact zB0 | with_reducible refine zB fun hb => ?_ | exact zC | refine zT ?_ | fail))
  · have hP : foldP a.inf b.inf c.inf = _ := foldP_no (x := b.inf) (y := c.inf) h94
    have g94 := lF h94
    by_cases kb : b.kind = 1
    · by_cases kc : c.kind = 1
      · rw [if_pos ⟨kb, kc⟩] at hP
        have n1 := kindNT kb
        have n2 := kindNT kc
        have hpr := c_l08Prim a.s hp h94 b.n c.n
        rw [mD_eq, vD_eq, vD_eq] at hpr
        cases hq : primI a.s b.n c.n with
        | none =>
          have hq2 : primI a.inf.s b.inf.n c.inf.n = none := hq
          rw [hq2] at hP
          rw [hq] at hpr
          simp only [pvA, pvM, mD_eq, vD_eq] at hpr
          rw [foldPN_none hP, sub2]
          refine FCon.intro PM _ Tryz.func72 (by kernel_rfl) rfl _ Tryz.ntmps72 rfl [] (by decide +kernel) (by simp) (by simp) rfl (by first | rfl | simp only [go_sem]) ?_
          (have hWf := WFx.mk (ai @g94 <| ai @t94 <| ai @n1 <| @n2); repeat' (first | refine zS ?_ | exact zE | with_reducible apply And.intro | refine zH hpr ?_ | with_reducible exact zB0 | with_reducible refine zB fun hb => ?_ | exact zC | refine zT ?_ | fail))
        | some vt =>
          obtain ⟨v, tr⟩ := vt
          have hq2 : primI a.inf.s b.inf.n c.inf.n = some (v, tr) := hq
          rw [hq2] at hP
          rw [hq] at hpr
          have hone := c_oneNil 4 a.at_ (if v = 1 then trueS else falseS)
          cases tr with
          | true =>
            simp only [pvA, pvM, mD_eq, vD_eq] at hpr
            rw [foldPN_some hP, sub2]
            refine FCon.subLeaf rfl ?_
            refine FCon.intro PM _ Tryz.func72 (by kernel_rfl) rfl _ Tryz.ntmps72 rfl [] (by decide +kernel) (by simp) (by simp) rfl (by first | rfl | simp only [go_sem]) ?_
            (have hWf := WFx.mk (ai @g94 <| ai @t94 <| ai @n1 <| @n2); repeat' (first | refine zS ?_ | exact zE | with_reducible apply And.intro | refine zH hpr ?_ | refine zK (hone) ?_ | with_reducible exact zB0 | with_reducible refine zB fun hb => ?_ | exact zC | refine zT ?_ | fail))
            all_goals rfl
          | false =>
            simp only [pvA, pvM, mD_eq, vD_eq] at hpr
            by_cases hv : 0 ≤ v
            · simp only [if_pos hv] at hP
              rw [foldPN_some hP, sub2]
              refine FCon.subLeaf rfl ?_
              refine FCon.intro PM _ Tryz.func72 (by kernel_rfl) rfl _ Tryz.ntmps72 rfl [] (by decide +kernel) (by simp) (by simp) rfl (by first | rfl | simp only [go_sem]) ?_
              (have hWf := WFx.mk (ai @g94 <| ai @t94 <| ai @n1 <| @n2); repeat' (first | refine zS ?_ | exact zE | with_reducible apply And.intro | refine zH hpr ?_ | with_reducible exact zB0 | with_reducible refine zB fun hb => ?_ | exact zC | refine zT ?_ | fail))
              all_goals rfl
            · simp only [if_neg hv] at hP
              rw [foldPN_none hP, sub2]
              refine FCon.intro PM _ Tryz.func72 (by kernel_rfl) rfl _ Tryz.ntmps72 rfl [] (by decide +kernel) (by simp) (by simp) rfl (by first | rfl | simp only [go_sem]) ?_
              (have hWf := WFx.mk (ai @g94 <| ai @t94 <| ai @n1 <| @n2); repeat' (first | refine zS ?_ | exact zE | with_reducible apply And.intro | refine zH hpr ?_ | with_reducible exact zB0 | with_reducible refine zB fun hb => ?_ | exact zC | refine zT ?_ | fail))
      · have f := kindNF kc
        have n1 := kindNT kb
        rw [if_neg (fun q => kc q.2)] at hP
        rw [foldPN_none hP, sub2]
        refine FCon.intro PM _ Tryz.func72 (by kernel_rfl) rfl _ Tryz.ntmps72 rfl [] (by decide +kernel) (by simp) (by simp) rfl (by first | rfl | simp only [go_sem]) ?_
        (have hWf := WFx.mk (ai @g94 <| ai @t94 <| ai @n1 <| @f); repeat' (first | refine zS ?_ | exact zE | with_reducible apply And.intro | with_reducible exact zB0 | with_reducible refine zB fun hb => ?_ | exact zC | refine zT ?_ | fail))
    · have f := kindNF kb
      rw [if_neg (fun q => kb q.1)] at hP
      rw [foldPN_none hP, sub2]
      refine FCon.intro PM _ Tryz.func72 (by kernel_rfl) rfl _ Tryz.ntmps72 rfl [] (by decide +kernel) (by simp) (by simp) rfl (by first | rfl | simp only [go_sem]) ?_
      (have hWf := WFx.mk (ai @g94 <| ai @t94 <| @f); repeat' (first | refine zS ?_ | exact zE | with_reducible apply And.intro | with_reducible exact zB0 | with_reducible refine zB fun hb => ?_ | exact zC | refine zT ?_ | fail))
end Go.Proofs.YtgcdbmcoendcdaaGreat
