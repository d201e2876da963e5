import Derived.Test.YtgcdbmcoendcdaaGreatHFoldU
import Derived.Test.YtgcdbmcoendcdaaGreatHLay
import Derived.Test.YtgcdbmcoendcdaaGreatHFoldR
/- Folding in the reference, over the second engine: an expression. -/
set_option maxRecDepth 100000
set_option maxHeartbeats 8000000
namespace Go.Proofs.YtgcdbmcoendcdaaGreat
set_option linter.unusedVariables false
set_option linter.unusedSimpArgs false
open Go.RowKit Arb
abbrev foldN : NT → NT := foldG MNode.inf (fun e => e.node [])
theorem foldN_mk (a : MNode) (l : List NT) : foldN (.mk a l) = foldR MNode.inf (fun e => e.node []) a (l.map foldN) := foldG_mk _ _ _ _
theorem inf_node (e : EI) (k : List Int) : (e.node k).inf = e := rfl
theorem foldN_st (t : NT) : stN (foldN t) = foldE (stN t) := foldG_inf MNode.inf (fun e => e.node []) (fun e => rfl) t
theorem map2 {α β : Type} {f : α → β} {l : List α} {x y : β} (h : l.map f = [x, y]) : ∃ u v, l = [u, v] := by
  match l, h with
  | [u, v], _ => exact ⟨u, v, rfl⟩
theorem map3 {α β : Type} {f : α → β} {l : List α} {x y z : β} (h : l.map f = [x, y, z]) : ∃ u v w, l = [u, v, w] := by
  match l, h with
  | [u, v, w], _ => exact ⟨u, v, w, rfl⟩
theorem subR_frz (l : List NT) : frzLL (l.map subE) = l.map subE := frz_rows subE_frz l
structure GoodN (t : NT) : Prop where
  ok : okT (stN t)
  fd : All fdN (stN t)
  sz : t.size ≤ 1000000
theorem GoodN.kid {a : MNode} {l : List NT} (h : GoodN (.mk a l)) {x : NT} (hx : x ∈ l) : GoodN x := by
  obtain ⟨h1, h2, h3⟩ := h
  rw [show stN (.mk a l) = .mk a.inf (l.map stN) from mapA_mk _ _ _] at h1 h2
  have := size_lt (a := a) hx
  exact ⟨h1.kid _ (List.mem_map_of_mem hx), h2.kid _ (List.mem_map_of_mem hx), by omega⟩
theorem GoodN.fold {t : NT} (h : GoodN t) : GoodN (foldN t) := by
  have := foldE_size (stN t)
  rw [← foldN_st, mapA_size, mapA_size] at this
  exact ⟨by rw [foldN_st]; exact okT_fold _ h.ok, by rw [foldN_st]; exact fdN_fold _ h.fd, Nat.le_trans this h.sz⟩
theorem prim_of {a : EI} {l : List ET} (v : EV a l) (hk : a.kind = 10) : ∃ x y, l = [x, y] ∧ primM a.s = true := by
  cases v with
  | prim x y k e h => exact ⟨x, y, e, h⟩
  | _ => exfalso; omega
theorem if_of {a : EI} {l : List ET} (v : EV a l) (hk : a.kind = 9) : ∃ x y z, l = [x, y, z] := by
  cases v with
  | if_ x y z k e h => exact ⟨x, y, z, e⟩
  | _ => exfalso; omega
theorem seq_of {a : EI} {l : List ET} (v : EV a l) (hk : a.kind = 19) : ∃ x y, l = [x, y] := by
  cases v with
  | seq x y k e h => exact ⟨x, y, e⟩
  | _ => exfalso; omega
theorem let_of {a : EI} {l : List ET} (v : EV a l) (hk : a.kind = 7) : ∃ x y, l = [x, y] := by
  cases v with
  | let_ x y k e h => exact ⟨x, y, e⟩
  | _ => exfalso; omega
theorem sub3 (a b c d : MNode) (r1 r2 r3 : List NT) : subE (.mk a [.mk b r1, .mk c r2, .mk d r3]) = [.s (.int .i64 a.kind), .s (.int .i64 a.at_), .s (.int .i64 a.n), .s (.string a.s), .sl 1 (a.kids.map iE), .sl 1 (a.pats.map MPat.enc), .sl 7 [[.s (.int .i64 b.kind), .s (.int .i64 b.at_), .s (.int .i64 b.n), .s (.string b.s), .sl 1 (b.kids.map iE), .sl 1 (b.pats.map MPat.enc), .sl 7 (r1.map subE)], [.s (.int .i64 c.kind), .s (.int .i64 c.at_), .s (.int .i64 c.n), .s (.string c.s), .sl 1 (c.kids.map iE), .sl 1 (c.pats.map MPat.enc), .sl 7 (r2.map subE)], [.s (.int .i64 d.kind), .s (.int .i64 d.at_), .s (.int .i64 d.n), .s (.string d.s), .sl 1 (d.kids.map iE), .sl 1 (d.pats.map MPat.enc), .sl 7 (r3.map subE)]]] := by
  rw [subE_mk, List.map_cons, List.map_cons, List.map_cons, List.map_nil, subE_mk, subE_mk, subE_mk]
theorem c_layNil (t : NT) (hs : t.size ≤ 1000000) : FCon Tryz.prog 24 [.nil, .ag (subE t)] (fun r _ => r = .sl 6 ((Arb.lay EI.node 0 (stN t)).map MNode.enc)) := by
  have h := (c_l03Lay t [] (by simpa using hs)).argNil
  refine FCon.ice (h.mono fun r o e => ?_)
  obtain ⟨rfl, -⟩ := e
  simp only [List.length_nil, List.nil_append]
  show D.sl 6 (frzLL ((Arb.lay EI.node 0 (stN t)).map layRow)) = _
  rw [frzLL_map, List.map_map]
  congr 1
  exact List.map_congr_left fun x _ => layRow_frz x
theorem c_freeLay (t : NT) (hg : GoodN t) (nm : ByteArray) : FCon Tryz.prog 74 [.ag [.nil, .sl 6 ((Arb.lay EI.node 0 (stN t)).map MNode.enc)], .s (.int .i64 0), .s (.string nm)] (fun r _ => r = .s (.bool (freeB nm (stN t)))) := by
  have := c_l09Free (Arb.lay EI.node 0 (stN t)) (by rw [Arb.lay_len, mapA_size]; exact hg.sz) nm (stN t) 0 (At.zero _) (cntN_of _ hg.ok hg.fd)
  exact this
theorem c_l09Fold : ∀ t : NT, GoodN t → FCon Tryz.prog 25 [.ag (subE t)] (fun r _ => r = .ag (subE (foldN t))) := fun t => by
  induction t using Arb.ind with
  | h a l ih =>
    intro hG
    have hll := sizeL_len l
    have hsz := hG.sz
    rw [size_mk] at hsz
    have hok := hG.ok
    rw [show stN (.mk a l) = .mk a.inf (l.map stN) from mapA_mk _ _ _] at hok
    have hv := hok.root.v
    refine FCon.ice ?_
    rw [subE_mk]
    refine FCon.intro PM _ Tryz.func25 (by kernel_rfl) rfl _ Tryz.ntmps25 rfl [(21, 13, [], [], (lin [] [0, 1, 2, 3, 4, 5, 6, 7, 8, 9, 10, 11, 12]))] (by decide +kernel) (by simp) (by simp) rfl (by first | rfl | simp only [go_sem]) ?_
    (have hWf := f0; repeat' (first | refine zS ?_ | exact zE | with_reducible apply And.intro | with_reducible exact zB0 | with_reducible refine zB fun hb => ?_ | exact zC | refine zT ?_ | fail))
    refine AC_loop (fun n σ => ∃ k : Nat, k ≤ l.length ∧ n = l.length - k ∧ σ.t 1 = .bx 1 0 ∧ σ.b 1 = some (.box [.s (.int .i64 a.kind), .s (.int .i64 a.at_), .s (.int .i64 a.n), .s (.string a.s), .sl 1 (a.kids.map iE), .sl 1 (a.pats.map MPat.enc), .sl 7 (l.map subE)]) ∧ σ.t 2 = .bx 2 0 ∧ σ.b 2 = some (.box [.s (.int .i64 0), .s (.int .i64 0), .s (.int .i64 0), .s (.string ⟨#[]⟩), .nil, .nil, .nil]) ∧ σ.t 3 = .bs 6 7 k ∧ σ.b 6 = some (.arr 58 7 (((l.take k).map foldN).map subE)) ∧ σ.t 9 = .s (.int .i64 l.length) ∧ σ.t 10 = .s (.int .i64 k)) l.length ⟨0, by omega, by omega, ?_⟩ ?_
    · simp only [go_sem, simprocAttr, Int.natCast_zero, List.take_zero, List.map_nil]
    · rintro n σ ⟨k, hk, rfl, h1, b1, h2, b2, h3, b6, h9, h10⟩ K' hK
      by_cases hlt : k < l.length
      · have hx := getD_map subE l k hlt
        obtain ⟨b, q, hbr⟩ : ∃ b q, l[k] = .mk b q := ⟨_, _, Arb.eta _⟩
        have he : subE l[k] = [.s (.int .i64 b.kind), .s (.int .i64 b.at_), .s (.int .i64 b.n), .s (.string b.s), .sl 1 (b.kids.map iE), .sl 1 (b.pats.map MPat.enc), .sl 7 (q.map subE)] := by rw [hbr, subE_mk]
        obtain ⟨c, u, hcu⟩ : ∃ c u, foldN l[k] = .mk c u := ⟨_, _, Arb.eta _⟩
        have hi := ih l[k] (List.getElem_mem hlt) (hG.kid (List.getElem_mem hlt))
        have hef : subE (foldN l[k]) = [.s (.int .i64 c.kind), .s (.int .i64 c.at_), .s (.int .i64 c.n), .s (.string c.s), .sl 1 (c.kids.map iE), .sl 1 (c.pats.map MPat.enc), .sl 7 (u.map subE)] := by rw [hcu, subE_mk]
        rw [he, hef] at hi
        have hts := List.take_succ_eq_append_getElem hlt
        have htl : (l.take k).length = k := by rw [List.length_take]; omega
        (have hWf := WFx.mk (ai @h1 <| ai @b1 <| ai @h2 <| ai @b2 <| ai @h3 <| ai @b6 <| ai @h9 <| ai @h10 <| ai @hx <| ai @he <| @htl); repeat' (first | refine zS ?_ | exact zE | with_reducible apply And.intro | refine zK (hi) ?_ | with_reducible exact zB0 | with_reducible refine zB fun hb => ?_ | exact zC | refine zT ?_ | fail))
        refine hK (l.length - (k + 1)) _ (by omega) ⟨k + 1, by omega, rfl, ?_⟩
        simp only [go_sem, simprocAttr, h1, b1, h2, b2, h3, b6, h9, h10, Int.natCast_succ, hts, List.map_append, List.map_cons, List.map_nil, hef]
      · obtain rfl : k = l.length := by omega
        rw [List.take_length] at b6
        rw [foldN_mk]
        by_cases k10 : a.kind = 10
        · have f10 := kindT k10
          obtain ⟨x, y, e, hpm⟩ := prim_of hv k10
          obtain ⟨x, y, rfl⟩ := map2 e
          obtain ⟨b, r1, hx⟩ : ∃ c u, foldN x = .mk c u := ⟨_, _, Arb.eta _⟩
          obtain ⟨c, r2, hy⟩ : ∃ c u, foldN y = .mk c u := ⟨_, _, Arb.eta _⟩
          have gx := (hG.kid (x := x) (by simp)).fold
          have gy := (hG.kid (x := y) (by simp)).fold
          have zx : b.s.size ≤ 1048576 := by
            have := gx.fd
            rw [hx, show stN (.mk b r1) = .mk b.inf (r1.map stN) from mapA_mk _ _ _] at this
            exact this.root.1
          have zy : c.s.size ≤ 1048576 := by
            have := gy.fd
            rw [hy, show stN (.mk c r2) = .mk c.inf (r2.map stN) from mapA_mk _ _ _] at this
            exact this.root.1
          have hpr := c_l09Prim a b c r1 r2 hpm zx zy
          rw [sub2] at hpr
          obtain ⟨d, r, hd⟩ : ∃ d u, foldPN a (.mk b r1) (.mk c r2) = .mk d u := ⟨_, _, Arb.eta _⟩
          have hfr : foldR MNode.inf (fun e => e.node []) a [.mk b r1, .mk c r2] = foldPN a (.mk b r1) (.mk c r2) := by
            unfold foldR foldPN; rw [if_pos (show a.inf.kind = 10 from k10)]; rfl
          simp only [List.map_cons, List.map_nil, hx, hy, subE_mk] at b6 ⊢
          rw [hfr, hd, subE_mk]
          rw [hd, subE_mk] at hpr
          simp only [List.map_cons, List.map_nil, subE_mk] at b1
          (have hWf := WFx.mk (ai @h1 <| ai @b1 <| ai @h2 <| ai @b2 <| ai @h3 <| ai @b6 <| ai @h9 <| ai @h10 <| @f10); repeat' (first | refine zS ?_ | exact zE | with_reducible apply And.intro | refine zK (hpr) ?_ | with_reducible exact zB0 | with_reducible refine zB fun hb => ?_ | exact zC | refine zT ?_ | fail))
          all_goals rfl
        have f10 := kindF k10
        by_cases k9 : a.kind = 9
        · have f9 := kindT k9
          obtain ⟨x, y, z, e⟩ := if_of hv k9
          obtain ⟨x, y, z, rfl⟩ := map3 e
          obtain ⟨b, r1, hx⟩ : ∃ c u, foldN x = .mk c u := ⟨_, _, Arb.eta _⟩
          obtain ⟨c, r2, hy⟩ : ∃ c u, foldN y = .mk c u := ⟨_, _, Arb.eta _⟩
          obtain ⟨d, r3, hz⟩ : ∃ c u, foldN z = .mk c u := ⟨_, _, Arb.eta _⟩
          have hfr : foldR MNode.inf (fun e => e.node []) a [.mk b r1, .mk c r2, .mk d r3] = if truthM b.inf = 1 then .mk c r2 else if truthM b.inf = 0 then .mk d r3 else .mk a [.mk b r1, .mk c r2, .mk d r3] := by
            unfold foldR; rw [if_neg (show ¬ a.inf.kind = 10 from k10), if_pos (show a.inf.kind = 9 from k9)]; rfl
          have htr : truthM b.inf = if b.kind = 4 ∧ b.s.toList = [116, 114, 117, 101] then 1 else if b.kind = 4 ∧ b.s.toList = [102, 97, 108, 115, 101] then 0 else -1 := rfl
          simp only [List.map_cons, List.map_nil, hx, hy, hz, subE_mk] at b6 ⊢
          simp only [List.map_cons, List.map_nil, subE_mk] at b1
          rw [hfr]
          have f19 : (a.kind == 19) = false := by rw [k9]; rfl
          have f7 : (a.kind == 7) = false := by rw [k9]; rfl
          by_cases k4 : b.kind = 4
          · have f4 := kindT k4
            by_cases q1 : b.s.toList = [116, 114, 117, 101]
            · rw [if_pos ⟨k4, q1⟩] at htr
              rw [htr, if_pos rfl, subE_mk]
              (have hWf := WFx.mk (ai @h1 <| ai @b1 <| ai @h2 <| ai @b2 <| ai @h3 <| ai @b6 <| ai @h9 <| ai @h10 <| ai @f10 <| ai @f9 <| ai @f4 <| ai (lT q1) <| @t_true); repeat' (first | refine zS ?_ | exact zE | with_reducible apply And.intro | with_reducible exact zB0 | with_reducible refine zB fun hb => ?_ | exact zC | refine zT ?_ | fail))
              all_goals rfl
            · rw [if_neg (fun q => q1 q.2)] at htr
              by_cases q2 : b.s.toList = [102, 97, 108, 115, 101]
              · rw [if_pos ⟨k4, q2⟩] at htr
                rw [htr, if_neg (by decide), if_pos rfl, subE_mk]
                (have hWf := WFx.mk (ai @h1 <| ai @b1 <| ai @h2 <| ai @b2 <| ai @h3 <| ai @b6 <| ai @h9 <| ai @h10 <| ai @f10 <| ai @f9 <| ai @f4 <| ai (lF q1) <| ai (lT q2) <| ai @t_true <| @t_false); repeat' (first | refine zS ?_ | exact zE | with_reducible apply And.intro | with_reducible exact zB0 | with_reducible refine zB fun hb => ?_ | exact zC | refine zT ?_ | fail))
                all_goals rfl
              · rw [if_neg (fun q => q2 q.2)] at htr
                rw [htr, if_neg (by decide), if_neg (by decide), sub3]
                (have hWf := WFx.mk (ai @h1 <| ai @b1 <| ai @h2 <| ai @b2 <| ai @h3 <| ai @b6 <| ai @h9 <| ai @h10 <| ai @f10 <| ai @f9 <| ai @f19 <| ai @f7 <| ai @f4 <| ai (lF q1) <| ai (lF q2) <| ai @t_true <| @t_false); repeat' (first | refine zS ?_ | exact zE | with_reducible apply And.intro | with_reducible exact zB0 | with_reducible refine zB fun hb => ?_ | exact zC | refine zT ?_ | fail))
                all_goals rfl
          · have f4 := kindF k4
            rw [if_neg (fun q => k4 q.1), if_neg (fun q => k4 q.1)] at htr
            rw [htr, if_neg (by decide), if_neg (by decide), sub3]
            (have hWf := WFx.mk (ai @h1 <| ai @b1 <| ai @h2 <| ai @b2 <| ai @h3 <| ai @b6 <| ai @h9 <| ai @h10 <| ai @f10 <| ai @f9 <| ai @f19 <| ai @f7 <| @f4); repeat' (first | refine zS ?_ | exact zE | with_reducible apply And.intro | with_reducible exact zB0 | with_reducible refine zB fun hb => ?_ | exact zC | refine zT ?_ | fail))
            all_goals rfl
        have f9 := kindF k9
        by_cases k19 : a.kind = 19
        · have f19 := kindT k19
          obtain ⟨x, y, e⟩ := seq_of hv k19
          obtain ⟨x, y, rfl⟩ := map2 e
          obtain ⟨b, r1, hx⟩ : ∃ c u, foldN x = .mk c u := ⟨_, _, Arb.eta _⟩
          obtain ⟨c, r2, hy⟩ : ∃ c u, foldN y = .mk c u := ⟨_, _, Arb.eta _⟩
          have hfr : foldR MNode.inf (fun e => e.node []) a [.mk b r1, .mk c r2] = if b.kind = 12 then .mk c r2 else .mk a [.mk b r1, .mk c r2] := by
            unfold foldR; rw [if_neg (show ¬ a.inf.kind = 10 from k10), if_neg (show ¬ a.inf.kind = 9 from k9), if_pos (show a.inf.kind = 19 from k19)]; rfl
          simp only [List.map_cons, List.map_nil, hx, hy, subE_mk] at b6 ⊢
          simp only [List.map_cons, List.map_nil, subE_mk] at b1
          rw [hfr]
          have f7 : (a.kind == 7) = false := by rw [k19]; rfl
          by_cases k12 : b.kind = 12
          · have f12 := kindT k12
            rw [if_pos k12, subE_mk]
            (have hWf := WFx.mk (ai @h1 <| ai @b1 <| ai @h2 <| ai @b2 <| ai @h3 <| ai @b6 <| ai @h9 <| ai @h10 <| ai @f10 <| ai @f9 <| ai @f19 <| @f12); repeat' (first | refine zS ?_ | exact zE | with_reducible apply And.intro | with_reducible exact zB0 | with_reducible refine zB fun hb => ?_ | exact zC | refine zT ?_ | fail))
            all_goals rfl
          · have f12 := kindF k12
            rw [if_neg k12, sub2]
            (have hWf := WFx.mk (ai @h1 <| ai @b1 <| ai @h2 <| ai @b2 <| ai @h3 <| ai @b6 <| ai @h9 <| ai @h10 <| ai @f10 <| ai @f9 <| ai @f19 <| ai @f7 <| @f12); repeat' (first | refine zS ?_ | exact zE | with_reducible apply And.intro | with_reducible exact zB0 | with_reducible refine zB fun hb => ?_ | exact zC | refine zT ?_ | fail))
            all_goals rfl
        have f19 := kindF k19
        by_cases k7 : a.kind = 7
        · have f7 := kindT k7
          obtain ⟨x, y, e⟩ := let_of hv k7
          obtain ⟨x, y, rfl⟩ := map2 e
          obtain ⟨b, r1, hx⟩ : ∃ c u, foldN x = .mk c u := ⟨_, _, Arb.eta _⟩
          obtain ⟨c, r2, hy⟩ : ∃ c u, foldN y = .mk c u := ⟨_, _, Arb.eta _⟩
          have gy := (hG.kid (x := y) (by simp)).fold
          rw [hy] at gy
          have hfr : foldR MNode.inf (fun e => e.node []) a [.mk b r1, .mk c r2] = if plainM b.inf r1.length = true ∧ countM a.s (stN (.mk c r2)) = 0 then .mk c r2 else .mk a [.mk b r1, .mk c r2] := by
            unfold foldR; rw [if_neg (show ¬ a.inf.kind = 10 from k10), if_neg (show ¬ a.inf.kind = 9 from k9), if_neg (show ¬ a.inf.kind = 19 from k19), if_pos (show a.inf.kind = 7 from k7)]; rfl
          have hpl := c_l09Plain b r1
          have hly := c_layNil (.mk c r2) gy.sz
          have hfy := c_freeLay (.mk c r2) gy a.s
          rw [subE_mk] at hpl hly
          simp only [List.map_cons, List.map_nil, hx, hy, subE_mk] at b6 ⊢
          simp only [List.map_cons, List.map_nil, subE_mk] at b1
          rw [hfr]
          cases hp : plainM b.inf r1.length with
          | true =>
            rw [hp] at hpl
            cases hc : freeB a.s (stN (.mk c r2)) with
            | true =>
              rw [hc] at hfy
              have : ¬ countM a.s (stN (.mk c r2)) = 0 := by simp only [freeB, decide_eq_true_eq] at hc; omega
              rw [if_neg (fun q => this q.2), sub2]
              (have hWf := WFx.mk (ai @h1 <| ai @b1 <| ai @h2 <| ai @b2 <| ai @h3 <| ai @b6 <| ai @h9 <| ai @h10 <| ai @f10 <| ai @f9 <| ai @f19 <| @f7); repeat' (first | refine zS ?_ | exact zE | with_reducible apply And.intro | refine zK (hpl) ?_ | refine zK (hly) ?_ | refine zK (hfy) ?_ | with_reducible exact zB0 | with_reducible refine zB fun hb => ?_ | exact zC | refine zT ?_ | fail))
              all_goals rfl
            | false =>
              rw [hc] at hfy
              have : countM a.s (stN (.mk c r2)) = 0 := by simp only [freeB, decide_eq_false_iff_not] at hc; omega
              rw [if_pos ⟨rfl, this⟩, subE_mk]
              (have hWf := WFx.mk (ai @h1 <| ai @b1 <| ai @h2 <| ai @b2 <| ai @h3 <| ai @b6 <| ai @h9 <| ai @h10 <| ai @f10 <| ai @f9 <| ai @f19 <| @f7); repeat' (first | refine zS ?_ | exact zE | with_reducible apply And.intro | refine zK (hpl) ?_ | refine zK (hly) ?_ | refine zK (hfy) ?_ | with_reducible exact zB0 | with_reducible refine zB fun hb => ?_ | exact zC | refine zT ?_ | fail))
              all_goals rfl
          | false =>
            rw [hp] at hpl
            rw [if_neg (fun q => by cases q.1), sub2]
            (have hWf := WFx.mk (ai @h1 <| ai @b1 <| ai @h2 <| ai @b2 <| ai @h3 <| ai @b6 <| ai @h9 <| ai @h10 <| ai @f10 <| ai @f9 <| ai @f19 <| @f7); repeat' (first | refine zS ?_ | exact zE | with_reducible apply And.intro | refine zK (hpl) ?_ | refine zK (hly) ?_ | refine zK (hfy) ?_ | with_reducible exact zB0 | with_reducible refine zB fun hb => ?_ | exact zC | refine zT ?_ | fail))
            all_goals rfl
        have f7 := kindF k7
        have hfr : foldR MNode.inf (fun e => e.node []) a (l.map foldN) = .mk a (l.map foldN) := by
          unfold foldR; rw [if_neg (show ¬ a.inf.kind = 10 from k10), if_neg (show ¬ a.inf.kind = 9 from k9), if_neg (show ¬ a.inf.kind = 19 from k19), if_neg (show ¬ a.inf.kind = 7 from k7)]
        rw [hfr, subE_mk]
        (have hWf := WFx.mk (ai @h1 <| ai @b1 <| ai @h2 <| ai @b2 <| ai @h3 <| ai @b6 <| ai @h9 <| ai @h10 <| ai @f10 <| ai @f9 <| ai @f19 <| @f7); repeat' (first | refine zS ?_ | exact zE | with_reducible apply And.intro | with_reducible exact zB0 | with_reducible refine zB fun hb => ?_ | exact zC | refine zT ?_ | fail))
        all_goals rw [subR_frz]
end Go.Proofs.YtgcdbmcoendcdaaGreat
