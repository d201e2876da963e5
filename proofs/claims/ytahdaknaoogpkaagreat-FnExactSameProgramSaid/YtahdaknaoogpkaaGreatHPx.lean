import Derived.Test.YtahdaknaoogpkaaGreatPxT
import Derived.Test.YtahdaknaoogpkaaGreatPaB
import Derived.Test.YtahdaknaoogpkaaGreatHNumQ
import Derived.Test.YtahdaknaoogpkaaGreatGwB
/- Patterns as trees, over the second engine: impl.growPat, patText, PrintPat; spec.l04Pat. -/
set_option maxRecDepth 100000
set_option maxHeartbeats 4000000
namespace Go.Proofs.YtahdaknaoogpkaaGreat
set_option linter.unusedVariables false
set_option linter.unusedSimpArgs false
attribute [local go_sem] List.map_nil
open Go.RowKit Arb
mutual
def pxO : PT → D
  | .mk a l => .opt [.s (.int .i64 a.kind), .s (.int .i64 a.n), .s (.string a.s), .osl 236 1 (pxOL l)]
def pxOL : List PT → List (List D)
  | [] => []
  | t :: l => [pxO t] :: pxOL l
end
mutual
def pxE : PT → D
  | .mk a l => .pt [.s (.int .i64 a.kind), .s (.int .i64 a.n), .s (.string a.s), .sl 1 (pxEL l)]
def pxEL : List PT → List (List D)
  | [] => []
  | t :: l => [pxE t] :: pxEL l
end
def pxR (t : PT) : List D := [pxO t]
def pxS (t : PT) : List D := [pxE t]
theorem pxOL_map (l : List PT) : pxOL l = l.map pxR := by
  induction l with
  | nil => rfl
  | cons t l ih => rw [pxOL, ih]; rfl
theorem pxEL_map (l : List PT) : pxEL l = l.map pxS := by
  induction l with
  | nil => rfl
  | cons t l ih => rw [pxEL, ih]; rfl
theorem pxO_mk (a : PI) (l : List PT) : pxO (.mk a l) = .opt [.s (.int .i64 a.kind), .s (.int .i64 a.n), .s (.string a.s), .osl 236 1 (l.map pxR)] := by rw [pxO, pxOL_map]
theorem pxE_mk (a : PI) (l : List PT) : pxE (.mk a l) = .pt [.s (.int .i64 a.kind), .s (.int .i64 a.n), .s (.string a.s), .sl 1 (l.map pxS)] := by rw [pxE, pxEL_map]
theorem pxS_mk (a : PI) (l : List PT) : pxS (.mk a l) = [.pt [.s (.int .i64 a.kind), .s (.int .i64 a.n), .s (.string a.s), .sl 1 (l.map pxS)]] := by show [pxE _] = _; rw [pxE_mk]
theorem px_frz : ∀ t : PT, frz (pxO t) = pxE t := fun t => by
  induction t using Arb.ind with
  | h a l ih =>
    rw [pxO_mk, pxE_mk]
    have : frzLL (l.map pxR) = l.map pxS := by
      rw [frzLL_map, List.map_map]
      refine List.map_congr_left fun x hx => ?_
      show frzL (pxR x) = pxS x
      simp only [pxR, pxS, frzL, ih x hx]
    simp only [frz, frzL, this]
theorem frA_px (t : PT) : frA (pxO t) = pxE t := by
  obtain ⟨a, l⟩ := t
  rw [← px_frz, pxO_mk]; rfl
theorem pnode_enc (a : PI) (l : List Int) : (a.node l).enc = [.s (.int .i64 a.kind), .s (.int .i64 a.n), .s (.string a.s), .sl 1 (l.map iE)] := rfl
theorem pnode_at {nodes : List DPNode} {m : Nat} {a : PI} {l : List PT} (h : At PI.node nodes m (.mk a l)) : (nodes.map DPNode.enc).getD m [] = (a.node (idxs (m + 1) l)).enc := by
  obtain ⟨hm, hr⟩ := List.getElem?_eq_some_iff.1 h.root
  rw [getD_map DPNode.enc nodes m hm, hr]
theorem c_growPatO (nodes : List DPNode) (hl : nodes.length ≤ 1000000) : ∀ (t : PT) (m : Nat), At PI.node nodes m t → FCon Tryz.prog 203 [.sl 4 (nodes.map DPNode.enc), .s (.int .i64 m)] (fun r _ => r = pxO t) := fun t => by
  induction t using Arb.ind with
  | h a l ih =>
    intro m hA
    have hm := hA.lt
    have hx := pnode_at hA
    have he := pnode_enc a (idxs (m + 1) l)
    have hil := idxs_len (m + 1) l
    have hll : l.length ≤ 1000000 := by
      have h1 := hA.bd
      have h2 := sizeL_len l
      rw [size_mk] at h1
      omega
    rw [pxO_mk]
    refine FCon.intro PM _ Tryz.func203 (by kernel_rfl) rfl _ Tryz.ntmps203 rfl [(6, 10, [7, 8, 9], [(7, 0), (7, 1), (7, 2), (7, 3), (7, 4), (8, 0), (8, 1), (8, 2), (8, 3), (8, 4), (9, 0)], (lin [7, 8, 9] [0, 1, 2, 3, 4, 5, 6, 7, 8, 9]))] (by decide +kernel) (by simp) (by simp) rfl (by first | rfl | simp only [go_sem]) ?_
    (have hWf := WFx.mk (ai @hx <| ai @he <| @hil); repeat' (first | refine zS ?_ | exact zE | with_reducible apply And.intro | with_reducible exact zB0 | with_reducible refine zB fun hb => ?_ | exact zC | refine zT ?_ | fail))
    refine ACL_ac (AC_nil 20 3 777 (row := [.s (.int .i64 a.kind), .s (.int .i64 a.n), .s (.string a.s), .nil]) 236 1 (by simp only [go_sem, simprocAttr]) rfl (by decide) rfl (AC_go ?_))
    simp only [go_sem, simprocAttr]
    refine AC_loop (fun n σ => ∃ k : Nat, k ≤ l.length ∧ n = l.length - k ∧ σ.t 0 = .sl 4 (nodes.map DPNode.enc) ∧ σ.t 6 = .bx 20 0 ∧ σ.t 22 = .sl 1 ((idxs (m + 1) l).map iE) ∧ σ.t 23 = .s (.int .i64 l.length) ∧ σ.t 24 = .s (.int .i64 k) ∧
      σ.b 20 = some (.box [.s (.int .i64 a.kind), .s (.int .i64 a.n), .s (.string a.s), .bs 777 1 k]) ∧ σ.b 777 = some (.arr 236 1 ((l.take k).map pxR))) l.length ⟨0, by omega, by omega, ?_⟩ ?_
    · simp only [go_sem, simprocAttr, Int.natCast_zero, List.take_zero]
    · rintro n σ ⟨k, hk, rfl, h0, h6, h27, h28, h29, b25, b7⟩ K' hK
      by_cases hlt : k < l.length
      · have hlt2 : k < (idxs (m + 1) l).length := by rw [hil]; exact hlt
        have hx2 := getD_map iE (idxs (m + 1) l) k hlt2
        have he2 : iE (idxs (m + 1) l)[k] = [.s (.int .i64 ((m + 1 + sizeL (l.take k) : Nat) : Int))] := by rw [idxs_at (m + 1) l k hlt]; rfl
        have hg := ih l[k] (List.getElem_mem hlt) _ (hA.kids.at k hlt)
        obtain ⟨b, r, hbr⟩ : ∃ b r, l[k] = .mk b r := ⟨_, _, Arb.eta _⟩
        have hex : pxR l[k] = [pxO l[k]] := rfl
        rw [hbr, pxO_mk] at hg hex
        have htl : (l.take k).length = k := by rw [List.length_take]; omega
        have hts := List.take_succ_eq_append_getElem hlt
        (have hWf := WFx.mk (ai @h0 <| ai @h6 <| ai @h27 <| ai @h28 <| ai @h29 <| ai @b25 <| ai @b7 <| ai @hx2 <| ai @he2 <| ai @hil <| @htl); repeat' (first | refine zS ?_ | exact zE | with_reducible apply And.intro | ((with_reducible apply q_CallE); refine CallE_mk (FCon.noout hg) ?_) | ((with_reducible apply q_CallG); refine zG (hg) ?_) | with_reducible exact zB0 | with_reducible refine zB fun hb => ?_ | exact zC | refine zT ?_ | fail))
        refine hK (l.length - (k + 1)) _ (by omega) ⟨k + 1, by omega, rfl, ?_⟩
        simp only [go_sem, simprocAttr, h0, h6, h27, h28, h29, b25, b7, Int.natCast_succ, hts, List.map_append, hbr, hex]
      · obtain rfl : k = l.length := by omega
        rw [List.take_length] at b7
        (have hWf := WFx.mk (ai @h0 <| ai @h6 <| ai @h27 <| ai @h28 <| ai @h29 <| ai @b25 <| @b7); repeat' (first | refine zS ?_ | exact zE | with_reducible apply And.intro | with_reducible exact zB0 | with_reducible refine zB fun hb => ?_ | exact zC | refine zT ?_ | fail))
theorem c_growPat (nodes : List DPNode) (hl : nodes.length ≤ 1000000) (t : PT) (m : Nat) (hA : At PI.node nodes m t) : FCon Tryz.prog 203 [.sl 4 (nodes.map DPNode.enc), .s (.int .i64 m)] (fun r _ => r = pxE t) :=
  FCon.ice ((c_growPatO nodes hl t m hA).mono fun r _ e => by subst e; exact frA_px t)
theorem z1 (a : UInt8) : (⟨#[a]⟩ : ByteArray).size = 1 := rfl
theorem z2 (a b : UInt8) : (⟨#[a, b]⟩ : ByteArray).size = 2 := rfl
theorem z4 (a b c d : UInt8) : (⟨#[a, b, c, d]⟩ : ByteArray).size = 4 := rfl
theorem lit58 : (⟨#[58, 58]⟩ : ByteArray).toList = [58, 58] := by kernel_rfl
theorem eq58_t {s : ByteArray} (h : s.toList = [58, 58]) : (s.toList == [58, 58]) = true := by simp [h]
theorem eq58_f {s : ByteArray} (h : ¬ s.toList = [58, 58]) : (s.toList == [58, 58]) = false := by simp [h]
theorem c_patText : ∀ t : PT, okP t → t.size ≤ 1000000 → FCon Tryz.prog 202 [pxE t] (fun r _ => r = .s (.string (ptx t))) := fun t => by
  induction t using Arb.indS with
  | h t ih =>
    intro ok hz
    obtain ⟨a, l⟩ := t
    have ok1 := ok.kid
    have v := ok.root
    rw [pxE_mk]
    cases v with
    | wild k e =>
      rw [ptx_wild k]
      refine FCon.intro PM _ Tryz.func202 (by kernel_rfl) rfl _ Tryz.ntmps202 rfl [(9, 16, [], [], (lin [] [0, 1, 2, 3, 4, 5, 6, 7, 8, 9, 10, 11, 12, 13, 14, 15])), (14, 26, [], [], (lin [] [0, 1, 2, 3, 4, 5, 6, 7, 8, 9, 10, 11, 12, 13, 14, 15, 16, 17, 18, 19, 20, 21, 22, 23, 24, 25])), (15, 13, [], [], (lin [] [0, 1, 2, 3, 4, 5, 6, 7, 8, 9, 10, 11, 12]))] (by decide +kernel) (by simp) (by simp) rfl (by first | rfl | simp only [go_sem]) ?_
      (have hWf := WFx.mk @k; repeat' (first | refine zS ?_ | exact zE | with_reducible apply And.intro | with_reducible exact zB0 | with_reducible refine zB fun hb => ?_ | exact zC | refine zT ?_ | fail))
    | var k e =>
      rw [ptx_var k]
      refine FCon.intro PM _ Tryz.func202 (by kernel_rfl) rfl _ Tryz.ntmps202 rfl [(9, 16, [], [], (lin [] [0, 1, 2, 3, 4, 5, 6, 7, 8, 9, 10, 11, 12, 13, 14, 15])), (14, 26, [], [], (lin [] [0, 1, 2, 3, 4, 5, 6, 7, 8, 9, 10, 11, 12, 13, 14, 15, 16, 17, 18, 19, 20, 21, 22, 23, 24, 25])), (15, 13, [], [], (lin [] [0, 1, 2, 3, 4, 5, 6, 7, 8, 9, 10, 11, 12]))] (by decide +kernel) (by simp) (by simp) rfl (by first | rfl | simp only [go_sem]) ?_
      (have hWf := WFx.mk @k; repeat' (first | refine zS ?_ | exact zE | with_reducible apply And.intro | with_reducible exact zB0 | with_reducible refine zB fun hb => ?_ | exact zC | refine zT ?_ | fail))
    | int k e h1 h2 =>
      rw [ptx_num k]
      have c1 := c_implNumText a.n ⟨by omega, by omega⟩
      refine FCon.intro PM _ Tryz.func202 (by kernel_rfl) rfl _ Tryz.ntmps202 rfl [(9, 16, [], [], (lin [] [0, 1, 2, 3, 4, 5, 6, 7, 8, 9, 10, 11, 12, 13, 14, 15])), (14, 26, [], [], (lin [] [0, 1, 2, 3, 4, 5, 6, 7, 8, 9, 10, 11, 12, 13, 14, 15, 16, 17, 18, 19, 20, 21, 22, 23, 24, 25])), (15, 13, [], [], (lin [] [0, 1, 2, 3, 4, 5, 6, 7, 8, 9, 10, 11, 12]))] (by decide +kernel) (by simp) (by simp) rfl (by first | rfl | simp only [go_sem]) ?_
      (have hWf := WFx.mk @k; repeat' (first | refine zS ?_ | exact zE | with_reducible apply And.intro | refine zK (c1) ?_ | with_reducible exact zB0 | with_reducible refine zB fun hb => ?_ | exact zC | refine zT ?_ | fail))
    | unit k e =>
      rw [ptx_unit k]
      refine FCon.intro PM _ Tryz.func202 (by kernel_rfl) rfl _ Tryz.ntmps202 rfl [(9, 16, [], [], (lin [] [0, 1, 2, 3, 4, 5, 6, 7, 8, 9, 10, 11, 12, 13, 14, 15])), (14, 26, [], [], (lin [] [0, 1, 2, 3, 4, 5, 6, 7, 8, 9, 10, 11, 12, 13, 14, 15, 16, 17, 18, 19, 20, 21, 22, 23, 24, 25])), (15, 13, [], [], (lin [] [0, 1, 2, 3, 4, 5, 6, 7, 8, 9, 10, 11, 12]))] (by decide +kernel) (by simp) (by simp) rfl (by first | rfl | simp only [go_sem]) ?_
      (have hWf := WFx.mk @k; repeat' (first | refine zS ?_ | exact zE | with_reducible apply And.intro | with_reducible exact zB0 | with_reducible refine zB fun hb => ?_ | exact zC | refine zT ?_ | fail))
    | con0 k e =>
      subst e
      rw [ptx_con0 k]
      refine FCon.intro PM _ Tryz.func202 (by kernel_rfl) rfl _ Tryz.ntmps202 rfl [(9, 16, [], [], (lin [] [0, 1, 2, 3, 4, 5, 6, 7, 8, 9, 10, 11, 12, 13, 14, 15])), (14, 26, [], [], (lin [] [0, 1, 2, 3, 4, 5, 6, 7, 8, 9, 10, 11, 12, 13, 14, 15, 16, 17, 18, 19, 20, 21, 22, 23, 24, 25])), (15, 13, [], [], (lin [] [0, 1, 2, 3, 4, 5, 6, 7, 8, 9, 10, 11, 12]))] (by decide +kernel) (by simp) (by simp) rfl (by first | rfl | simp only [go_sem]) ?_
      (have hWf := WFx.mk @k; repeat' (first | refine zS ?_ | exact zE | with_reducible apply And.intro | with_reducible exact zB0 | with_reducible refine zB fun hb => ?_ | exact zC | refine zT ?_ | fail))
    | pair x y k e =>
      subst e
      simp only [size_mk, sizeL_cons, sizeL_nil] at hz
      have c1 := ih x (size_lt (by simp)) (ok1 x (by simp)) (by omega)
      have c2 := ih y (size_lt (by simp)) (ok1 y (by simp)) (by omega)
      have s1 := ptx_size x (ok1 x (by simp))
      have s2 := ptx_size y (ok1 y (by simp))
      rw [ptx_pair k]
      clear ih ok ok1
      obtain ⟨gx, rx⟩ := x
      obtain ⟨gy, ry⟩ := y
      simp only [List.map_cons, List.map_nil, pxE_mk, pxS_mk] at c1 c2 ⊢
      refine FCon.intro PM _ Tryz.func202 (by kernel_rfl) rfl _ Tryz.ntmps202 rfl [(9, 16, [], [], (lin [] [0, 1, 2, 3, 4, 5, 6, 7, 8, 9, 10, 11, 12, 13, 14, 15])), (14, 26, [], [], (lin [] [0, 1, 2, 3, 4, 5, 6, 7, 8, 9, 10, 11, 12, 13, 14, 15, 16, 17, 18, 19, 20, 21, 22, 23, 24, 25])), (15, 13, [], [], (lin [] [0, 1, 2, 3, 4, 5, 6, 7, 8, 9, 10, 11, 12]))] (by decide +kernel) (by simp) (by simp) rfl (by first | rfl | simp only [go_sem]) ?_
      (have hWf := WFx.mk (ai @k <| ai @ByteArray.size_append <| ai @z1 <| ai @z2 <| @z4); repeat' (first | refine zS ?_ | exact zE | with_reducible apply And.intro | refine zK (c1) ?_ | refine zK (c2) ?_ | with_reducible exact zB0 | with_reducible refine zB fun hb => ?_ | exact zC | refine zT ?_ | fail))
    | cons b x y k e _ _ h =>
      subst e
      simp only [size_mk, sizeL_cons, sizeL_nil] at hz
      have ox := (ok1 (.mk b [x, y]) (by simp)).kid x (by simp)
      have oy := (ok1 (.mk b [x, y]) (by simp)).kid y (by simp)
      have c1 := ih x (size_lt2 (r := [x, y]) (by simp) (List.mem_singleton.2 rfl)) ox (by omega)
      have c2 := ih y (size_lt2 (r := [x, y]) (by simp) (List.mem_singleton.2 rfl)) oy (by omega)
      have s1 := ptx_size x ox
      have s2 := ptx_size y oy
      have h5 := eq58_t h
      rw [ptx_cons k h]
      clear ih ok ok1
      obtain ⟨gx, rx⟩ := x
      obtain ⟨gy, ry⟩ := y
      simp only [List.map_cons, List.map_nil, pxE_mk, pxS_mk] at c1 c2 ⊢
      refine FCon.intro PM _ Tryz.func202 (by kernel_rfl) rfl _ Tryz.ntmps202 rfl [(9, 16, [], [], (lin [] [0, 1, 2, 3, 4, 5, 6, 7, 8, 9, 10, 11, 12, 13, 14, 15])), (14, 26, [], [], (lin [] [0, 1, 2, 3, 4, 5, 6, 7, 8, 9, 10, 11, 12, 13, 14, 15, 16, 17, 18, 19, 20, 21, 22, 23, 24, 25])), (15, 13, [], [], (lin [] [0, 1, 2, 3, 4, 5, 6, 7, 8, 9, 10, 11, 12]))] (by decide +kernel) (by simp) (by simp) rfl (by first | rfl | simp only [go_sem]) ?_
      (have hWf := WFx.mk (ai @k <| ai @h5 <| ai @lit58 <| ai @ByteArray.size_append <| ai @z1 <| ai @z2 <| @z4); repeat' (first | refine zS ?_ | exact zE | with_reducible apply And.intro | refine zK (c1) ?_ | refine zK (c2) ?_ | with_reducible exact zB0 | with_reducible refine zB fun hb => ?_ | exact zC | refine zT ?_ | fail))
    | con1 x k e _ h =>
      subst e
      simp only [size_mk, sizeL_cons, sizeL_nil] at hz
      have c1 := ih x (size_lt (by simp)) (ok1 x (by simp)) (by omega)
      have s1 := ptx_size x (ok1 x (by simp))
      have h2 := conM_12 h
      have h5 := eq58_f (conM_ne58 h)
      rw [ptx_con1 k (conM_ne58 h)]
      clear ih ok ok1
      obtain ⟨gx, rx⟩ := x
      simp only [List.map_cons, List.map_nil, pxE_mk, pxS_mk] at c1 ⊢
      refine FCon.intro PM _ Tryz.func202 (by kernel_rfl) rfl _ Tryz.ntmps202 rfl [(9, 16, [], [], (lin [] [0, 1, 2, 3, 4, 5, 6, 7, 8, 9, 10, 11, 12, 13, 14, 15])), (14, 26, [], [], (lin [] [0, 1, 2, 3, 4, 5, 6, 7, 8, 9, 10, 11, 12, 13, 14, 15, 16, 17, 18, 19, 20, 21, 22, 23, 24, 25])), (15, 13, [], [], (lin [] [0, 1, 2, 3, 4, 5, 6, 7, 8, 9, 10, 11, 12]))] (by decide +kernel) (by simp) (by simp) rfl (by first | rfl | simp only [go_sem]) ?_
      (have hWf := WFx.mk (ai @k <| ai @h5 <| ai @lit58 <| ai @ByteArray.size_append <| ai @z1 <| ai @z2 <| @z4); repeat' (first | refine zS ?_ | exact zE | with_reducible apply And.intro | refine zK (c1) ?_ | with_reducible exact zB0 | with_reducible refine zB fun hb => ?_ | exact zC | refine zT ?_ | fail))
theorem c_PrintPat (q : MPat) (hp : patM q.nodes = true) (hc : FCon Tryz.prog 73 [.ag q.enc] (fun r _ => r = .s (.bool true))) (t : PT) (ht : q.nodes = Arb.lay PI.node 0 t) (ok : okP t) (hz : t.size ≤ 600) : FCon Tryz.prog 117 [.ag q.enc] (fun r _ => r = .s (.string (ptx t))) := by
  have hA := At.zero (f := PI.node) t
  rw [← ht] at hA
  have c1 := c_growPat q.nodes (by have := congrArg List.length ht; rw [Arb.lay_len] at this; omega) t 0 hA
  have c2 := c_patText t ok (by omega)
  rw [MPat.enc_eq] at hc ⊢
  obtain ⟨a, l⟩ := t
  rw [pxE_mk] at c1 c2
  refine FCon.intro PM _ Tryz.func117 (by kernel_rfl) rfl _ Tryz.ntmps117 rfl [] (by decide +kernel) (by simp) (by simp) rfl (by first | rfl | simp only [go_sem]) ?_
  (have hWf := f0; repeat' (first | refine zS ?_ | exact zE | with_reducible apply And.intro | refine zK (hc) ?_ | refine zK (c1) ?_ | refine zK (c2) ?_ | with_reducible exact zB0 | with_reducible refine zB fun hb => ?_ | exact zC | refine zT ?_ | fail))
theorem c_l04Pat (nodes : List DPNode) (hl : nodes.length ≤ 1000000) : ∀ (t : PT) (m : Nat), At PI.node nodes m t → okP t → FCon Tryz.prog 111 [.ag [.sl 4 (nodes.map DPNode.enc)], .s (.int .i64 m)] (fun r _ => r = .s (.string (ptx t))) := fun t => by
  induction t using Arb.indS with
  | h t ih =>
    intro m hA ok
    obtain ⟨a, l⟩ := t
    have ok1 := ok.kid
    have v := ok.root
    have hm := hA.lt
    have hz := hA.bd
    have hx := pnode_at hA
    have he := pnode_enc a (idxs (m + 1) l)
    cases v with
    | wild k e =>
      rw [ptx_wild k]
      refine FCon.intro PM _ Tryz.func111 (by kernel_rfl) rfl _ Tryz.ntmps111 rfl [(12, 14, [], [], (lin [] [0, 1, 2, 3, 4, 5, 6, 7, 8, 9, 10, 11, 12, 13])), (16, 9, [8], [(8, 0), (8, 1), (8, 2), (8, 3), (8, 4), (8, 5), (8, 6), (8, 7)], (lin [8] [0, 1, 2, 3, 4, 5, 6, 7, 8])), (17, 14, [], [], (lin [] [0, 1, 2, 3, 4, 5, 6, 7, 8, 9, 10, 11, 12, 13])), (18, 10, [], [], (lin [] [0, 1, 2, 3, 4, 5, 6, 7, 8, 9]))] (by decide +kernel) (by simp) (by simp) rfl (by first | rfl | simp only [go_sem]) ?_
      (have hWf := WFx.mk (ai @hx <| ai @he <| @k); repeat' (first | refine zS ?_ | exact zE | with_reducible apply And.intro | with_reducible exact zB0 | with_reducible refine zB fun hb => ?_ | exact zC | refine zT ?_ | fail))
    | var k e =>
      rw [ptx_var k]
      refine FCon.intro PM _ Tryz.func111 (by kernel_rfl) rfl _ Tryz.ntmps111 rfl [(12, 14, [], [], (lin [] [0, 1, 2, 3, 4, 5, 6, 7, 8, 9, 10, 11, 12, 13])), (16, 9, [8], [(8, 0), (8, 1), (8, 2), (8, 3), (8, 4), (8, 5), (8, 6), (8, 7)], (lin [8] [0, 1, 2, 3, 4, 5, 6, 7, 8])), (17, 14, [], [], (lin [] [0, 1, 2, 3, 4, 5, 6, 7, 8, 9, 10, 11, 12, 13])), (18, 10, [], [], (lin [] [0, 1, 2, 3, 4, 5, 6, 7, 8, 9]))] (by decide +kernel) (by simp) (by simp) rfl (by first | rfl | simp only [go_sem]) ?_
      (have hWf := WFx.mk (ai @hx <| ai @he <| @k); repeat' (first | refine zS ?_ | exact zE | with_reducible apply And.intro | with_reducible exact zB0 | with_reducible refine zB fun hb => ?_ | exact zC | refine zT ?_ | fail))
    | int k e h1 h2 =>
      rw [ptx_num k]
      have c1 := c_specNumText a.n ⟨by omega, by omega⟩
      refine FCon.intro PM _ Tryz.func111 (by kernel_rfl) rfl _ Tryz.ntmps111 rfl [(12, 14, [], [], (lin [] [0, 1, 2, 3, 4, 5, 6, 7, 8, 9, 10, 11, 12, 13])), (16, 9, [8], [(8, 0), (8, 1), (8, 2), (8, 3), (8, 4), (8, 5), (8, 6), (8, 7)], (lin [8] [0, 1, 2, 3, 4, 5, 6, 7, 8])), (17, 14, [], [], (lin [] [0, 1, 2, 3, 4, 5, 6, 7, 8, 9, 10, 11, 12, 13])), (18, 10, [], [], (lin [] [0, 1, 2, 3, 4, 5, 6, 7, 8, 9]))] (by decide +kernel) (by simp) (by simp) rfl (by first | rfl | simp only [go_sem]) ?_
      (have hWf := WFx.mk (ai @hx <| ai @he <| @k); repeat' (first | refine zS ?_ | exact zE | with_reducible apply And.intro | refine zK (c1) ?_ | with_reducible exact zB0 | with_reducible refine zB fun hb => ?_ | exact zC | refine zT ?_ | fail))
    | unit k e =>
      rw [ptx_unit k]
      refine FCon.intro PM _ Tryz.func111 (by kernel_rfl) rfl _ Tryz.ntmps111 rfl [(12, 14, [], [], (lin [] [0, 1, 2, 3, 4, 5, 6, 7, 8, 9, 10, 11, 12, 13])), (16, 9, [8], [(8, 0), (8, 1), (8, 2), (8, 3), (8, 4), (8, 5), (8, 6), (8, 7)], (lin [8] [0, 1, 2, 3, 4, 5, 6, 7, 8])), (17, 14, [], [], (lin [] [0, 1, 2, 3, 4, 5, 6, 7, 8, 9, 10, 11, 12, 13])), (18, 10, [], [], (lin [] [0, 1, 2, 3, 4, 5, 6, 7, 8, 9]))] (by decide +kernel) (by simp) (by simp) rfl (by first | rfl | simp only [go_sem]) ?_
      (have hWf := WFx.mk (ai @hx <| ai @he <| @k); repeat' (first | refine zS ?_ | exact zE | with_reducible apply And.intro | with_reducible exact zB0 | with_reducible refine zB fun hb => ?_ | exact zC | refine zT ?_ | fail))
    | con0 k e =>
      subst e
      have hid : (idxs (m + 1) ([] : List PT)).map iE = [] := rfl
      rw [hid] at he
      rw [ptx_con0 k]
      refine FCon.intro PM _ Tryz.func111 (by kernel_rfl) rfl _ Tryz.ntmps111 rfl [(12, 14, [], [], (lin [] [0, 1, 2, 3, 4, 5, 6, 7, 8, 9, 10, 11, 12, 13])), (16, 9, [8], [(8, 0), (8, 1), (8, 2), (8, 3), (8, 4), (8, 5), (8, 6), (8, 7)], (lin [8] [0, 1, 2, 3, 4, 5, 6, 7, 8])), (17, 14, [], [], (lin [] [0, 1, 2, 3, 4, 5, 6, 7, 8, 9, 10, 11, 12, 13])), (18, 10, [], [], (lin [] [0, 1, 2, 3, 4, 5, 6, 7, 8, 9]))] (by decide +kernel) (by simp) (by simp) rfl (by first | rfl | simp only [go_sem]) ?_
      (have hWf := WFx.mk (ai @hx <| ai @he <| @k); repeat' (first | refine zS ?_ | exact zE | with_reducible apply And.intro | with_reducible exact zB0 | with_reducible refine zB fun hb => ?_ | exact zC | refine zT ?_ | fail))
    | pair x y k e =>
      subst e
      have hid : (idxs (m + 1) ([x, y] : List PT)).map iE = [[.s (.int .i64 ((m + 1 : Nat) : Int))], [.s (.int .i64 ((m + 1 + x.size : Nat) : Int))]] := rfl
      rw [hid] at he
      simp only [size_mk, sizeL_cons, sizeL_nil] at hz
      have c1 := ih x (size_lt (by simp)) (m + 1) hA.kids.head (ok1 x (by simp))
      have c2 := ih y (size_lt (by simp)) (m + 1 + x.size) hA.kids.tail.head (ok1 y (by simp))
      have s1 := ptx_size x (ok1 x (by simp))
      have s2 := ptx_size y (ok1 y (by simp))
      rw [ptx_pair k]
      clear ih ok ok1
      refine FCon.intro PM _ Tryz.func111 (by kernel_rfl) rfl _ Tryz.ntmps111 rfl [(12, 14, [], [], (lin [] [0, 1, 2, 3, 4, 5, 6, 7, 8, 9, 10, 11, 12, 13])), (16, 9, [8], [(8, 0), (8, 1), (8, 2), (8, 3), (8, 4), (8, 5), (8, 6), (8, 7)], (lin [8] [0, 1, 2, 3, 4, 5, 6, 7, 8])), (17, 14, [], [], (lin [] [0, 1, 2, 3, 4, 5, 6, 7, 8, 9, 10, 11, 12, 13])), (18, 10, [], [], (lin [] [0, 1, 2, 3, 4, 5, 6, 7, 8, 9]))] (by decide +kernel) (by simp) (by simp) rfl (by first | rfl | simp only [go_sem]) ?_
      (have hWf := WFx.mk (ai @hx <| ai @he <| ai @k <| ai @ByteArray.size_append <| ai @z1 <| ai @z2 <| @z4); repeat' (first | refine zS ?_ | exact zE | with_reducible apply And.intro | refine zK (c1) ?_ | refine zK (c2) ?_ | with_reducible exact zB0 | with_reducible refine zB fun hb => ?_ | exact zC | refine zT ?_ | fail))
    | cons b x y k e _ _ h =>
      subst e
      have hid : (idxs (m + 1) ([.mk b [x, y]] : List PT)).map iE = [[.s (.int .i64 ((m + 1 : Nat) : Int))]] := rfl
      rw [hid] at he
      simp only [size_mk, sizeL_cons, sizeL_nil] at hz
      have hB := hA.kids.head
      have hxb := pnode_at hB
      have heb := pnode_enc b (idxs (m + 1 + 1) [x, y])
      have hib : (idxs (m + 1 + 1) ([x, y] : List PT)).map iE = [[.s (.int .i64 ((m + 1 + 1 : Nat) : Int))], [.s (.int .i64 ((m + 1 + 1 + x.size : Nat) : Int))]] := rfl
      rw [hib] at heb
      have ox := (ok1 (.mk b [x, y]) (by simp)).kid x (by simp)
      have oy := (ok1 (.mk b [x, y]) (by simp)).kid y (by simp)
      have c1 := ih x (size_lt2 (r := [x, y]) (by simp) (List.mem_singleton.2 rfl)) (m + 1 + 1) hB.kids.head ox
      have c2 := ih y (size_lt2 (r := [x, y]) (by simp) (List.mem_singleton.2 rfl)) (m + 1 + 1 + x.size) hB.kids.tail.head oy
      have s1 := ptx_size x ox
      have s2 := ptx_size y oy
      have h5 := eq58_t h
      rw [ptx_cons k h]
      clear ih ok ok1
      refine FCon.intro PM _ Tryz.func111 (by kernel_rfl) rfl _ Tryz.ntmps111 rfl [(12, 14, [], [], (lin [] [0, 1, 2, 3, 4, 5, 6, 7, 8, 9, 10, 11, 12, 13])), (16, 9, [8], [(8, 0), (8, 1), (8, 2), (8, 3), (8, 4), (8, 5), (8, 6), (8, 7)], (lin [8] [0, 1, 2, 3, 4, 5, 6, 7, 8])), (17, 14, [], [], (lin [] [0, 1, 2, 3, 4, 5, 6, 7, 8, 9, 10, 11, 12, 13])), (18, 10, [], [], (lin [] [0, 1, 2, 3, 4, 5, 6, 7, 8, 9]))] (by decide +kernel) (by simp) (by simp) rfl (by first | rfl | simp only [go_sem]) ?_
      (have hWf := WFx.mk (ai @hx <| ai @he <| ai @hxb <| ai @heb <| ai @k <| ai @h5 <| ai @lit58 <| ai @ByteArray.size_append <| ai @z1 <| ai @z2 <| @z4); repeat' (first | refine zS ?_ | exact zE | with_reducible apply And.intro | refine zK (c1) ?_ | refine zK (c2) ?_ | with_reducible exact zB0 | with_reducible refine zB fun hb => ?_ | exact zC | refine zT ?_ | fail))
    | con1 x k e _ h =>
      subst e
      have hid : (idxs (m + 1) ([x] : List PT)).map iE = [[.s (.int .i64 ((m + 1 : Nat) : Int))]] := rfl
      rw [hid] at he
      simp only [size_mk, sizeL_cons, sizeL_nil] at hz
      have c1 := ih x (size_lt (by simp)) (m + 1) hA.kids.head (ok1 x (by simp))
      have s1 := ptx_size x (ok1 x (by simp))
      have h2 := conM_12 h
      have h5 := eq58_f (conM_ne58 h)
      rw [ptx_con1 k (conM_ne58 h)]
      clear ih ok ok1
      refine FCon.intro PM _ Tryz.func111 (by kernel_rfl) rfl _ Tryz.ntmps111 rfl [(12, 14, [], [], (lin [] [0, 1, 2, 3, 4, 5, 6, 7, 8, 9, 10, 11, 12, 13])), (16, 9, [8], [(8, 0), (8, 1), (8, 2), (8, 3), (8, 4), (8, 5), (8, 6), (8, 7)], (lin [8] [0, 1, 2, 3, 4, 5, 6, 7, 8])), (17, 14, [], [], (lin [] [0, 1, 2, 3, 4, 5, 6, 7, 8, 9, 10, 11, 12, 13])), (18, 10, [], [], (lin [] [0, 1, 2, 3, 4, 5, 6, 7, 8, 9]))] (by decide +kernel) (by simp) (by simp) rfl (by first | rfl | simp only [go_sem]) ?_
      (have hWf := WFx.mk (ai @hx <| ai @he <| ai @k <| ai @h5 <| ai @lit58 <| ai @ByteArray.size_append <| ai @z1 <| ai @z2 <| @z4); repeat' (first | refine zS ?_ | exact zE | with_reducible apply And.intro | refine zK (c1) ?_ | with_reducible exact zB0 | with_reducible refine zB fun hb => ?_ | exact zC | refine zT ?_ | fail))
end Go.Proofs.YtahdaknaoogpkaaGreat
