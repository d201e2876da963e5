import Derived.Test.YtahdaknaoogpkaaGreatGoN
/- The text of an expression, over the second engine: spec.l04Expr. Printed by exs.py. -/
set_option maxRecDepth 100000
set_option maxHeartbeats 4000000
namespace Go.Proofs.YtahdaknaoogpkaaGreat
set_option linter.unusedVariables false
set_option linter.unusedSimpArgs false
attribute [local go_sem] List.map_cons List.map_nil
open Go.RowKit Arb
theorem enode_enc (a : EI) (l : List Int) : (a.node l).enc = [.s (.int .i64 a.kind), .s (.int .i64 a.at_), .s (.int .i64 a.n), .s (.string a.s), .sl 1 (l.map iE), .sl 1 (a.pats.map MPat.enc)] := rfl
theorem enode_at {nodes : List MNode} {m : Nat} {a : EI} {l : List ET} (h : At EI.node nodes m (.mk a l)) : (nodes.map MNode.enc).getD m [] = (a.node (idxs (m + 1) l)).enc := by
  obtain ⟨hm, hr⟩ := List.getElem?_eq_some_iff.1 h.root
  rw [getD_map MNode.enc nodes m hm, hr]
theorem shape_ne58 {s : ByteArray} (h : shapeM s 0 false = true) : ¬ s.toList = [58, 58] := by
  intro q; unfold shapeM at h; simp [q] at h
theorem bs_appL (l m : List UInt8) : bs (l ++ m) = bs l ++ bs m := (str_app l m).symm
theorem joinB_succ {L : List ByteArray} {j : Nat} (h : j < L.length) : joinB (L.take (j + 1)) = if j = 0 then L[j] else joinB (L.take j) ++ ⟨#[32, 124, 32]⟩ ++ L[j] := by
  cases L with
  | nil => simp at h
  | cons x r =>
    cases j with
    | zero => simp [joinB, Lib.join_one, bs_of]
    | succ j =>
      have h' : j < r.length := by simpa using h
      rw [if_neg (by omega)]
      unfold joinB
      have hr : (r.map fun x => x.data.toList)[j]? = some (r[j]).data.toList := by rw [List.getElem?_map, List.getElem?_eq_getElem h']; rfl
      rw [List.take_succ_cons, List.take_succ_cons, List.map_cons, List.map_cons, Lib.join_cons, Lib.join_cons, List.map_take, List.map_take, Lib.joinTail_take_succ _ _ _ _ hr]
      rw [← List.append_assoc, ← List.append_assoc, bs_appL, bs_appL, bs_of]
      rfl
theorem armsJ_size {qs : List MPat} {l : List ET} {j : Nat} (h1 : ∀ q ∈ qs, patM q.nodes = true) (h2 : ∀ t ∈ l, (etx t).size + 40000 ≤ 5000000 * t.size) (h3 : qs.length = l.length) : (joinB (((qs.zip (l.map etx)).map fun p => armT p.1 p.2).take j)).size ≤ 5000000 * sizeL l := by
  have h := armsT_size (qs := qs.take j) (l := l.take j) (fun q hq => h1 q (List.mem_of_mem_take hq)) (fun t ht => h2 t (List.mem_of_mem_take ht)) (by rw [List.length_take, List.length_take, h3])
  have e := sizeL_app (l.take j) (l.drop j)
  rw [List.take_append_drop] at e
  unfold armsT at h
  rw [← List.map_take, List.zip_eq_zipWith, List.take_zipWith, ← List.zip_eq_zipWith, ← List.map_take]
  omega
theorem joinB_nil : joinB [] = ByteArray.empty := rfl
abbrev XS (ts : List MType) (nodes : List MNode) (t : ET) (m : Nat) : Prop := FCon Tryz.prog 40 [.ag [.sl 3 (ts.map MType.enc), .sl 6 (nodes.map MNode.enc)], .s (.int .i64 m)] (fun r _ => r = .s (.string (etx t)))
theorem c_l04PatT (q : MPat) (hp : patM q.nodes = true) : FCon Tryz.prog 111 [.ag q.enc, .s (.int .i64 0)] (fun r _ => r = .s (.string (ptT q))) := by
  obtain ⟨h1, h2, h3⟩ := ptree_spec hp
  have hA := At.zero (f := PI.node) (ptree q.nodes)
  rw [← h1] at hA
  have := c_l04Pat q.nodes (by have := patM_len hp; omega) (ptree q.nodes) 0 hA h2
  rw [MPat.enc_eq]; exact this
theorem c_exS1 (ts : List MType) (nodes : List MNode) (hnl : nodes.length ≤ 1000) (m : Nat) (a : EI) (l : List ET) (hA : At EI.node nodes m (.mk a l)) (hk : a.kind = 4) (h58 : (a.s.toList == [58, 58]) = false) (ok : okT (.mk a l)) (g : All goN (.mk a l)) (ih : ∀ (x : ET) (m : Nat), At EI.node nodes m x → x.size < (Arb.mk a l).size → okT x → All goN x → XS ts nodes x m) : XS ts nodes (.mk a l) m := by
  have hz : (Arb.mk a l).size ≤ 1000 := by have := hA.bd; omega
  have ok1 := ok.kid
  have g1 := g.kid
  have hs := g.root.s
  have hx := enode_at hA
  have he := enode_enc a (idxs (m + 1) l)
  have hil := idxs_len (m + 1) l
  have hm := hA.lt
  have hll : l.length ≤ 1000 := by have := sizeL_len l; rw [size_mk] at hz; omega
  have v := ok.root.v
  unfold XS
  have hk8 : (a.kind == 8) = false := by simp; omega
  have hk4 : (a.kind == 4) = true := by simp; omega
  refine FCon.intro PM _ Tryz.func40 (by kernel_rfl) rfl _ Tryz.ntmps40 rfl [(20, 7, [], [], (lin [] [0, 1, 2, 3, 4, 5, 6])), (22, 9, [8], [(8, 0), (8, 1), (8, 2), (8, 3), (8, 4), (8, 5), (8, 6), (8, 7)], (lin [8] [0, 1, 2, 3, 4, 5, 6, 7, 8])), (24, 8, [], [], (lin [] [0, 1, 2, 3, 4, 5, 6, 7])), (25, 8, [], [], (lin [] [0, 1, 2, 3, 4, 5, 6, 7])), (27, 12, [], [], (lin [] [0, 1, 2, 3, 4, 5, 6, 7, 8, 9, 10, 11])), (29, 9, [8], [(8, 0), (8, 1), (8, 2), (8, 3), (8, 4), (8, 5), (8, 6), (8, 7)], (lin [8] [0, 1, 2, 3, 4, 5, 6, 7, 8])), (30, 19, [], [], (lin [] [0, 1, 2, 3, 4, 5, 6, 7, 8, 9, 10, 11, 12, 13, 14, 15, 16, 17, 18])), (32, 13, [], [], (lin [] [0, 1, 2, 3, 4, 5, 6, 7, 8, 9, 10, 11, 12])), (34, 12, [], [], (lin [] [0, 1, 2, 3, 4, 5, 6, 7, 8, 9, 10, 11])), (36, 8, [], [], (lin [] [0, 1, 2, 3, 4, 5, 6, 7])), (40, 12, [], [], (lin [] [0, 1, 2, 3, 4, 5, 6, 7, 8, 9, 10, 11])), (46, 8, [], [], (lin [] [0, 1, 2, 3, 4, 5, 6, 7])), (48, 8, [], [], (lin [] [0, 1, 2, 3, 4, 5, 6, 7])), (53, 9, [8], [(8, 0), (8, 1), (8, 2), (8, 3), (8, 4), (8, 5), (8, 6), (8, 7)], (lin [8] [0, 1, 2, 3, 4, 5, 6, 7, 8])), (54, 14, [], [], (lin [] [0, 1, 2, 3, 4, 5, 6, 7, 8, 9, 10, 11, 12, 13])), (55, 7, [], [], (lin [] [0, 1, 2, 3, 4, 5, 6])), (62, 10, [], [], (lin [] [0, 1, 2, 3, 4, 5, 6, 7, 8, 9]))] (by decide +kernel) (by simp) (by simp) rfl (by first | rfl | simp only [go_sem]) ?_
  (have hWf := WFx.mk (ai @hx <| ai @he <| @hil); repeat' (first | refine zS ?_ | exact zE | with_reducible apply And.intro | with_reducible exact zB0 | with_reducible refine zB fun hb => ?_ | exact zC | refine zT ?_ | fail))
  refine AC_loop (fun n σ => ∃ k : Nat, k ≤ l.length ∧ n = l.length - k ∧ σ.t 2 = .bx 2 0 ∧ σ.b 2 = some (.box [.sl 3 (ts.map MType.enc), .sl 6 (nodes.map MNode.enc)]) ∧ σ.t 5 = .bx 5 0 ∧ σ.b 5 = some (.box [.s (.int .i64 a.kind), .s (.int .i64 a.at_), .s (.int .i64 a.n), .s (.string a.s), .sl 1 ((idxs (m + 1) l).map iE), .sl 1 (a.pats.map MPat.enc)]) ∧ σ.t 6 = .bs 20 1 k ∧ σ.t 22 = .sl 1 ((idxs (m + 1) l).map iE) ∧ σ.t 23 = .s (.int .i64 l.length) ∧ σ.t 24 = .s (.int .i64 k) ∧ σ.b 20 = some (.arr 9 1 ((l.take k).map etR))) l.length ⟨0, by omega, by omega, ?_⟩ ?_
  · simp only [go_sem, simprocAttr, Int.natCast_zero, List.take_zero]
  · rintro n σ ⟨k, hk', rfl, h2, b2, h5, b5, h6, h22, h23, h24, b20⟩ K' hK
    by_cases hlt : k < l.length
    · have hlt2 : k < (idxs (m + 1) l).length := by rw [hil]; exact hlt
      have hx2 := getD_map iE (idxs (m + 1) l) k hlt2
      have he2 : iE (idxs (m + 1) l)[k] = [.s (.int .i64 ((m + 1 + sizeL (l.take k) : Nat) : Int))] := by rw [idxs_at (m + 1) l k hlt]; rfl
      have hc := ih l[k] _ (hA.kids.at k hlt) (size_lt (List.getElem_mem hlt)) (ok1 _ (List.getElem_mem hlt)) (g1 _ (List.getElem_mem hlt))
      unfold XS at hc
      have her := etR_eq l[k]
      have htl : (l.take k).length = k := by rw [List.length_take]; omega
      have hts := List.take_succ_eq_append_getElem hlt
      (have hWf := WFx.mk (ai @h2 <| ai @b2 <| ai @h5 <| ai @b5 <| ai @h6 <| ai @h22 <| ai @h23 <| ai @h24 <| ai @b20 <| ai @hx2 <| ai @he2 <| ai @hil <| ai @htl <| ai @hk8 <| ai @hk4 <| ai @lit58 <| @h58); repeat' (first | refine zS ?_ | exact zE | with_reducible apply And.intro | refine zK (hc) ?_ | with_reducible exact zB0 | with_reducible refine zB fun hb => ?_ | exact zC | refine zT ?_ | fail))
      all_goals
        refine hK (l.length - (k + 1)) _ (by omega) ⟨k + 1, by omega, rfl, ?_⟩
        simp only [go_sem, simprocAttr, h2, b2, h5, b5, h6, h22, h23, h24, b20, Int.natCast_succ, hts, List.map_append, her]
    · obtain rfl : k = l.length := by omega
      rw [List.take_length] at b20
      cases v with
      | con0 k e =>
        subst e
        rw [etx_con0 k]
        clear ih ok ok1 g g1 hA hx he
        (have hWf := WFx.mk (ai @h2 <| ai @b2 <| ai @h5 <| ai @b5 <| ai @h6 <| ai @h22 <| ai @h23 <| ai @h24 <| ai @b20 <| ai @k <| @etR_eq); repeat' (first | refine zS ?_ | exact zE | with_reducible apply And.intro | with_reducible exact zB0 | with_reducible refine zB fun hb => ?_ | exact zC | refine zT ?_ | fail))
      | con1 x k e hc =>
        subst e
        simp only [size_mk, sizeL_cons, sizeL_nil] at hz
        have sx := etx_le (ok1 x (by simp)) (g1 x (by simp)) (by omega)
        rw [etx_con1 k (conM_ne58 hc)]
        clear ih ok ok1 g g1 hA hx he
        (have hWf := WFx.mk (ai @h2 <| ai @b2 <| ai @h5 <| ai @b5 <| ai @h6 <| ai @h22 <| ai @h23 <| ai @h24 <| ai @b20 <| ai @k <| ai @etR_eq <| ai @lit58 <| ai @h58 <| ai @ByteArray.size_append <| ai @z1 <| ai @z2 <| ai @z3 <| ai @z4 <| ai @z5 <| ai @z6 <| ai @z7 <| @z9); repeat' (first | refine zS ?_ | exact zE | with_reducible apply And.intro | with_reducible exact zB0 | with_reducible refine zB fun hb => ?_ | exact zC | refine zT ?_ | fail))
      | cons b x y k e hk2 hs58 => exfalso; rw [eq58_t hs58] at h58; cases h58
      | _ => exfalso; omega
theorem c_exS2 (ts : List MType) (nodes : List MNode) (hnl : nodes.length ≤ 1000) (m : Nat) (a : EI) (l : List ET) (hA : At EI.node nodes m (.mk a l)) (hk : a.kind = 1 ∨ a.kind = 2 ∨ a.kind = 3 ∨ a.kind = 5 ∨ a.kind = 12) (ok : okT (.mk a l)) (g : All goN (.mk a l)) (ih : ∀ (x : ET) (m : Nat), At EI.node nodes m x → x.size < (Arb.mk a l).size → okT x → All goN x → XS ts nodes x m) : XS ts nodes (.mk a l) m := by
  have hz : (Arb.mk a l).size ≤ 1000 := by have := hA.bd; omega
  have ok1 := ok.kid
  have g1 := g.kid
  have hs := g.root.s
  have hx := enode_at hA
  have he := enode_enc a (idxs (m + 1) l)
  have hil := idxs_len (m + 1) l
  have hm := hA.lt
  have hll : l.length ≤ 1000 := by have := sizeL_len l; rw [size_mk] at hz; omega
  have v := ok.root.v
  unfold XS
  have hk8 : (a.kind == 8) = false := by simp; omega
  have hk4 : (a.kind == 4) = false := by simp; omega
  refine FCon.intro PM _ Tryz.func40 (by kernel_rfl) rfl _ Tryz.ntmps40 rfl [(20, 7, [], [], (lin [] [0, 1, 2, 3, 4, 5, 6])), (22, 9, [8], [(8, 0), (8, 1), (8, 2), (8, 3), (8, 4), (8, 5), (8, 6), (8, 7)], (lin [8] [0, 1, 2, 3, 4, 5, 6, 7, 8])), (24, 8, [], [], (lin [] [0, 1, 2, 3, 4, 5, 6, 7])), (25, 8, [], [], (lin [] [0, 1, 2, 3, 4, 5, 6, 7])), (27, 12, [], [], (lin [] [0, 1, 2, 3, 4, 5, 6, 7, 8, 9, 10, 11])), (29, 9, [8], [(8, 0), (8, 1), (8, 2), (8, 3), (8, 4), (8, 5), (8, 6), (8, 7)], (lin [8] [0, 1, 2, 3, 4, 5, 6, 7, 8])), (30, 19, [], [], (lin [] [0, 1, 2, 3, 4, 5, 6, 7, 8, 9, 10, 11, 12, 13, 14, 15, 16, 17, 18])), (32, 13, [], [], (lin [] [0, 1, 2, 3, 4, 5, 6, 7, 8, 9, 10, 11, 12])), (34, 12, [], [], (lin [] [0, 1, 2, 3, 4, 5, 6, 7, 8, 9, 10, 11])), (36, 8, [], [], (lin [] [0, 1, 2, 3, 4, 5, 6, 7])), (40, 12, [], [], (lin [] [0, 1, 2, 3, 4, 5, 6, 7, 8, 9, 10, 11])), (46, 8, [], [], (lin [] [0, 1, 2, 3, 4, 5, 6, 7])), (48, 8, [], [], (lin [] [0, 1, 2, 3, 4, 5, 6, 7])), (53, 9, [8], [(8, 0), (8, 1), (8, 2), (8, 3), (8, 4), (8, 5), (8, 6), (8, 7)], (lin [8] [0, 1, 2, 3, 4, 5, 6, 7, 8])), (54, 14, [], [], (lin [] [0, 1, 2, 3, 4, 5, 6, 7, 8, 9, 10, 11, 12, 13])), (55, 7, [], [], (lin [] [0, 1, 2, 3, 4, 5, 6])), (62, 10, [], [], (lin [] [0, 1, 2, 3, 4, 5, 6, 7, 8, 9]))] (by decide +kernel) (by simp) (by simp) rfl (by first | rfl | simp only [go_sem]) ?_
  (have hWf := WFx.mk (ai @hx <| ai @he <| @hil); repeat' (first | refine zS ?_ | exact zE | with_reducible apply And.intro | with_reducible exact zB0 | with_reducible refine zB fun hb => ?_ | exact zC | refine zT ?_ | fail))
  refine AC_loop (fun n σ => ∃ k : Nat, k ≤ l.length ∧ n = l.length - k ∧ σ.t 2 = .bx 2 0 ∧ σ.b 2 = some (.box [.sl 3 (ts.map MType.enc), .sl 6 (nodes.map MNode.enc)]) ∧ σ.t 5 = .bx 5 0 ∧ σ.b 5 = some (.box [.s (.int .i64 a.kind), .s (.int .i64 a.at_), .s (.int .i64 a.n), .s (.string a.s), .sl 1 ((idxs (m + 1) l).map iE), .sl 1 (a.pats.map MPat.enc)]) ∧ σ.t 6 = .bs 20 1 k ∧ σ.t 22 = .sl 1 ((idxs (m + 1) l).map iE) ∧ σ.t 23 = .s (.int .i64 l.length) ∧ σ.t 24 = .s (.int .i64 k) ∧ σ.b 20 = some (.arr 9 1 ((l.take k).map etR))) l.length ⟨0, by omega, by omega, ?_⟩ ?_
  · simp only [go_sem, simprocAttr, Int.natCast_zero, List.take_zero]
  · rintro n σ ⟨k, hk', rfl, h2, b2, h5, b5, h6, h22, h23, h24, b20⟩ K' hK
    by_cases hlt : k < l.length
    · have hlt2 : k < (idxs (m + 1) l).length := by rw [hil]; exact hlt
      have hx2 := getD_map iE (idxs (m + 1) l) k hlt2
      have he2 : iE (idxs (m + 1) l)[k] = [.s (.int .i64 ((m + 1 + sizeL (l.take k) : Nat) : Int))] := by rw [idxs_at (m + 1) l k hlt]; rfl
      have hc := ih l[k] _ (hA.kids.at k hlt) (size_lt (List.getElem_mem hlt)) (ok1 _ (List.getElem_mem hlt)) (g1 _ (List.getElem_mem hlt))
      unfold XS at hc
      have her := etR_eq l[k]
      have htl : (l.take k).length = k := by rw [List.length_take]; omega
      have hts := List.take_succ_eq_append_getElem hlt
      (have hWf := WFx.mk (ai @h2 <| ai @b2 <| ai @h5 <| ai @b5 <| ai @h6 <| ai @h22 <| ai @h23 <| ai @h24 <| ai @b20 <| ai @hx2 <| ai @he2 <| ai @hil <| ai @htl <| ai @hk8 <| @hk4); repeat' (first | refine zS ?_ | exact zE | with_reducible apply And.intro | refine zK (hc) ?_ | with_reducible exact zB0 | with_reducible refine zB fun hb => ?_ | exact zC | refine zT ?_ | fail))
      all_goals
        refine hK (l.length - (k + 1)) _ (by omega) ⟨k + 1, by omega, rfl, ?_⟩
        simp only [go_sem, simprocAttr, h2, b2, h5, b5, h6, h22, h23, h24, b20, Int.natCast_succ, hts, List.map_append, her]
    · obtain rfl : k = l.length := by omega
      rw [List.take_length] at b20
      cases v with
      | int k e n0 n1 =>
        subst e
        rw [etx_int k]
        have c1 := c_specNumText a.n ⟨by omega, by omega⟩
        clear ih ok ok1 g g1 hA hx he
        (have hWf := WFx.mk (ai @h2 <| ai @b2 <| ai @h5 <| ai @b5 <| ai @h6 <| ai @h22 <| ai @h23 <| ai @h24 <| ai @b20 <| ai @k <| @etR_eq); repeat' (first | refine zS ?_ | exact zE | with_reducible apply And.intro | refine zK (c1) ?_ | with_reducible exact zB0 | with_reducible refine zB fun hb => ?_ | exact zC | refine zT ?_ | fail))
      | str k e =>
        subst e
        rw [etx_str k]
        have c1 := c_specQuote a.s (by omega)
        clear ih ok ok1 g g1 hA hx he
        (have hWf := WFx.mk (ai @h2 <| ai @b2 <| ai @h5 <| ai @b5 <| ai @h6 <| ai @h22 <| ai @h23 <| ai @h24 <| ai @b20 <| ai @k <| @etR_eq); repeat' (first | refine zS ?_ | exact zE | with_reducible apply And.intro | refine zK (c1) ?_ | with_reducible exact zB0 | with_reducible refine zB fun hb => ?_ | exact zC | refine zT ?_ | fail))
      | var k e =>
        subst e
        rw [etx_var k]
        clear ih ok ok1 g g1 hA hx he
        (have hWf := WFx.mk (ai @h2 <| ai @b2 <| ai @h5 <| ai @b5 <| ai @h6 <| ai @h22 <| ai @h23 <| ai @h24 <| ai @b20 <| ai @k <| @etR_eq); repeat' (first | refine zS ?_ | exact zE | with_reducible apply And.intro | with_reducible exact zB0 | with_reducible refine zB fun hb => ?_ | exact zC | refine zT ?_ | fail))
      | func x k e =>
        subst e
        simp only [size_mk, sizeL_cons, sizeL_nil] at hz
        have sx := etx_le (ok1 x (by simp)) (g1 x (by simp)) (by omega)
        rw [etx_func k]
        clear ih ok ok1 g g1 hA hx he
        (have hWf := WFx.mk (ai @h2 <| ai @b2 <| ai @h5 <| ai @b5 <| ai @h6 <| ai @h22 <| ai @h23 <| ai @h24 <| ai @b20 <| ai @k <| ai @etR_eq <| ai @ByteArray.size_append <| ai @z1 <| ai @z2 <| ai @z3 <| ai @z4 <| ai @z5 <| ai @z6 <| ai @z7 <| @z9); repeat' (first | refine zS ?_ | exact zE | with_reducible apply And.intro | with_reducible exact zB0 | with_reducible refine zB fun hb => ?_ | exact zC | refine zT ?_ | fail))
      | unit k e =>
        subst e
        rw [etx_unit k]
        clear ih ok ok1 g g1 hA hx he
        (have hWf := WFx.mk (ai @h2 <| ai @b2 <| ai @h5 <| ai @b5 <| ai @h6 <| ai @h22 <| ai @h23 <| ai @h24 <| ai @b20 <| ai @k <| @etR_eq); repeat' (first | refine zS ?_ | exact zE | with_reducible apply And.intro | with_reducible exact zB0 | with_reducible refine zB fun hb => ?_ | exact zC | refine zT ?_ | fail))
      | _ => exfalso; omega
theorem c_exS3 (ts : List MType) (nodes : List MNode) (hnl : nodes.length ≤ 1000) (m : Nat) (a : EI) (l : List ET) (hA : At EI.node nodes m (.mk a l)) (hk : a.kind = 6 ∨ a.kind = 7) (ok : okT (.mk a l)) (g : All goN (.mk a l)) (ih : ∀ (x : ET) (m : Nat), At EI.node nodes m x → x.size < (Arb.mk a l).size → okT x → All goN x → XS ts nodes x m) : XS ts nodes (.mk a l) m := by
  have hz : (Arb.mk a l).size ≤ 1000 := by have := hA.bd; omega
  have ok1 := ok.kid
  have g1 := g.kid
  have hs := g.root.s
  have hx := enode_at hA
  have he := enode_enc a (idxs (m + 1) l)
  have hil := idxs_len (m + 1) l
  have hm := hA.lt
  have hll : l.length ≤ 1000 := by have := sizeL_len l; rw [size_mk] at hz; omega
  have v := ok.root.v
  unfold XS
  have hk8 : (a.kind == 8) = false := by simp; omega
  have hk4 : (a.kind == 4) = false := by simp; omega
  refine FCon.intro PM _ Tryz.func40 (by kernel_rfl) rfl _ Tryz.ntmps40 rfl [(20, 7, [], [], (lin [] [0, 1, 2, 3, 4, 5, 6])), (22, 9, [8], [(8, 0), (8, 1), (8, 2), (8, 3), (8, 4), (8, 5), (8, 6), (8, 7)], (lin [8] [0, 1, 2, 3, 4, 5, 6, 7, 8])), (24, 8, [], [], (lin [] [0, 1, 2, 3, 4, 5, 6, 7])), (25, 8, [], [], (lin [] [0, 1, 2, 3, 4, 5, 6, 7])), (27, 12, [], [], (lin [] [0, 1, 2, 3, 4, 5, 6, 7, 8, 9, 10, 11])), (29, 9, [8], [(8, 0), (8, 1), (8, 2), (8, 3), (8, 4), (8, 5), (8, 6), (8, 7)], (lin [8] [0, 1, 2, 3, 4, 5, 6, 7, 8])), (30, 19, [], [], (lin [] [0, 1, 2, 3, 4, 5, 6, 7, 8, 9, 10, 11, 12, 13, 14, 15, 16, 17, 18])), (32, 13, [], [], (lin [] [0, 1, 2, 3, 4, 5, 6, 7, 8, 9, 10, 11, 12])), (34, 12, [], [], (lin [] [0, 1, 2, 3, 4, 5, 6, 7, 8, 9, 10, 11])), (36, 8, [], [], (lin [] [0, 1, 2, 3, 4, 5, 6, 7])), (40, 12, [], [], (lin [] [0, 1, 2, 3, 4, 5, 6, 7, 8, 9, 10, 11])), (46, 8, [], [], (lin [] [0, 1, 2, 3, 4, 5, 6, 7])), (48, 8, [], [], (lin [] [0, 1, 2, 3, 4, 5, 6, 7])), (53, 9, [8], [(8, 0), (8, 1), (8, 2), (8, 3), (8, 4), (8, 5), (8, 6), (8, 7)], (lin [8] [0, 1, 2, 3, 4, 5, 6, 7, 8])), (54, 14, [], [], (lin [] [0, 1, 2, 3, 4, 5, 6, 7, 8, 9, 10, 11, 12, 13])), (55, 7, [], [], (lin [] [0, 1, 2, 3, 4, 5, 6])), (62, 10, [], [], (lin [] [0, 1, 2, 3, 4, 5, 6, 7, 8, 9]))] (by decide +kernel) (by simp) (by simp) rfl (by first | rfl | simp only [go_sem]) ?_
  (have hWf := WFx.mk (ai @hx <| ai @he <| @hil); repeat' (first | refine zS ?_ | exact zE | with_reducible apply And.intro | with_reducible exact zB0 | with_reducible refine zB fun hb => ?_ | exact zC | refine zT ?_ | fail))
  refine AC_loop (fun n σ => ∃ k : Nat, k ≤ l.length ∧ n = l.length - k ∧ σ.t 2 = .bx 2 0 ∧ σ.b 2 = some (.box [.sl 3 (ts.map MType.enc), .sl 6 (nodes.map MNode.enc)]) ∧ σ.t 5 = .bx 5 0 ∧ σ.b 5 = some (.box [.s (.int .i64 a.kind), .s (.int .i64 a.at_), .s (.int .i64 a.n), .s (.string a.s), .sl 1 ((idxs (m + 1) l).map iE), .sl 1 (a.pats.map MPat.enc)]) ∧ σ.t 6 = .bs 20 1 k ∧ σ.t 22 = .sl 1 ((idxs (m + 1) l).map iE) ∧ σ.t 23 = .s (.int .i64 l.length) ∧ σ.t 24 = .s (.int .i64 k) ∧ σ.b 20 = some (.arr 9 1 ((l.take k).map etR))) l.length ⟨0, by omega, by omega, ?_⟩ ?_
  · simp only [go_sem, simprocAttr, Int.natCast_zero, List.take_zero]
  · rintro n σ ⟨k, hk', rfl, h2, b2, h5, b5, h6, h22, h23, h24, b20⟩ K' hK
    by_cases hlt : k < l.length
    · have hlt2 : k < (idxs (m + 1) l).length := by rw [hil]; exact hlt
      have hx2 := getD_map iE (idxs (m + 1) l) k hlt2
      have he2 : iE (idxs (m + 1) l)[k] = [.s (.int .i64 ((m + 1 + sizeL (l.take k) : Nat) : Int))] := by rw [idxs_at (m + 1) l k hlt]; rfl
      have hc := ih l[k] _ (hA.kids.at k hlt) (size_lt (List.getElem_mem hlt)) (ok1 _ (List.getElem_mem hlt)) (g1 _ (List.getElem_mem hlt))
      unfold XS at hc
      have her := etR_eq l[k]
      have htl : (l.take k).length = k := by rw [List.length_take]; omega
      have hts := List.take_succ_eq_append_getElem hlt
      (have hWf := WFx.mk (ai @h2 <| ai @b2 <| ai @h5 <| ai @b5 <| ai @h6 <| ai @h22 <| ai @h23 <| ai @h24 <| ai @b20 <| ai @hx2 <| ai @he2 <| ai @hil <| ai @htl <| ai @hk8 <| @hk4); repeat' (first | refine zS ?_ | exact zE | with_reducible apply And.intro | refine zK (hc) ?_ | with_reducible exact zB0 | with_reducible refine zB fun hb => ?_ | exact zC | refine zT ?_ | fail))
      all_goals
        refine hK (l.length - (k + 1)) _ (by omega) ⟨k + 1, by omega, rfl, ?_⟩
        simp only [go_sem, simprocAttr, h2, b2, h5, b5, h6, h22, h23, h24, b20, Int.natCast_succ, hts, List.map_append, her]
    · obtain rfl : k = l.length := by omega
      rw [List.take_length] at b20
      cases v with
      | app x y k e =>
        subst e
        simp only [size_mk, sizeL_cons, sizeL_nil] at hz
        have sx := etx_le (ok1 x (by simp)) (g1 x (by simp)) (by omega)
        have sy := etx_le (ok1 y (by simp)) (g1 y (by simp)) (by omega)
        have hid : (idxs (m + 1) ([x, y] : List ET)).map iE = [[.s (.int .i64 ((m + 1 : Nat) : Int))], [.s (.int .i64 ((m + 1 + x.size : Nat) : Int))]] := rfl
        rw [hid] at b5
        obtain ⟨b, r⟩ := x
        have hxb := enode_at hA.kids.head
        have heb := enode_enc b (idxs (m + 1 + 1) r)
        have hlb := idxs_len (m + 1 + 1) r
        have hmb := hA.kids.head.lt
        clear ih ok ok1 g g1 hA hx he
        by_cases hb : b.kind = 4
        · cases r with
          | nil =>
            rw [etx_appc k hb]
            have hil0 : (idxs (m + 1 + 1) ([] : List ET)).map iE = [] := rfl
            rw [hil0] at heb
            (have hWf := WFx.mk (ai @h2 <| ai @b2 <| ai @h5 <| ai @b5 <| ai @h6 <| ai @h22 <| ai @h23 <| ai @h24 <| ai @b20 <| ai @k <| ai @etR_eq <| ai @hxb <| ai @heb <| ai @hb <| ai @hmb <| ai @ByteArray.size_append <| ai @z1 <| ai @z2 <| ai @z3 <| ai @z4 <| ai @z5 <| ai @z6 <| ai @z7 <| @z9); repeat' (first | refine zS ?_ | exact zE | with_reducible apply And.intro | with_reducible exact zB0 | with_reducible refine zB fun hb => ?_ | exact zC | refine zT ?_ | fail))
          | cons p r =>
            rw [etx_app k (by simp)]
            have hlz : (((r.length + 1 : Nat) : Int) == 0) = false := by simp; omega
            (have hWf := WFx.mk (ai @h2 <| ai @b2 <| ai @h5 <| ai @b5 <| ai @h6 <| ai @h22 <| ai @h23 <| ai @h24 <| ai @b20 <| ai @k <| ai @etR_eq <| ai @hxb <| ai @heb <| ai @hb <| ai @hmb <| ai @hlb <| ai @hlz <| ai @ByteArray.size_append <| ai @z1 <| ai @z2 <| ai @z3 <| ai @z4 <| ai @z5 <| ai @z6 <| ai @z7 <| @z9); repeat' (first | refine zS ?_ | exact zE | with_reducible apply And.intro | with_reducible exact zB0 | with_reducible refine zB fun hb => ?_ | exact zC | refine zT ?_ | fail))
        · have hb2 : (b.kind == 4) = false := by simpa using hb
          rw [etx_app k (fun q => hb q.1)]
          (have hWf := WFx.mk (ai @h2 <| ai @b2 <| ai @h5 <| ai @b5 <| ai @h6 <| ai @h22 <| ai @h23 <| ai @h24 <| ai @b20 <| ai @k <| ai @etR_eq <| ai @hxb <| ai @heb <| ai @hb2 <| ai @hmb <| ai @hlb <| ai @ByteArray.size_append <| ai @z1 <| ai @z2 <| ai @z3 <| ai @z4 <| ai @z5 <| ai @z6 <| ai @z7 <| @z9); repeat' (first | refine zS ?_ | exact zE | with_reducible apply And.intro | with_reducible exact zB0 | with_reducible refine zB fun hb => ?_ | exact zC | refine zT ?_ | fail))
      | let_ x y k e =>
        subst e
        simp only [size_mk, sizeL_cons, sizeL_nil] at hz
        have sx := etx_le (ok1 x (by simp)) (g1 x (by simp)) (by omega)
        have sy := etx_le (ok1 y (by simp)) (g1 y (by simp)) (by omega)
        rw [etx_let k]
        clear ih ok ok1 g g1 hA hx he
        (have hWf := WFx.mk (ai @h2 <| ai @b2 <| ai @h5 <| ai @b5 <| ai @h6 <| ai @h22 <| ai @h23 <| ai @h24 <| ai @b20 <| ai @k <| ai @etR_eq <| ai @ByteArray.size_append <| ai @z1 <| ai @z2 <| ai @z3 <| ai @z4 <| ai @z5 <| ai @z6 <| ai @z7 <| @z9); repeat' (first | refine zS ?_ | exact zE | with_reducible apply And.intro | with_reducible exact zB0 | with_reducible refine zB fun hb => ?_ | exact zC | refine zT ?_ | fail))
      | _ => exfalso; omega
theorem c_exS4 (ts : List MType) (nodes : List MNode) (hnl : nodes.length ≤ 1000) (m : Nat) (a : EI) (l : List ET) (hA : At EI.node nodes m (.mk a l)) (hk : a.kind = 9 ∨ a.kind = 10 ∨ a.kind = 11 ∨ a.kind = 14) (ok : okT (.mk a l)) (g : All goN (.mk a l)) (ih : ∀ (x : ET) (m : Nat), At EI.node nodes m x → x.size < (Arb.mk a l).size → okT x → All goN x → XS ts nodes x m) : XS ts nodes (.mk a l) m := by
  have hz : (Arb.mk a l).size ≤ 1000 := by have := hA.bd; omega
  have ok1 := ok.kid
  have g1 := g.kid
  have hs := g.root.s
  have hx := enode_at hA
  have he := enode_enc a (idxs (m + 1) l)
  have hil := idxs_len (m + 1) l
  have hm := hA.lt
  have hll : l.length ≤ 1000 := by have := sizeL_len l; rw [size_mk] at hz; omega
  have v := ok.root.v
  unfold XS
  have hk8 : (a.kind == 8) = false := by simp; omega
  have hk4 : (a.kind == 4) = false := by simp; omega
  refine FCon.intro PM _ Tryz.func40 (by kernel_rfl) rfl _ Tryz.ntmps40 rfl [(20, 7, [], [], (lin [] [0, 1, 2, 3, 4, 5, 6])), (22, 9, [8], [(8, 0), (8, 1), (8, 2), (8, 3), (8, 4), (8, 5), (8, 6), (8, 7)], (lin [8] [0, 1, 2, 3, 4, 5, 6, 7, 8])), (24, 8, [], [], (lin [] [0, 1, 2, 3, 4, 5, 6, 7])), (25, 8, [], [], (lin [] [0, 1, 2, 3, 4, 5, 6, 7])), (27, 12, [], [], (lin [] [0, 1, 2, 3, 4, 5, 6, 7, 8, 9, 10, 11])), (29, 9, [8], [(8, 0), (8, 1), (8, 2), (8, 3), (8, 4), (8, 5), (8, 6), (8, 7)], (lin [8] [0, 1, 2, 3, 4, 5, 6, 7, 8])), (30, 19, [], [], (lin [] [0, 1, 2, 3, 4, 5, 6, 7, 8, 9, 10, 11, 12, 13, 14, 15, 16, 17, 18])), (32, 13, [], [], (lin [] [0, 1, 2, 3, 4, 5, 6, 7, 8, 9, 10, 11, 12])), (34, 12, [], [], (lin [] [0, 1, 2, 3, 4, 5, 6, 7, 8, 9, 10, 11])), (36, 8, [], [], (lin [] [0, 1, 2, 3, 4, 5, 6, 7])), (40, 12, [], [], (lin [] [0, 1, 2, 3, 4, 5, 6, 7, 8, 9, 10, 11])), (46, 8, [], [], (lin [] [0, 1, 2, 3, 4, 5, 6, 7])), (48, 8, [], [], (lin [] [0, 1, 2, 3, 4, 5, 6, 7])), (53, 9, [8], [(8, 0), (8, 1), (8, 2), (8, 3), (8, 4), (8, 5), (8, 6), (8, 7)], (lin [8] [0, 1, 2, 3, 4, 5, 6, 7, 8])), (54, 14, [], [], (lin [] [0, 1, 2, 3, 4, 5, 6, 7, 8, 9, 10, 11, 12, 13])), (55, 7, [], [], (lin [] [0, 1, 2, 3, 4, 5, 6])), (62, 10, [], [], (lin [] [0, 1, 2, 3, 4, 5, 6, 7, 8, 9]))] (by decide +kernel) (by simp) (by simp) rfl (by first | rfl | simp only [go_sem]) ?_
  (have hWf := WFx.mk (ai @hx <| ai @he <| @hil); repeat' (first | refine zS ?_ | exact zE | with_reducible apply And.intro | with_reducible exact zB0 | with_reducible refine zB fun hb => ?_ | exact zC | refine zT ?_ | fail))
  refine AC_loop (fun n σ => ∃ k : Nat, k ≤ l.length ∧ n = l.length - k ∧ σ.t 2 = .bx 2 0 ∧ σ.b 2 = some (.box [.sl 3 (ts.map MType.enc), .sl 6 (nodes.map MNode.enc)]) ∧ σ.t 5 = .bx 5 0 ∧ σ.b 5 = some (.box [.s (.int .i64 a.kind), .s (.int .i64 a.at_), .s (.int .i64 a.n), .s (.string a.s), .sl 1 ((idxs (m + 1) l).map iE), .sl 1 (a.pats.map MPat.enc)]) ∧ σ.t 6 = .bs 20 1 k ∧ σ.t 22 = .sl 1 ((idxs (m + 1) l).map iE) ∧ σ.t 23 = .s (.int .i64 l.length) ∧ σ.t 24 = .s (.int .i64 k) ∧ σ.b 20 = some (.arr 9 1 ((l.take k).map etR))) l.length ⟨0, by omega, by omega, ?_⟩ ?_
  · simp only [go_sem, simprocAttr, Int.natCast_zero, List.take_zero]
  · rintro n σ ⟨k, hk', rfl, h2, b2, h5, b5, h6, h22, h23, h24, b20⟩ K' hK
    by_cases hlt : k < l.length
    · have hlt2 : k < (idxs (m + 1) l).length := by rw [hil]; exact hlt
      have hx2 := getD_map iE (idxs (m + 1) l) k hlt2
      have he2 : iE (idxs (m + 1) l)[k] = [.s (.int .i64 ((m + 1 + sizeL (l.take k) : Nat) : Int))] := by rw [idxs_at (m + 1) l k hlt]; rfl
      have hc := ih l[k] _ (hA.kids.at k hlt) (size_lt (List.getElem_mem hlt)) (ok1 _ (List.getElem_mem hlt)) (g1 _ (List.getElem_mem hlt))
      unfold XS at hc
      have her := etR_eq l[k]
      have htl : (l.take k).length = k := by rw [List.length_take]; omega
      have hts := List.take_succ_eq_append_getElem hlt
      (have hWf := WFx.mk (ai @h2 <| ai @b2 <| ai @h5 <| ai @b5 <| ai @h6 <| ai @h22 <| ai @h23 <| ai @h24 <| ai @b20 <| ai @hx2 <| ai @he2 <| ai @hil <| ai @htl <| ai @hk8 <| @hk4); repeat' (first | refine zS ?_ | exact zE | with_reducible apply And.intro | refine zK (hc) ?_ | with_reducible exact zB0 | with_reducible refine zB fun hb => ?_ | exact zC | refine zT ?_ | fail))
      all_goals
        refine hK (l.length - (k + 1)) _ (by omega) ⟨k + 1, by omega, rfl, ?_⟩
        simp only [go_sem, simprocAttr, h2, b2, h5, b5, h6, h22, h23, h24, b20, Int.natCast_succ, hts, List.map_append, her]
    · obtain rfl : k = l.length := by omega
      rw [List.take_length] at b20
      cases v with
      | if_ x y z k e =>
        subst e
        simp only [size_mk, sizeL_cons, sizeL_nil] at hz
        have sx := etx_le (ok1 x (by simp)) (g1 x (by simp)) (by omega)
        have sy := etx_le (ok1 y (by simp)) (g1 y (by simp)) (by omega)
        have sz := etx_le (ok1 z (by simp)) (g1 z (by simp)) (by omega)
        rw [etx_if k]
        clear ih ok ok1 g g1 hA hx he
        (have hWf := WFx.mk (ai @h2 <| ai @b2 <| ai @h5 <| ai @b5 <| ai @h6 <| ai @h22 <| ai @h23 <| ai @h24 <| ai @b20 <| ai @k <| ai @etR_eq <| ai @ByteArray.size_append <| ai @z1 <| ai @z2 <| ai @z3 <| ai @z4 <| ai @z5 <| ai @z6 <| ai @z7 <| @z9); repeat' (first | refine zS ?_ | exact zE | with_reducible apply And.intro | with_reducible exact zB0 | with_reducible refine zB fun hb => ?_ | exact zC | refine zT ?_ | fail))
      | prim x y k e =>
        subst e
        simp only [size_mk, sizeL_cons, sizeL_nil] at hz
        have sx := etx_le (ok1 x (by simp)) (g1 x (by simp)) (by omega)
        have sy := etx_le (ok1 y (by simp)) (g1 y (by simp)) (by omega)
        rw [etx_prim k]
        clear ih ok ok1 g g1 hA hx he
        (have hWf := WFx.mk (ai @h2 <| ai @b2 <| ai @h5 <| ai @b5 <| ai @h6 <| ai @h22 <| ai @h23 <| ai @h24 <| ai @b20 <| ai @k <| ai @etR_eq <| ai @ByteArray.size_append <| ai @z1 <| ai @z2 <| ai @z3 <| ai @z4 <| ai @z5 <| ai @z6 <| ai @z7 <| @z9); repeat' (first | refine zS ?_ | exact zE | with_reducible apply And.intro | with_reducible exact zB0 | with_reducible refine zB fun hb => ?_ | exact zC | refine zT ?_ | fail))
      | pair x y k e =>
        subst e
        simp only [size_mk, sizeL_cons, sizeL_nil] at hz
        have sx := etx_le (ok1 x (by simp)) (g1 x (by simp)) (by omega)
        have sy := etx_le (ok1 y (by simp)) (g1 y (by simp)) (by omega)
        rw [etx_pair k]
        clear ih ok ok1 g g1 hA hx he
        (have hWf := WFx.mk (ai @h2 <| ai @b2 <| ai @h5 <| ai @b5 <| ai @h6 <| ai @h22 <| ai @h23 <| ai @h24 <| ai @b20 <| ai @k <| ai @etR_eq <| ai @ByteArray.size_append <| ai @z1 <| ai @z2 <| ai @z3 <| ai @z4 <| ai @z5 <| ai @z6 <| ai @z7 <| @z9); repeat' (first | refine zS ?_ | exact zE | with_reducible apply And.intro | with_reducible exact zB0 | with_reducible refine zB fun hb => ?_ | exact zC | refine zT ?_ | fail))
      | raise x k e =>
        subst e
        simp only [size_mk, sizeL_cons, sizeL_nil] at hz
        have sx := etx_le (ok1 x (by simp)) (g1 x (by simp)) (by omega)
        rw [etx_raise k]
        clear ih ok ok1 g g1 hA hx he
        (have hWf := WFx.mk (ai @h2 <| ai @b2 <| ai @h5 <| ai @b5 <| ai @h6 <| ai @h22 <| ai @h23 <| ai @h24 <| ai @b20 <| ai @k <| ai @etR_eq <| ai @ByteArray.size_append <| ai @z1 <| ai @z2 <| ai @z3 <| ai @z4 <| ai @z5 <| ai @z6 <| ai @z7 <| @z9); repeat' (first | refine zS ?_ | exact zE | with_reducible apply And.intro | with_reducible exact zB0 | with_reducible refine zB fun hb => ?_ | exact zC | refine zT ?_ | fail))
      | _ => exfalso; omega
theorem c_exS5 (ts : List MType) (nodes : List MNode) (hnl : nodes.length ≤ 1000) (m : Nat) (a : EI) (l : List ET) (hA : At EI.node nodes m (.mk a l)) (hk : a.kind = 15 ∨ a.kind = 16 ∨ a.kind = 17 ∨ a.kind = 18 ∨ a.kind = 19) (ok : okT (.mk a l)) (g : All goN (.mk a l)) (ih : ∀ (x : ET) (m : Nat), At EI.node nodes m x → x.size < (Arb.mk a l).size → okT x → All goN x → XS ts nodes x m) : XS ts nodes (.mk a l) m := by
  have hz : (Arb.mk a l).size ≤ 1000 := by have := hA.bd; omega
  have ok1 := ok.kid
  have g1 := g.kid
  have hs := g.root.s
  have hx := enode_at hA
  have he := enode_enc a (idxs (m + 1) l)
  have hil := idxs_len (m + 1) l
  have hm := hA.lt
  have hll : l.length ≤ 1000 := by have := sizeL_len l; rw [size_mk] at hz; omega
  have v := ok.root.v
  unfold XS
  have hk8 : (a.kind == 8) = false := by simp; omega
  have hk4 : (a.kind == 4) = false := by simp; omega
  refine FCon.intro PM _ Tryz.func40 (by kernel_rfl) rfl _ Tryz.ntmps40 rfl [(20, 7, [], [], (lin [] [0, 1, 2, 3, 4, 5, 6])), (22, 9, [8], [(8, 0), (8, 1), (8, 2), (8, 3), (8, 4), (8, 5), (8, 6), (8, 7)], (lin [8] [0, 1, 2, 3, 4, 5, 6, 7, 8])), (24, 8, [], [], (lin [] [0, 1, 2, 3, 4, 5, 6, 7])), (25, 8, [], [], (lin [] [0, 1, 2, 3, 4, 5, 6, 7])), (27, 12, [], [], (lin [] [0, 1, 2, 3, 4, 5, 6, 7, 8, 9, 10, 11])), (29, 9, [8], [(8, 0), (8, 1), (8, 2), (8, 3), (8, 4), (8, 5), (8, 6), (8, 7)], (lin [8] [0, 1, 2, 3, 4, 5, 6, 7, 8])), (30, 19, [], [], (lin [] [0, 1, 2, 3, 4, 5, 6, 7, 8, 9, 10, 11, 12, 13, 14, 15, 16, 17, 18])), (32, 13, [], [], (lin [] [0, 1, 2, 3, 4, 5, 6, 7, 8, 9, 10, 11, 12])), (34, 12, [], [], (lin [] [0, 1, 2, 3, 4, 5, 6, 7, 8, 9, 10, 11])), (36, 8, [], [], (lin [] [0, 1, 2, 3, 4, 5, 6, 7])), (40, 12, [], [], (lin [] [0, 1, 2, 3, 4, 5, 6, 7, 8, 9, 10, 11])), (46, 8, [], [], (lin [] [0, 1, 2, 3, 4, 5, 6, 7])), (48, 8, [], [], (lin [] [0, 1, 2, 3, 4, 5, 6, 7])), (53, 9, [8], [(8, 0), (8, 1), (8, 2), (8, 3), (8, 4), (8, 5), (8, 6), (8, 7)], (lin [8] [0, 1, 2, 3, 4, 5, 6, 7, 8])), (54, 14, [], [], (lin [] [0, 1, 2, 3, 4, 5, 6, 7, 8, 9, 10, 11, 12, 13])), (55, 7, [], [], (lin [] [0, 1, 2, 3, 4, 5, 6])), (62, 10, [], [], (lin [] [0, 1, 2, 3, 4, 5, 6, 7, 8, 9]))] (by decide +kernel) (by simp) (by simp) rfl (by first | rfl | simp only [go_sem]) ?_
  (have hWf := WFx.mk (ai @hx <| ai @he <| @hil); repeat' (first | refine zS ?_ | exact zE | with_reducible apply And.intro | with_reducible exact zB0 | with_reducible refine zB fun hb => ?_ | exact zC | refine zT ?_ | fail))
  refine AC_loop (fun n σ => ∃ k : Nat, k ≤ l.length ∧ n = l.length - k ∧ σ.t 2 = .bx 2 0 ∧ σ.b 2 = some (.box [.sl 3 (ts.map MType.enc), .sl 6 (nodes.map MNode.enc)]) ∧ σ.t 5 = .bx 5 0 ∧ σ.b 5 = some (.box [.s (.int .i64 a.kind), .s (.int .i64 a.at_), .s (.int .i64 a.n), .s (.string a.s), .sl 1 ((idxs (m + 1) l).map iE), .sl 1 (a.pats.map MPat.enc)]) ∧ σ.t 6 = .bs 20 1 k ∧ σ.t 22 = .sl 1 ((idxs (m + 1) l).map iE) ∧ σ.t 23 = .s (.int .i64 l.length) ∧ σ.t 24 = .s (.int .i64 k) ∧ σ.b 20 = some (.arr 9 1 ((l.take k).map etR))) l.length ⟨0, by omega, by omega, ?_⟩ ?_
  · simp only [go_sem, simprocAttr, Int.natCast_zero, List.take_zero]
  · rintro n σ ⟨k, hk', rfl, h2, b2, h5, b5, h6, h22, h23, h24, b20⟩ K' hK
    by_cases hlt : k < l.length
    · have hlt2 : k < (idxs (m + 1) l).length := by rw [hil]; exact hlt
      have hx2 := getD_map iE (idxs (m + 1) l) k hlt2
      have he2 : iE (idxs (m + 1) l)[k] = [.s (.int .i64 ((m + 1 + sizeL (l.take k) : Nat) : Int))] := by rw [idxs_at (m + 1) l k hlt]; rfl
      have hc := ih l[k] _ (hA.kids.at k hlt) (size_lt (List.getElem_mem hlt)) (ok1 _ (List.getElem_mem hlt)) (g1 _ (List.getElem_mem hlt))
      unfold XS at hc
      have her := etR_eq l[k]
      have htl : (l.take k).length = k := by rw [List.length_take]; omega
      have hts := List.take_succ_eq_append_getElem hlt
      (have hWf := WFx.mk (ai @h2 <| ai @b2 <| ai @h5 <| ai @b5 <| ai @h6 <| ai @h22 <| ai @h23 <| ai @h24 <| ai @b20 <| ai @hx2 <| ai @he2 <| ai @hil <| ai @htl <| ai @hk8 <| @hk4); repeat' (first | refine zS ?_ | exact zE | with_reducible apply And.intro | refine zK (hc) ?_ | with_reducible exact zB0 | with_reducible refine zB fun hb => ?_ | exact zC | refine zT ?_ | fail))
      all_goals
        refine hK (l.length - (k + 1)) _ (by omega) ⟨k + 1, by omega, rfl, ?_⟩
        simp only [go_sem, simprocAttr, h2, b2, h5, b5, h6, h22, h23, h24, b20, Int.natCast_succ, hts, List.map_append, her]
    · obtain rfl : k = l.length := by omega
      rw [List.take_length] at b20
      cases v with
      | try_ x y k e =>
        subst e
        simp only [size_mk, sizeL_cons, sizeL_nil] at hz
        have sx := etx_le (ok1 x (by simp)) (g1 x (by simp)) (by omega)
        have sy := etx_le (ok1 y (by simp)) (g1 y (by simp)) (by omega)
        rw [etx_try k]
        clear ih ok ok1 g g1 hA hx he
        (have hWf := WFx.mk (ai @h2 <| ai @b2 <| ai @h5 <| ai @b5 <| ai @h6 <| ai @h22 <| ai @h23 <| ai @h24 <| ai @b20 <| ai @k <| ai @etR_eq <| ai @ByteArray.size_append <| ai @z1 <| ai @z2 <| ai @z3 <| ai @z4 <| ai @z5 <| ai @z6 <| ai @z7 <| @z9); repeat' (first | refine zS ?_ | exact zE | with_reducible apply And.intro | with_reducible exact zB0 | with_reducible refine zB fun hb => ?_ | exact zC | refine zT ?_ | fail))
      | ref x k e =>
        subst e
        simp only [size_mk, sizeL_cons, sizeL_nil] at hz
        have sx := etx_le (ok1 x (by simp)) (g1 x (by simp)) (by omega)
        rw [etx_ref k]
        clear ih ok ok1 g g1 hA hx he
        (have hWf := WFx.mk (ai @h2 <| ai @b2 <| ai @h5 <| ai @b5 <| ai @h6 <| ai @h22 <| ai @h23 <| ai @h24 <| ai @b20 <| ai @k <| ai @etR_eq <| ai @ByteArray.size_append <| ai @z1 <| ai @z2 <| ai @z3 <| ai @z4 <| ai @z5 <| ai @z6 <| ai @z7 <| @z9); repeat' (first | refine zS ?_ | exact zE | with_reducible apply And.intro | with_reducible exact zB0 | with_reducible refine zB fun hb => ?_ | exact zC | refine zT ?_ | fail))
      | get x k e =>
        subst e
        simp only [size_mk, sizeL_cons, sizeL_nil] at hz
        have sx := etx_le (ok1 x (by simp)) (g1 x (by simp)) (by omega)
        rw [etx_get k]
        clear ih ok ok1 g g1 hA hx he
        (have hWf := WFx.mk (ai @h2 <| ai @b2 <| ai @h5 <| ai @b5 <| ai @h6 <| ai @h22 <| ai @h23 <| ai @h24 <| ai @b20 <| ai @k <| ai @etR_eq <| ai @ByteArray.size_append <| ai @z1 <| ai @z2 <| ai @z3 <| ai @z4 <| ai @z5 <| ai @z6 <| ai @z7 <| @z9); repeat' (first | refine zS ?_ | exact zE | with_reducible apply And.intro | with_reducible exact zB0 | with_reducible refine zB fun hb => ?_ | exact zC | refine zT ?_ | fail))
      | set x y k e =>
        subst e
        simp only [size_mk, sizeL_cons, sizeL_nil] at hz
        have sx := etx_le (ok1 x (by simp)) (g1 x (by simp)) (by omega)
        have sy := etx_le (ok1 y (by simp)) (g1 y (by simp)) (by omega)
        rw [etx_set k]
        clear ih ok ok1 g g1 hA hx he
        (have hWf := WFx.mk (ai @h2 <| ai @b2 <| ai @h5 <| ai @b5 <| ai @h6 <| ai @h22 <| ai @h23 <| ai @h24 <| ai @b20 <| ai @k <| ai @etR_eq <| ai @ByteArray.size_append <| ai @z1 <| ai @z2 <| ai @z3 <| ai @z4 <| ai @z5 <| ai @z6 <| ai @z7 <| @z9); repeat' (first | refine zS ?_ | exact zE | with_reducible apply And.intro | with_reducible exact zB0 | with_reducible refine zB fun hb => ?_ | exact zC | refine zT ?_ | fail))
      | seq x y k e =>
        subst e
        simp only [size_mk, sizeL_cons, sizeL_nil] at hz
        have sx := etx_le (ok1 x (by simp)) (g1 x (by simp)) (by omega)
        have sy := etx_le (ok1 y (by simp)) (g1 y (by simp)) (by omega)
        rw [etx_seq k]
        clear ih ok ok1 g g1 hA hx he
        (have hWf := WFx.mk (ai @h2 <| ai @b2 <| ai @h5 <| ai @b5 <| ai @h6 <| ai @h22 <| ai @h23 <| ai @h24 <| ai @b20 <| ai @k <| ai @etR_eq <| ai @ByteArray.size_append <| ai @z1 <| ai @z2 <| ai @z3 <| ai @z4 <| ai @z5 <| ai @z6 <| ai @z7 <| @z9); repeat' (first | refine zS ?_ | exact zE | with_reducible apply And.intro | with_reducible exact zB0 | with_reducible refine zB fun hb => ?_ | exact zC | refine zT ?_ | fail))
      | _ => exfalso; omega
theorem c_exS6 (ts : List MType) (nodes : List MNode) (hnl : nodes.length ≤ 1000) (m : Nat) (a : EI) (l : List ET) (hA : At EI.node nodes m (.mk a l)) (hk : a.kind = 13) (ok : okT (.mk a l)) (g : All goN (.mk a l)) (ih : ∀ (x : ET) (m : Nat), At EI.node nodes m x → x.size < (Arb.mk a l).size → okT x → All goN x → XS ts nodes x m) : XS ts nodes (.mk a l) m := by
  have hz : (Arb.mk a l).size ≤ 1000 := by have := hA.bd; omega
  have ok1 := ok.kid
  have g1 := g.kid
  have hs := g.root.s
  have hx := enode_at hA
  have he := enode_enc a (idxs (m + 1) l)
  have hil := idxs_len (m + 1) l
  have hm := hA.lt
  have hll : l.length ≤ 1000 := by have := sizeL_len l; rw [size_mk] at hz; omega
  have v := ok.root.v
  unfold XS
  have hk8 : (a.kind == 8) = false := by simp; omega
  have hk4 : (a.kind == 4) = false := by simp; omega
  refine FCon.intro PM _ Tryz.func40 (by kernel_rfl) rfl _ Tryz.ntmps40 rfl [(20, 7, [], [], (lin [] [0, 1, 2, 3, 4, 5, 6])), (22, 9, [8], [(8, 0), (8, 1), (8, 2), (8, 3), (8, 4), (8, 5), (8, 6), (8, 7)], (lin [8] [0, 1, 2, 3, 4, 5, 6, 7, 8])), (24, 8, [], [], (lin [] [0, 1, 2, 3, 4, 5, 6, 7])), (25, 8, [], [], (lin [] [0, 1, 2, 3, 4, 5, 6, 7])), (27, 12, [], [], (lin [] [0, 1, 2, 3, 4, 5, 6, 7, 8, 9, 10, 11])), (29, 9, [8], [(8, 0), (8, 1), (8, 2), (8, 3), (8, 4), (8, 5), (8, 6), (8, 7)], (lin [8] [0, 1, 2, 3, 4, 5, 6, 7, 8])), (30, 19, [], [], (lin [] [0, 1, 2, 3, 4, 5, 6, 7, 8, 9, 10, 11, 12, 13, 14, 15, 16, 17, 18])), (32, 13, [], [], (lin [] [0, 1, 2, 3, 4, 5, 6, 7, 8, 9, 10, 11, 12])), (34, 12, [], [], (lin [] [0, 1, 2, 3, 4, 5, 6, 7, 8, 9, 10, 11])), (36, 8, [], [], (lin [] [0, 1, 2, 3, 4, 5, 6, 7])), (40, 12, [], [], (lin [] [0, 1, 2, 3, 4, 5, 6, 7, 8, 9, 10, 11])), (46, 8, [], [], (lin [] [0, 1, 2, 3, 4, 5, 6, 7])), (48, 8, [], [], (lin [] [0, 1, 2, 3, 4, 5, 6, 7])), (53, 9, [8], [(8, 0), (8, 1), (8, 2), (8, 3), (8, 4), (8, 5), (8, 6), (8, 7)], (lin [8] [0, 1, 2, 3, 4, 5, 6, 7, 8])), (54, 14, [], [], (lin [] [0, 1, 2, 3, 4, 5, 6, 7, 8, 9, 10, 11, 12, 13])), (55, 7, [], [], (lin [] [0, 1, 2, 3, 4, 5, 6])), (62, 10, [], [], (lin [] [0, 1, 2, 3, 4, 5, 6, 7, 8, 9]))] (by decide +kernel) (by simp) (by simp) rfl (by first | rfl | simp only [go_sem]) ?_
  (have hWf := WFx.mk (ai @hx <| ai @he <| @hil); repeat' (first | refine zS ?_ | exact zE | with_reducible apply And.intro | with_reducible exact zB0 | with_reducible refine zB fun hb => ?_ | exact zC | refine zT ?_ | fail))
  refine AC_loop (fun n σ => ∃ k : Nat, k ≤ l.length ∧ n = l.length - k ∧ σ.t 2 = .bx 2 0 ∧ σ.b 2 = some (.box [.sl 3 (ts.map MType.enc), .sl 6 (nodes.map MNode.enc)]) ∧ σ.t 5 = .bx 5 0 ∧ σ.b 5 = some (.box [.s (.int .i64 a.kind), .s (.int .i64 a.at_), .s (.int .i64 a.n), .s (.string a.s), .sl 1 ((idxs (m + 1) l).map iE), .sl 1 (a.pats.map MPat.enc)]) ∧ σ.t 6 = .bs 20 1 k ∧ σ.t 22 = .sl 1 ((idxs (m + 1) l).map iE) ∧ σ.t 23 = .s (.int .i64 l.length) ∧ σ.t 24 = .s (.int .i64 k) ∧ σ.b 20 = some (.arr 9 1 ((l.take k).map etR))) l.length ⟨0, by omega, by omega, ?_⟩ ?_
  · simp only [go_sem, simprocAttr, Int.natCast_zero, List.take_zero]
  · rintro n σ ⟨k, hk', rfl, h2, b2, h5, b5, h6, h22, h23, h24, b20⟩ K' hK
    by_cases hlt : k < l.length
    · have hlt2 : k < (idxs (m + 1) l).length := by rw [hil]; exact hlt
      have hx2 := getD_map iE (idxs (m + 1) l) k hlt2
      have he2 : iE (idxs (m + 1) l)[k] = [.s (.int .i64 ((m + 1 + sizeL (l.take k) : Nat) : Int))] := by rw [idxs_at (m + 1) l k hlt]; rfl
      have hc := ih l[k] _ (hA.kids.at k hlt) (size_lt (List.getElem_mem hlt)) (ok1 _ (List.getElem_mem hlt)) (g1 _ (List.getElem_mem hlt))
      unfold XS at hc
      have her := etR_eq l[k]
      have htl : (l.take k).length = k := by rw [List.length_take]; omega
      have hts := List.take_succ_eq_append_getElem hlt
      (have hWf := WFx.mk (ai @h2 <| ai @b2 <| ai @h5 <| ai @b5 <| ai @h6 <| ai @h22 <| ai @h23 <| ai @h24 <| ai @b20 <| ai @hx2 <| ai @he2 <| ai @hil <| ai @htl <| ai @hk8 <| @hk4); repeat' (first | refine zS ?_ | exact zE | with_reducible apply And.intro | refine zK (hc) ?_ | with_reducible exact zB0 | with_reducible refine zB fun hb => ?_ | exact zC | refine zT ?_ | fail))
      all_goals
        refine hK (l.length - (k + 1)) _ (by omega) ⟨k + 1, by omega, rfl, ?_⟩
        simp only [go_sem, simprocAttr, h2, b2, h5, b5, h6, h22, h23, h24, b20, Int.natCast_succ, hts, List.map_append, her]
    · obtain rfl : k = l.length := by omega
      rw [List.take_length] at b20
      cases v with
      | mat x r k e hpl hr1 =>
        subst e
        simp only [size_mk, sizeL_cons] at hz
        have sx := etx_le (ok1 x (by simp)) (g1 x (by simp)) (by omega)
        rw [etx_mat k]
        have hpm := ok.root.pm
        have hsr := armsT_size hpm (fun t ht => etx_size t (ok1 t (List.mem_cons_of_mem _ ht)) (goN.strB (g1 t (List.mem_cons_of_mem _ ht)))) hpl
        have hsk := fun (j : Nat) (h : j < r.length) => etx_le (ok1 r[j] (List.mem_cons_of_mem _ (List.getElem_mem h))) (g1 r[j] (List.mem_cons_of_mem _ (List.getElem_mem h))) (by have := size_mem (List.getElem_mem h); omega)
        have hsp := fun (j : Nat) (h : j ≤ r.length) => armsJ_size (l := r) (j := j) hpm (fun t ht => etx_size t (ok1 t (List.mem_cons_of_mem _ ht)) (goN.strB (g1 t (List.mem_cons_of_mem _ ht)))) hpl
        clear ih ok ok1 g g1 hA hx he
        obtain ⟨L, hL⟩ : ∃ L, L = (a.pats.zip (r.map etx)).map fun p => armT p.1 p.2 := ⟨_, rfl⟩
        have hLn : L.length = a.pats.length := by rw [hL, List.length_map, List.length_zip, List.length_map, hpl, Nat.min_self]
        have hLT : armsT a.pats (r.map etx) = joinB L := by rw [hL]; rfl
        have hLat : ∀ (j : Nat) (h : j < a.pats.length), L[j]'(by omega) = ptT a.pats[j] ++ ⟨#[32, 45, 62, 32]⟩ ++ etx (r[j]'(by omega)) := fun j h => by simp [hL, armT]
        have hLr : ∀ (j : Nat) (h : j < r.length), (([.s (.string (etx x))] : List D) :: r.map etR).getD (j + 1) [] = etR r[j] := fun j h => by rw [List.getD_cons_succ]; exact getD_map etR r j h
        rw [← hL] at hsp
        rw [hLT] at hsr ⊢
        clear hL
        have hrl := sizeL_len r
        have hmx : (([.s (.string (etx x))] : List D) :: r.map etR).getD 0 [] = [.s (.string (etx x))] := rfl
        (have hWf := WFx.mk (ai @h2 <| ai @b2 <| ai @h5 <| ai @b5 <| ai @h6 <| ai @h22 <| ai @h23 <| ai @h24 <| ai @b20 <| ai @k <| ai @etR_eq <| ai @ByteArray.size_append <| ai @z1 <| ai @z2 <| ai @z3 <| ai @z4 <| ai @z5 <| ai @z6 <| ai @z7 <| @z9); repeat' (first | refine zS ?_ | exact zE | with_reducible apply And.intro | with_reducible exact zB0 | with_reducible refine zB fun hb => ?_ | exact zC | refine zT ?_ | fail))
        refine AC_loop (fun n σ => ∃ j : Nat, j ≤ a.pats.length ∧ n = a.pats.length - j ∧ σ.t 6 = .bs 20 1 (r.length + 1) ∧ σ.b 20 = some (.arr 9 1 ([.s (.string (etx x))] :: r.map etR)) ∧ σ.t 12 = .s (.string (⟨#[40, 109, 97, 116, 99, 104, 32]⟩ ++ etx x ++ ⟨#[32, 119, 105, 116, 104, 32]⟩ ++ joinB (L.take j))) ∧ σ.t 326 = .sl 1 (a.pats.map MPat.enc) ∧ σ.t 327 = .s (.int .i64 a.pats.length) ∧ σ.t 328 = .s (.int .i64 j)) a.pats.length ⟨0, by omega, by omega, ?_⟩ ?_
        · simp only [go_sem, simprocAttr, Int.natCast_zero, List.take_zero, h6, b20, k, List.map_cons, etR_eq, joinB_nil, ByteArray.append_empty]
        · clear h2 b2 h5 b5 h6 h22 h23 h24 b20
          rintro n σ ⟨j, hj', rfl, h6, b20, h12, h326, h327, h328⟩ K' hK
          by_cases hlt : j < a.pats.length
          · have hx := getD_map MPat.enc a.pats j hlt
            have he := MPat.enc_eq a.pats[j]
            have hm := List.getElem_mem hlt
            have hc := c_l04PatT a.pats[j] (hpm _ hm)
            rw [he] at hc
            have hsq := ptT_size (hpm _ hm)
            have hl1 := hLr j (by omega)
            have hl2 := etR_eq (r[j]'(by omega))
            have hss := hsk j (by omega)
            have hsj := hsp j (by omega)
            have hn1 : ((j : Int) + 1).toNat = j + 1 := by omega
            have hts := joinB_succ (show j < L.length by omega)
            rw [hLat j hlt] at hts
            by_cases hj0 : j = 0
            · have hd : decide ((0 : Int) < (j : Int)) = false := by simp; omega
              have hjn : joinB (L.take j) = ByteArray.empty := by rw [hj0, List.take_zero]; rfl
              rw [if_pos hj0] at hts
              rw [hjn, ByteArray.append_empty] at h12
              (have hWf := WFx.mk (ai @h6 <| ai @b20 <| ai @h12 <| ai @h326 <| ai @h327 <| ai @h328 <| ai @hx <| ai @he <| ai @hn1 <| ai @hl1 <| ai @hl2 <| ai @hd <| ai @ByteArray.size_append <| ai @z1 <| ai @z2 <| ai @z3 <| ai @z4 <| ai @z5 <| ai @z6 <| ai @z7 <| @z9); repeat' (first | refine zS ?_ | exact zE | with_reducible apply And.intro | refine zK (hc) ?_ | with_reducible exact zB0 | with_reducible refine zB fun hb => ?_ | exact zC | refine zT ?_ | fail))
              all_goals first | omega | skip
              refine hK (a.pats.length - (j + 1)) _ (by omega) ⟨j + 1, by omega, rfl, ?_⟩
              simp only [go_sem, simprocAttr, h6, b20, h12, h326, h327, h328, Int.natCast_succ, hts, ByteArray.append_assoc]
            · have hd : decide ((0 : Int) < (j : Int)) = true := by simp; omega
              rw [if_neg hj0] at hts
              (have hWf := WFx.mk (ai @h6 <| ai @b20 <| ai @h12 <| ai @h326 <| ai @h327 <| ai @h328 <| ai @hx <| ai @he <| ai @hn1 <| ai @hl1 <| ai @hl2 <| ai @hd <| ai @ByteArray.size_append <| ai @z1 <| ai @z2 <| ai @z3 <| ai @z4 <| ai @z5 <| ai @z6 <| ai @z7 <| @z9); repeat' (first | refine zS ?_ | exact zE | with_reducible apply And.intro | refine zK (hc) ?_ | with_reducible exact zB0 | with_reducible refine zB fun hb => ?_ | exact zC | refine zT ?_ | fail))
              all_goals first | omega | skip
              refine hK (a.pats.length - (j + 1)) _ (by omega) ⟨j + 1, by omega, rfl, ?_⟩
              simp only [go_sem, simprocAttr, h6, b20, h12, h326, h327, h328, Int.natCast_succ, hts, ByteArray.append_assoc]
          · obtain rfl : j = a.pats.length := by omega
            rw [← hLn, List.take_length] at h12
            (have hWf := WFx.mk (ai @h6 <| ai @b20 <| ai @h12 <| ai @h326 <| ai @h327 <| ai @h328 <| ai @ByteArray.size_append <| ai @z1 <| ai @z2 <| ai @z3 <| ai @z4 <| ai @z5 <| ai @z6 <| ai @z7 <| @z9); repeat' (first | refine zS ?_ | exact zE | with_reducible apply And.intro | with_reducible exact zB0 | with_reducible refine zB fun hb => ?_ | exact zC | refine zT ?_ | fail))
      | _ => exfalso; omega
theorem c_exSR (ts : List MType) (nodes : List MNode) (hnl : nodes.length ≤ 1000) (m : Nat) (a : EI) (l : List ET) (hA : At EI.node nodes m (.mk a l)) (hk : a.kind = 8) (ok : okT (.mk a l)) (g : All goN (.mk a l)) (ih : ∀ (x : ET) (m : Nat), At EI.node nodes m x → x.size < (Arb.mk a l).size → okT x → All goN x → XS ts nodes x m) : XS ts nodes (.mk a l) m := by
  have hz : (Arb.mk a l).size ≤ 1000 := by have := hA.bd; omega
  have ok1 := ok.kid
  have g1 := g.kid
  have hs := g.root.s
  have hx := enode_at hA
  have he := enode_enc a (idxs (m + 1) l)
  have hil := idxs_len (m + 1) l
  have hm := hA.lt
  have hll : l.length ≤ 1000 := by have := sizeL_len l; rw [size_mk] at hz; omega
  have v := ok.root.v
  unfold XS
  cases v with
  | rec_ b x y k e hk2 hn =>
    subst e
    simp only [size_mk, sizeL_cons, sizeL_nil] at hz
    have ox := (ok1 (.mk b [x]) (by simp)).kid x (by simp)
    have gx := (g1 (.mk b [x]) (by simp)).kid x (by simp)
    have hbs := (g1 (.mk b [x]) (by simp)).root.s
    have hB := hA.kids.head
    have c1 := ih x (m + 1 + 1) hB.kids.head (size_lt2 (r := [x]) (by simp) (List.mem_cons_self ..)) ox gx
    have c2 := ih y (m + 1 + (Arb.mk b [x]).size) hA.kids.tail.head (size_lt (by simp)) (ok1 y (by simp)) (g1 y (by simp))
    have sx := etx_le ox gx (by omega)
    have sy := etx_le (ok1 y (by simp)) (g1 y (by simp)) (by omega)
    have hid : (idxs (m + 1) ([.mk b [x], y] : List ET)).map iE = [[.s (.int .i64 ((m + 1 : Nat) : Int))], [.s (.int .i64 ((m + 1 + (Arb.mk b [x]).size : Nat) : Int))]] := rfl
    have hxb := enode_at hB
    have heb := enode_enc b (idxs (m + 1 + 1) [x])
    have hmb := hB.lt
    have hib : (idxs (m + 1 + 1) ([x] : List ET)).map iE = [[.s (.int .i64 ((m + 1 + 1 : Nat) : Int))]] := rfl
    rw [hid] at he
    rw [hib] at heb
    generalize (Arb.mk b [x]).size = sz at *
    rw [etx_rec k]
    clear ih ok ok1 g g1 hA hB hil
    unfold XS at c1 c2
    refine FCon.intro PM _ Tryz.func40 (by kernel_rfl) rfl _ Tryz.ntmps40 rfl [(20, 7, [], [], (lin [] [0, 1, 2, 3, 4, 5, 6])), (22, 9, [8], [(8, 0), (8, 1), (8, 2), (8, 3), (8, 4), (8, 5), (8, 6), (8, 7)], (lin [8] [0, 1, 2, 3, 4, 5, 6, 7, 8])), (24, 8, [], [], (lin [] [0, 1, 2, 3, 4, 5, 6, 7])), (25, 8, [], [], (lin [] [0, 1, 2, 3, 4, 5, 6, 7])), (27, 12, [], [], (lin [] [0, 1, 2, 3, 4, 5, 6, 7, 8, 9, 10, 11])), (29, 9, [8], [(8, 0), (8, 1), (8, 2), (8, 3), (8, 4), (8, 5), (8, 6), (8, 7)], (lin [8] [0, 1, 2, 3, 4, 5, 6, 7, 8])), (30, 19, [], [], (lin [] [0, 1, 2, 3, 4, 5, 6, 7, 8, 9, 10, 11, 12, 13, 14, 15, 16, 17, 18])), (32, 13, [], [], (lin [] [0, 1, 2, 3, 4, 5, 6, 7, 8, 9, 10, 11, 12])), (34, 12, [], [], (lin [] [0, 1, 2, 3, 4, 5, 6, 7, 8, 9, 10, 11])), (36, 8, [], [], (lin [] [0, 1, 2, 3, 4, 5, 6, 7])), (40, 12, [], [], (lin [] [0, 1, 2, 3, 4, 5, 6, 7, 8, 9, 10, 11])), (46, 8, [], [], (lin [] [0, 1, 2, 3, 4, 5, 6, 7])), (48, 8, [], [], (lin [] [0, 1, 2, 3, 4, 5, 6, 7])), (53, 9, [8], [(8, 0), (8, 1), (8, 2), (8, 3), (8, 4), (8, 5), (8, 6), (8, 7)], (lin [8] [0, 1, 2, 3, 4, 5, 6, 7, 8])), (54, 14, [], [], (lin [] [0, 1, 2, 3, 4, 5, 6, 7, 8, 9, 10, 11, 12, 13])), (55, 7, [], [], (lin [] [0, 1, 2, 3, 4, 5, 6])), (62, 10, [], [], (lin [] [0, 1, 2, 3, 4, 5, 6, 7, 8, 9]))] (by decide +kernel) (by simp) (by simp) rfl (by first | rfl | simp only [go_sem]) ?_
    (have hWf := WFx.mk (ai @hx <| ai @he <| @k); repeat' (first | refine zS ?_ | exact zE | with_reducible apply And.intro | with_reducible exact zB0 | with_reducible refine zB fun hb => ?_ | exact zC | refine zT ?_ | fail))
    refine AC_loop (fun n σ => ∃ k : Nat, k ≤ 2 ∧ n = 2 - k ∧ σ.t 2 = .bx 2 0 ∧ σ.b 2 = some (.box [.sl 3 (ts.map MType.enc), .sl 6 (nodes.map MNode.enc)]) ∧ σ.t 5 = .bx 5 0 ∧ σ.b 5 = some (.box [.s (.int .i64 8), .s (.int .i64 a.at_), .s (.int .i64 a.n), .s (.string a.s), .sl 1 ([[.s (.int .i64 ((m + 1 : Nat) : Int))], [.s (.int .i64 ((m + 1 + sz : Nat) : Int))]]), .sl 1 (a.pats.map MPat.enc)]) ∧ σ.t 6 = .bs 20 1 k ∧ σ.t 22 = .sl 1 ([[.s (.int .i64 ((m + 1 : Nat) : Int))], [.s (.int .i64 ((m + 1 + sz : Nat) : Int))]]) ∧ σ.t 23 = .s (.int .i64 2) ∧ σ.t 24 = .s (.int .i64 k) ∧ σ.b 20 = some (.arr 9 1 (([[.s (.string ⟨#[]⟩)], [.s (.string (etx y))]] : List (List D)).take k))) 2 ⟨0, by omega, by omega, ?_⟩ ?_
    · simp only [go_sem, simprocAttr, Int.natCast_zero, List.take_zero, k]
    · rintro n σ ⟨k', hk', rfl, h2, b2, h5, b5, h6, h22, h23, h24, b20⟩ K' hK
      rcases (show k' = 0 ∨ k' = 1 ∨ k' = 2 by omega) with rfl | rfl | rfl
      · (have hWf := WFx.mk (ai @h2 <| ai @b2 <| ai @h5 <| ai @b5 <| ai @h6 <| ai @h22 <| ai @h23 <| ai @h24 <| @b20); repeat' (first | refine zS ?_ | exact zE | with_reducible apply And.intro | with_reducible exact zB0 | with_reducible refine zB fun hb => ?_ | exact zC | refine zT ?_ | fail))
        refine hK 1 _ (by omega) ⟨1, by omega, rfl, ?_⟩
        simp only [go_sem, simprocAttr, h2, b2, h5, b5, h6, h22, h23, h24, b20]
      · (have hWf := WFx.mk (ai @h2 <| ai @b2 <| ai @h5 <| ai @b5 <| ai @h6 <| ai @h22 <| ai @h23 <| ai @h24 <| @b20); repeat' (first | refine zS ?_ | exact zE | with_reducible apply And.intro | refine zK (c2) ?_ | with_reducible exact zB0 | with_reducible refine zB fun hb => ?_ | exact zC | refine zT ?_ | fail))
        refine hK 0 _ (by omega) ⟨2, by omega, rfl, ?_⟩
        simp only [go_sem, simprocAttr, h2, b2, h5, b5, h6, h22, h23, h24, b20]
      · (have hWf := WFx.mk (ai @h2 <| ai @b2 <| ai @h5 <| ai @b5 <| ai @h6 <| ai @h22 <| ai @h23 <| ai @h24 <| ai @b20 <| ai @hxb <| ai @heb <| ai @hmb <| ai @ByteArray.size_append <| ai @z1 <| ai @z2 <| ai @z3 <| ai @z4 <| ai @z5 <| ai @z6 <| ai @z7 <| @z9); repeat' (first | refine zS ?_ | exact zE | with_reducible apply And.intro | refine zK (c1) ?_ | with_reducible exact zB0 | with_reducible refine zB fun hb => ?_ | exact zC | refine zT ?_ | fail))
  | _ => exfalso; first | omega | (rename_i q; first | (rw [eq58_f (shape_ne58 q)] at h58; cases h58) | (rw [eq58_f (conM_ne58 q)] at h58; cases h58))
theorem c_exSC (ts : List MType) (nodes : List MNode) (hnl : nodes.length ≤ 1000) (m : Nat) (a : EI) (l : List ET) (hA : At EI.node nodes m (.mk a l)) (hk : a.kind = 4) (h58 : (a.s.toList == [58, 58]) = true) (ok : okT (.mk a l)) (g : All goN (.mk a l)) (ih : ∀ (x : ET) (m : Nat), At EI.node nodes m x → x.size < (Arb.mk a l).size → okT x → All goN x → XS ts nodes x m) : XS ts nodes (.mk a l) m := by
  have hz : (Arb.mk a l).size ≤ 1000 := by have := hA.bd; omega
  have ok1 := ok.kid
  have g1 := g.kid
  have hs := g.root.s
  have hx := enode_at hA
  have he := enode_enc a (idxs (m + 1) l)
  have hil := idxs_len (m + 1) l
  have hm := hA.lt
  have hll : l.length ≤ 1000 := by have := sizeL_len l; rw [size_mk] at hz; omega
  have v := ok.root.v
  unfold XS
  cases v with
  | cons b x y k e hk2 hs58 =>
    subst e
    simp only [size_mk, sizeL_cons, sizeL_nil] at hz
    have ox := (ok1 (.mk b [x, y]) (by simp)).kid x (by simp)
    have gx := (g1 (.mk b [x, y]) (by simp)).kid x (by simp)
    have oy := (ok1 (.mk b [x, y]) (by simp)).kid y (by simp)
    have gy := (g1 (.mk b [x, y]) (by simp)).kid y (by simp)
    have hB := hA.kids.head
    have c1 := ih x (m + 1 + 1) hB.kids.head (size_lt2 (r := [x, y]) (by simp) (List.mem_singleton.2 rfl)) ox gx
    have c2 := ih y (m + 1 + 1 + x.size) hB.kids.tail.head (size_lt2 (r := [x, y]) (by simp) (List.mem_singleton.2 rfl)) oy gy
    have sx := etx_le ox gx (by omega)
    have sy := etx_le oy gy (by omega)
    have hid : (idxs (m + 1) ([.mk b [x, y]] : List ET)).map iE = [[.s (.int .i64 ((m + 1 : Nat) : Int))]] := rfl
    have hxb := enode_at hB
    have heb := enode_enc b (idxs (m + 1 + 1) [x, y])
    have hmb := hB.lt
    have hib : (idxs (m + 1 + 1) ([x, y] : List ET)).map iE = [[.s (.int .i64 ((m + 1 + 1 : Nat) : Int))], [.s (.int .i64 ((m + 1 + 1 + x.size : Nat) : Int))]] := rfl
    rw [hid] at he
    rw [hib] at heb
    generalize x.size = sz at *
    rw [etx_cons k hs58]
    clear ih ok ok1 g g1 hA hB hil
    unfold XS at c1 c2
    refine FCon.intro PM _ Tryz.func40 (by kernel_rfl) rfl _ Tryz.ntmps40 rfl [(20, 7, [], [], (lin [] [0, 1, 2, 3, 4, 5, 6])), (22, 9, [8], [(8, 0), (8, 1), (8, 2), (8, 3), (8, 4), (8, 5), (8, 6), (8, 7)], (lin [8] [0, 1, 2, 3, 4, 5, 6, 7, 8])), (24, 8, [], [], (lin [] [0, 1, 2, 3, 4, 5, 6, 7])), (25, 8, [], [], (lin [] [0, 1, 2, 3, 4, 5, 6, 7])), (27, 12, [], [], (lin [] [0, 1, 2, 3, 4, 5, 6, 7, 8, 9, 10, 11])), (29, 9, [8], [(8, 0), (8, 1), (8, 2), (8, 3), (8, 4), (8, 5), (8, 6), (8, 7)], (lin [8] [0, 1, 2, 3, 4, 5, 6, 7, 8])), (30, 19, [], [], (lin [] [0, 1, 2, 3, 4, 5, 6, 7, 8, 9, 10, 11, 12, 13, 14, 15, 16, 17, 18])), (32, 13, [], [], (lin [] [0, 1, 2, 3, 4, 5, 6, 7, 8, 9, 10, 11, 12])), (34, 12, [], [], (lin [] [0, 1, 2, 3, 4, 5, 6, 7, 8, 9, 10, 11])), (36, 8, [], [], (lin [] [0, 1, 2, 3, 4, 5, 6, 7])), (40, 12, [], [], (lin [] [0, 1, 2, 3, 4, 5, 6, 7, 8, 9, 10, 11])), (46, 8, [], [], (lin [] [0, 1, 2, 3, 4, 5, 6, 7])), (48, 8, [], [], (lin [] [0, 1, 2, 3, 4, 5, 6, 7])), (53, 9, [8], [(8, 0), (8, 1), (8, 2), (8, 3), (8, 4), (8, 5), (8, 6), (8, 7)], (lin [8] [0, 1, 2, 3, 4, 5, 6, 7, 8])), (54, 14, [], [], (lin [] [0, 1, 2, 3, 4, 5, 6, 7, 8, 9, 10, 11, 12, 13])), (55, 7, [], [], (lin [] [0, 1, 2, 3, 4, 5, 6])), (62, 10, [], [], (lin [] [0, 1, 2, 3, 4, 5, 6, 7, 8, 9]))] (by decide +kernel) (by simp) (by simp) rfl (by first | rfl | simp only [go_sem]) ?_
    (have hWf := WFx.mk (ai @hx <| ai @he <| @k); repeat' (first | refine zS ?_ | exact zE | with_reducible apply And.intro | with_reducible exact zB0 | with_reducible refine zB fun hb => ?_ | exact zC | refine zT ?_ | fail))
    refine AC_loop (fun n σ => ∃ k : Nat, k ≤ 1 ∧ n = 1 - k ∧ σ.t 2 = .bx 2 0 ∧ σ.b 2 = some (.box [.sl 3 (ts.map MType.enc), .sl 6 (nodes.map MNode.enc)]) ∧ σ.t 5 = .bx 5 0 ∧ σ.b 5 = some (.box [.s (.int .i64 4), .s (.int .i64 a.at_), .s (.int .i64 a.n), .s (.string a.s), .sl 1 ([[.s (.int .i64 ((m + 1 : Nat) : Int))]]), .sl 1 (a.pats.map MPat.enc)]) ∧ σ.t 6 = .bs 20 1 k ∧ σ.t 22 = .sl 1 ([[.s (.int .i64 ((m + 1 : Nat) : Int))]]) ∧ σ.t 23 = .s (.int .i64 1) ∧ σ.t 24 = .s (.int .i64 k) ∧ σ.b 20 = some (.arr 9 1 (([[.s (.string ⟨#[]⟩)]] : List (List D)).take k))) 1 ⟨0, by omega, by omega, ?_⟩ ?_
    · simp only [go_sem, simprocAttr, Int.natCast_zero, List.take_zero, k]
    · rintro n σ ⟨k', hk', rfl, h2, b2, h5, b5, h6, h22, h23, h24, b20⟩ K' hK
      rcases (show k' = 0 ∨ k' = 1 by omega) with rfl | rfl
      · (have hWf := WFx.mk (ai @h2 <| ai @b2 <| ai @h5 <| ai @b5 <| ai @h6 <| ai @h22 <| ai @h23 <| ai @h24 <| ai @b20 <| ai @lit58 <| @h58); repeat' (first | refine zS ?_ | exact zE | with_reducible apply And.intro | with_reducible exact zB0 | with_reducible refine zB fun hb => ?_ | exact zC | refine zT ?_ | fail))
        refine hK 0 _ (by omega) ⟨1, by omega, rfl, ?_⟩
        simp only [go_sem, simprocAttr, h2, b2, h5, b5, h6, h22, h23, h24, b20]
      · (have hWf := WFx.mk (ai @h2 <| ai @b2 <| ai @h5 <| ai @b5 <| ai @h6 <| ai @h22 <| ai @h23 <| ai @h24 <| ai @b20 <| ai @lit58 <| ai @h58 <| ai @hxb <| ai @heb <| ai @hmb <| ai @ByteArray.size_append <| ai @z1 <| ai @z2 <| ai @z3 <| ai @z4 <| ai @z5 <| ai @z6 <| ai @z7 <| @z9); repeat' (first | refine zS ?_ | exact zE | with_reducible apply And.intro | refine zK (c1) ?_ | refine zK (c2) ?_ | with_reducible exact zB0 | with_reducible refine zB fun hb => ?_ | exact zC | refine zT ?_ | fail))
  | _ => exfalso; first | omega | (rename_i q; first | (rw [eq58_f (shape_ne58 q)] at h58; cases h58) | (rw [eq58_f (conM_ne58 q)] at h58; cases h58))
theorem c_l04Expr (ts : List MType) (nodes : List MNode) (hnl : nodes.length ≤ 1000) : ∀ (t : ET) (m : Nat), At EI.node nodes m t → okT t → All goN t → XS ts nodes t m := fun t => by
  induction t using Arb.indS with
  | h t ih =>
    intro m hA ok g
    obtain ⟨a, l⟩ := t
    have ih' : ∀ (x : ET) (m : Nat), At EI.node nodes m x → x.size < (Arb.mk a l).size → okT x → All goN x → XS ts nodes x m := fun x m h0 h1 h2 h3 => ih x h1 m h0 h2 h3
    have hk := kind_of ok.root
    rcases (show a.kind = 8 ∨ ((a.kind = 4) ∨ (a.kind = 1 ∨ a.kind = 2 ∨ a.kind = 3 ∨ a.kind = 5 ∨ a.kind = 12) ∨ (a.kind = 6 ∨ a.kind = 7) ∨ (a.kind = 9 ∨ a.kind = 10 ∨ a.kind = 11 ∨ a.kind = 14) ∨ (a.kind = 15 ∨ a.kind = 16 ∨ a.kind = 17 ∨ a.kind = 18 ∨ a.kind = 19) ∨ (a.kind = 13)) by omega) with h | h | h | h | h | h | h
    · exact c_exSR ts nodes hnl m a l hA h ok g ih'
    · cases h58 : (a.s.toList == [58, 58]) with
      | true => exact c_exSC ts nodes hnl m a l hA h h58 ok g ih'
      | false => exact c_exS1 ts nodes hnl m a l hA h h58 ok g ih'
    · exact c_exS2 ts nodes hnl m a l hA h ok g ih'
    · exact c_exS3 ts nodes hnl m a l hA h ok g ih'
    · exact c_exS4 ts nodes hnl m a l hA h ok g ih'
    · exact c_exS5 ts nodes hnl m a l hA h ok g ih'
    · exact c_exS6 ts nodes hnl m a l hA h ok g ih'
end Go.Proofs.YtahdaknaoogpkaaGreat
