import Derived.Test.YtahdaknaoogpkaaGreatCsB
/- The compiler of the reference, over the second engine: kinds without arms. Printed by comps.py. -/
set_option maxRecDepth 100000
set_option maxHeartbeats 4000000
namespace Go.Proofs.YtahdaknaoogpkaaGreat
set_option linter.unusedVariables false
set_option linter.unusedSimpArgs false
open Go.RowKit Arb

theorem exprS_int (T : List MType) (nodes : List MNode) (a : EI)  (m : Nat) (env : List ByteArray) (s0 : CS) (hA : At EI.node nodes m (.mk a [])) (hb : BdS (.mk a []) env s0) (k : a.kind = 1) : FCon Tryz.prog 46 [.opt (spD T nodes s0), .s (.int .i64 m), .sl 1 (env.map stE)] (fun r o => r = .tup [] ∧ o = [.opt (spD T nodes (cmp false (.mk a []) env s0)), .un, .un]) := by
  have hx := node_at hA
  have he := node_enc a (idxs (m + 1) ([] : List ET))
  have hlt := hA.lt
  have hid : (idxs (m + 1) ([] : List ET)).map iE = [] := rfl
  rw [hid] at he
  have hop : FCon Tryz.prog 119 [.s (.int .i64 1)] (fun r _ => r = .s (.int .i64 0)) := c_l10Op 1 (by omega)
  obtain ⟨b1, b2, b3⟩ := hb
  simp only [size_mk, sizeL_cons, sizeL_nil] at b1 b2 b3
  have c1 := c_l10Put T nodes s0 1 (a.n) 0 eS (by omega)
  have q1 : (s0.emit ⟨1, a.n, 0, eS⟩).ins.length = s0.ins.length + 1 ∧ (s0.emit ⟨1, a.n, 0, eS⟩).pats.length = s0.pats.length := ⟨emit_len _ _, rfl⟩
  obtain ⟨s1, h1⟩ : ∃ q, q = s0.emit ⟨1, a.n, 0, eS⟩ := ⟨_, rfl⟩
  rw [← h1] at c1 q1
  have hf : cmp false (.mk a []) env s0 = s1 := by
    rw [cmp_end (stop_no s0) (by rw [k]; rfl), h1]
    unfold endI kidsC
    simp [k]
  rw [hf]
  clear hf h1
  refine FCon.intro PM _ Tryz.func46 (by kernel_rfl) rfl _ Tryz.ntmps46 rfl [(36, 9, [], [], (lin [] [0, 1, 2, 3, 4, 5, 6, 7, 8])), (43, 8, [], [], (lin [] [0, 1, 2, 3, 4, 5, 6, 7])), (45, 8, [], [], (lin [] [0, 1, 2, 3, 4, 5, 6, 7])), (51, 8, [], [], (lin [] [0, 1, 2, 3, 4, 5, 6, 7])), (52, 9, [], [], (lin [] [0, 1, 2, 3, 4, 5, 6, 7, 8])), (54, 8, [], [], (lin [] [0, 1, 2, 3, 4, 5, 6, 7]))] (by decide +kernel) (by simp) (by simp) rfl (by first | rfl | simp only [go_sem]) ?_
  (have hWf := WFx.mk (ai @spD_eq <| ai @hx <| ai @he <| @k); repeat' (first | refine zS ?_ | exact zE | with_reducible apply And.intro | refine zK (hop) ?_ | refine zH c1 ?_ | with_reducible exact zB0 | with_reducible refine zB fun hb => ?_ | exact zC | refine zT ?_ | fail))
  all_goals first | rfl | skip
theorem exprS_str (T : List MType) (nodes : List MNode) (a : EI)  (m : Nat) (env : List ByteArray) (s0 : CS) (hA : At EI.node nodes m (.mk a [])) (hb : BdS (.mk a []) env s0) (k : a.kind = 2) : FCon Tryz.prog 46 [.opt (spD T nodes s0), .s (.int .i64 m), .sl 1 (env.map stE)] (fun r o => r = .tup [] ∧ o = [.opt (spD T nodes (cmp false (.mk a []) env s0)), .un, .un]) := by
  have hx := node_at hA
  have he := node_enc a (idxs (m + 1) ([] : List ET))
  have hlt := hA.lt
  have hid : (idxs (m + 1) ([] : List ET)).map iE = [] := rfl
  rw [hid] at he
  have hop : FCon Tryz.prog 119 [.s (.int .i64 2)] (fun r _ => r = .s (.int .i64 0)) := c_l10Op 2 (by omega)
  obtain ⟨b1, b2, b3⟩ := hb
  simp only [size_mk, sizeL_cons, sizeL_nil] at b1 b2 b3
  have c1 := c_l10Put T nodes s0 2 0 0 (a.s) (by omega)
  have q1 : (s0.emit ⟨2, 0, 0, a.s⟩).ins.length = s0.ins.length + 1 ∧ (s0.emit ⟨2, 0, 0, a.s⟩).pats.length = s0.pats.length := ⟨emit_len _ _, rfl⟩
  obtain ⟨s1, h1⟩ : ∃ q, q = s0.emit ⟨2, 0, 0, a.s⟩ := ⟨_, rfl⟩
  rw [← h1] at c1 q1
  have hf : cmp false (.mk a []) env s0 = s1 := by
    rw [cmp_end (stop_no s0) (by rw [k]; rfl), h1]
    unfold endI kidsC
    simp [k]
  rw [hf]
  clear hf h1
  refine FCon.intro PM _ Tryz.func46 (by kernel_rfl) rfl _ Tryz.ntmps46 rfl [(36, 9, [], [], (lin [] [0, 1, 2, 3, 4, 5, 6, 7, 8])), (43, 8, [], [], (lin [] [0, 1, 2, 3, 4, 5, 6, 7])), (45, 8, [], [], (lin [] [0, 1, 2, 3, 4, 5, 6, 7])), (51, 8, [], [], (lin [] [0, 1, 2, 3, 4, 5, 6, 7])), (52, 9, [], [], (lin [] [0, 1, 2, 3, 4, 5, 6, 7, 8])), (54, 8, [], [], (lin [] [0, 1, 2, 3, 4, 5, 6, 7]))] (by decide +kernel) (by simp) (by simp) rfl (by first | rfl | simp only [go_sem]) ?_
  (have hWf := WFx.mk (ai @spD_eq <| ai @hx <| ai @he <| @k); repeat' (first | refine zS ?_ | exact zE | with_reducible apply And.intro | refine zK (hop) ?_ | refine zH c1 ?_ | with_reducible exact zB0 | with_reducible refine zB fun hb => ?_ | exact zC | refine zT ?_ | fail))
  all_goals first | rfl | skip
theorem exprS_unit (T : List MType) (nodes : List MNode) (a : EI)  (m : Nat) (env : List ByteArray) (s0 : CS) (hA : At EI.node nodes m (.mk a [])) (hb : BdS (.mk a []) env s0) (k : a.kind = 12) : FCon Tryz.prog 46 [.opt (spD T nodes s0), .s (.int .i64 m), .sl 1 (env.map stE)] (fun r o => r = .tup [] ∧ o = [.opt (spD T nodes (cmp false (.mk a []) env s0)), .un, .un]) := by
  have hx := node_at hA
  have he := node_enc a (idxs (m + 1) ([] : List ET))
  have hlt := hA.lt
  have hid : (idxs (m + 1) ([] : List ET)).map iE = [] := rfl
  rw [hid] at he
  have hop : FCon Tryz.prog 119 [.s (.int .i64 12)] (fun r _ => r = .s (.int .i64 0)) := c_l10Op 12 (by omega)
  obtain ⟨b1, b2, b3⟩ := hb
  simp only [size_mk, sizeL_cons, sizeL_nil] at b1 b2 b3
  have c1 := c_l10Put T nodes s0 3 0 0 eS (by omega)
  have q1 : (s0.emit ⟨3, 0, 0, eS⟩).ins.length = s0.ins.length + 1 ∧ (s0.emit ⟨3, 0, 0, eS⟩).pats.length = s0.pats.length := ⟨emit_len _ _, rfl⟩
  obtain ⟨s1, h1⟩ : ∃ q, q = s0.emit ⟨3, 0, 0, eS⟩ := ⟨_, rfl⟩
  rw [← h1] at c1 q1
  have hf : cmp false (.mk a []) env s0 = s1 := by
    rw [cmp_end (stop_no s0) (by rw [k]; rfl), h1]
    unfold endI kidsC
    simp [k]
  rw [hf]
  clear hf h1
  refine FCon.intro PM _ Tryz.func46 (by kernel_rfl) rfl _ Tryz.ntmps46 rfl [(36, 9, [], [], (lin [] [0, 1, 2, 3, 4, 5, 6, 7, 8])), (43, 8, [], [], (lin [] [0, 1, 2, 3, 4, 5, 6, 7])), (45, 8, [], [], (lin [] [0, 1, 2, 3, 4, 5, 6, 7])), (51, 8, [], [], (lin [] [0, 1, 2, 3, 4, 5, 6, 7])), (52, 9, [], [], (lin [] [0, 1, 2, 3, 4, 5, 6, 7, 8])), (54, 8, [], [], (lin [] [0, 1, 2, 3, 4, 5, 6, 7]))] (by decide +kernel) (by simp) (by simp) rfl (by first | rfl | simp only [go_sem]) ?_
  (have hWf := WFx.mk (ai @spD_eq <| ai @hx <| ai @he <| @k); repeat' (first | refine zS ?_ | exact zE | with_reducible apply And.intro | refine zK (hop) ?_ | refine zH c1 ?_ | with_reducible exact zB0 | with_reducible refine zB fun hb => ?_ | exact zC | refine zT ?_ | fail))
  all_goals first | rfl | skip
theorem exprS_con0 (T : List MType) (nodes : List MNode) (a : EI)  (m : Nat) (env : List ByteArray) (s0 : CS) (hA : At EI.node nodes m (.mk a [])) (hb : BdS (.mk a []) env s0) (k : a.kind = 4) : FCon Tryz.prog 46 [.opt (spD T nodes s0), .s (.int .i64 m), .sl 1 (env.map stE)] (fun r o => r = .tup [] ∧ o = [.opt (spD T nodes (cmp false (.mk a []) env s0)), .un, .un]) := by
  have hx := node_at hA
  have he := node_enc a (idxs (m + 1) ([] : List ET))
  have hlt := hA.lt
  have hid : (idxs (m + 1) ([] : List ET)).map iE = [] := rfl
  rw [hid] at he
  have hop : FCon Tryz.prog 119 [.s (.int .i64 4)] (fun r _ => r = .s (.int .i64 0)) := c_l10Op 4 (by omega)
  obtain ⟨b1, b2, b3⟩ := hb
  simp only [size_mk, sizeL_cons, sizeL_nil] at b1 b2 b3
  have c1 := c_l10Put T nodes s0 4 0 0 (a.s) (by omega)
  have q1 : (s0.emit ⟨4, 0, 0, a.s⟩).ins.length = s0.ins.length + 1 ∧ (s0.emit ⟨4, 0, 0, a.s⟩).pats.length = s0.pats.length := ⟨emit_len _ _, rfl⟩
  obtain ⟨s1, h1⟩ : ∃ q, q = s0.emit ⟨4, 0, 0, a.s⟩ := ⟨_, rfl⟩
  rw [← h1] at c1 q1
  have hf : cmp false (.mk a []) env s0 = s1 := by
    rw [cmp_end (stop_no s0) (by rw [k]; rfl), h1]
    unfold endI kidsC
    simp [k]
  rw [hf]
  clear hf h1
  refine FCon.intro PM _ Tryz.func46 (by kernel_rfl) rfl _ Tryz.ntmps46 rfl [(36, 9, [], [], (lin [] [0, 1, 2, 3, 4, 5, 6, 7, 8])), (43, 8, [], [], (lin [] [0, 1, 2, 3, 4, 5, 6, 7])), (45, 8, [], [], (lin [] [0, 1, 2, 3, 4, 5, 6, 7])), (51, 8, [], [], (lin [] [0, 1, 2, 3, 4, 5, 6, 7])), (52, 9, [], [], (lin [] [0, 1, 2, 3, 4, 5, 6, 7, 8])), (54, 8, [], [], (lin [] [0, 1, 2, 3, 4, 5, 6, 7]))] (by decide +kernel) (by simp) (by simp) rfl (by first | rfl | simp only [go_sem]) ?_
  (have hWf := WFx.mk (ai @spD_eq <| ai @hx <| ai @he <| @k); repeat' (first | refine zS ?_ | exact zE | with_reducible apply And.intro | refine zK (hop) ?_ | refine zH c1 ?_ | with_reducible exact zB0 | with_reducible refine zB fun hb => ?_ | exact zC | refine zT ?_ | fail))
  all_goals first | rfl | skip
theorem exprS_con1 (T : List MType) (nodes : List MNode) (a : EI) (x : ET) (ix : SE T nodes x) (ox : okT x) (m : Nat) (env : List ByteArray) (s0 : CS) (hA : At EI.node nodes m (.mk a [x])) (hb : BdS (.mk a [x]) env s0) (k : a.kind = 4) : FCon Tryz.prog 46 [.opt (spD T nodes s0), .s (.int .i64 m), .sl 1 (env.map stE)] (fun r o => r = .tup [] ∧ o = [.opt (spD T nodes (cmp false (.mk a [x]) env s0)), .un, .un]) := by
  have hx := node_at hA
  have he := node_enc a (idxs (m + 1) ([x] : List ET))
  have hlt := hA.lt
  have hid : (idxs (m + 1) ([x] : List ET)).map iE = [[.s (.int .i64 ((m + 1 : Nat) : Int))]] := rfl
  rw [hid] at he
  have hop : FCon Tryz.prog 119 [.s (.int .i64 4)] (fun r _ => r = .s (.int .i64 0)) := c_l10Op 4 (by omega)
  obtain ⟨b1, b2, b3⟩ := hb
  simp only [size_mk, sizeL_cons, sizeL_nil] at b1 b2 b3
  have zx := size_pos x
  have c1 := ix (m + 1) env s0 hA.kids.head ⟨by omega, by omega, by omega⟩
  have q1 := And.intro ((cmp_gr false x ox).lo env s0) (And.intro ((cmp_gr false x ox).hi env s0) ((cmp_gr false x ox).phi env s0))
  obtain ⟨s1, h1⟩ : ∃ q, q = cmp false x env s0 := ⟨_, rfl⟩
  rw [← h1] at c1 q1
  have c2 := c_l10Put T nodes s1 4 1 0 (a.s) (by omega)
  have q2 : (s1.emit ⟨4, 1, 0, a.s⟩).ins.length = s1.ins.length + 1 ∧ (s1.emit ⟨4, 1, 0, a.s⟩).pats.length = s1.pats.length := ⟨emit_len _ _, rfl⟩
  obtain ⟨s2, h2⟩ : ∃ q, q = s1.emit ⟨4, 1, 0, a.s⟩ := ⟨_, rfl⟩
  rw [← h2] at c2 q2
  have hf : cmp false (.mk a [x]) env s0 = s2 := by
    rw [cmp_end (stop_no s0) (by rw [k]; rfl), h2, h1]
    unfold endI kidsC
    simp [k]
  rw [hf]
  clear hf h1 h2
  refine FCon.intro PM _ Tryz.func46 (by kernel_rfl) rfl _ Tryz.ntmps46 rfl [(36, 9, [], [], (lin [] [0, 1, 2, 3, 4, 5, 6, 7, 8])), (43, 8, [], [], (lin [] [0, 1, 2, 3, 4, 5, 6, 7])), (45, 8, [], [], (lin [] [0, 1, 2, 3, 4, 5, 6, 7])), (51, 8, [], [], (lin [] [0, 1, 2, 3, 4, 5, 6, 7])), (52, 9, [], [], (lin [] [0, 1, 2, 3, 4, 5, 6, 7, 8])), (54, 8, [], [], (lin [] [0, 1, 2, 3, 4, 5, 6, 7]))] (by decide +kernel) (by simp) (by simp) rfl (by first | rfl | simp only [go_sem]) ?_
  (have hWf := WFx.mk (ai @spD_eq <| ai @hx <| ai @he <| @k); repeat' (first | refine zS ?_ | exact zE | with_reducible apply And.intro | refine zK (hop) ?_ | refine zH c1 ?_ | refine zH c2 ?_ | with_reducible exact zB0 | with_reducible refine zB fun hb => ?_ | exact zC | refine zT ?_ | fail))
  all_goals first | rfl | skip
theorem exprS_var (T : List MType) (nodes : List MNode) (a : EI)  (m : Nat) (env : List ByteArray) (s0 : CS) (hA : At EI.node nodes m (.mk a [])) (hb : BdS (.mk a []) env s0) (k : a.kind = 3) : FCon Tryz.prog 46 [.opt (spD T nodes s0), .s (.int .i64 m), .sl 1 (env.map stE)] (fun r o => r = .tup [] ∧ o = [.opt (spD T nodes (cmp false (.mk a []) env s0)), .un, .un]) := by
  have hx := node_at hA
  have he := node_enc a (idxs (m + 1) ([] : List ET))
  have hlt := hA.lt
  have hid : (idxs (m + 1) ([] : List ET)).map iE = [] := rfl
  rw [hid] at he
  have hop : FCon Tryz.prog 119 [.s (.int .i64 3)] (fun r _ => r = .s (.int .i64 0)) := c_l10Op 3 (by omega)
  obtain ⟨b1, b2, b3⟩ := hb
  simp only [size_mk, sizeL_cons, sizeL_nil] at b1 b2 b3
  have c1 := c_l10Var T nodes s0 env a.s (by omega) (by omega)
  have q1 := (gr_name a.s).hi env s0
  obtain ⟨s1, h1⟩ : ∃ q, q = nameC a.s env s0 := ⟨_, rfl⟩
  rw [← h1] at c1 q1
  have hf : cmp false (.mk a []) env s0 = s1 := by
    rw [cmp_var (stop_no s0) k, h1]
  rw [hf]
  clear hf h1
  refine FCon.intro PM _ Tryz.func46 (by kernel_rfl) rfl _ Tryz.ntmps46 rfl [(36, 9, [], [], (lin [] [0, 1, 2, 3, 4, 5, 6, 7, 8])), (43, 8, [], [], (lin [] [0, 1, 2, 3, 4, 5, 6, 7])), (45, 8, [], [], (lin [] [0, 1, 2, 3, 4, 5, 6, 7])), (51, 8, [], [], (lin [] [0, 1, 2, 3, 4, 5, 6, 7])), (52, 9, [], [], (lin [] [0, 1, 2, 3, 4, 5, 6, 7, 8])), (54, 8, [], [], (lin [] [0, 1, 2, 3, 4, 5, 6, 7]))] (by decide +kernel) (by simp) (by simp) rfl (by first | rfl | simp only [go_sem]) ?_
  (have hWf := WFx.mk (ai @spD_eq <| ai @hx <| ai @he <| @k); repeat' (first | refine zS ?_ | exact zE | with_reducible apply And.intro | refine zK (hop) ?_ | refine zH c1 ?_ | with_reducible exact zB0 | with_reducible refine zB fun hb => ?_ | exact zC | refine zT ?_ | fail))
  all_goals first | rfl | skip
theorem exprS_func (T : List MType) (nodes : List MNode) (a : EI) (x : ET) (ix : SE T nodes x) (ox : okT x) (m : Nat) (env : List ByteArray) (s0 : CS) (hA : At EI.node nodes m (.mk a [x])) (hb : BdS (.mk a [x]) env s0) (k : a.kind = 5) : FCon Tryz.prog 46 [.opt (spD T nodes s0), .s (.int .i64 m), .sl 1 (env.map stE)] (fun r o => r = .tup [] ∧ o = [.opt (spD T nodes (cmp false (.mk a [x]) env s0)), .un, .un]) := by
  have hx := node_at hA
  have he := node_enc a (idxs (m + 1) ([x] : List ET))
  have hlt := hA.lt
  have hid : (idxs (m + 1) ([x] : List ET)).map iE = [[.s (.int .i64 ((m + 1 : Nat) : Int))]] := rfl
  rw [hid] at he
  have hop : FCon Tryz.prog 119 [.s (.int .i64 5)] (fun r _ => r = .s (.int .i64 0)) := c_l10Op 5 (by omega)
  obtain ⟨b1, b2, b3⟩ := hb
  simp only [size_mk, sizeL_cons, sizeL_nil] at b1 b2 b3
  have zx := size_pos x
  have c1 := c_l10Body T nodes a x m hA ix ox 8 env s0 ⟨by omega, by omega, by (try simp only [List.length_append, List.length_cons, List.length_nil]); omega⟩
  have q1 := And.intro ((gr_fun (cmp_gr false x ox) 8 [a.s]).lo env s0) (And.intro ((gr_fun (cmp_gr false x ox) 8 [a.s]).hi env s0) ((gr_fun (cmp_gr false x ox) 8 [a.s]).phi env s0))
  obtain ⟨s1, h1⟩ : ∃ q, q = funC 8 (cmp false x) [a.s] env s0 := ⟨_, rfl⟩
  rw [← h1] at c1 q1
  have hf : cmp false (.mk a [x]) env s0 = s1 := by
    rw [cmp_fun (stop_no s0) k, h1]
  rw [hf]
  clear hf h1
  refine FCon.intro PM _ Tryz.func46 (by kernel_rfl) rfl _ Tryz.ntmps46 rfl [(36, 9, [], [], (lin [] [0, 1, 2, 3, 4, 5, 6, 7, 8])), (43, 8, [], [], (lin [] [0, 1, 2, 3, 4, 5, 6, 7])), (45, 8, [], [], (lin [] [0, 1, 2, 3, 4, 5, 6, 7])), (51, 8, [], [], (lin [] [0, 1, 2, 3, 4, 5, 6, 7])), (52, 9, [], [], (lin [] [0, 1, 2, 3, 4, 5, 6, 7, 8])), (54, 8, [], [], (lin [] [0, 1, 2, 3, 4, 5, 6, 7]))] (by decide +kernel) (by simp) (by simp) rfl (by first | rfl | simp only [go_sem]) ?_
  (have hWf := WFx.mk (ai @spD_eq <| ai @hx <| ai @he <| @k); repeat' (first | refine zS ?_ | exact zE | with_reducible apply And.intro | refine zK (hop) ?_ | refine zH c1 ?_ | with_reducible exact zB0 | with_reducible refine zB fun hb => ?_ | exact zC | refine zT ?_ | fail))
  all_goals first | rfl | skip
theorem exprS_rec_ (T : List MType) (nodes : List MNode) (a : EI) (b : EI) (x y : ET) (ix : SE T nodes x) (ox : okT x) (iy : SE T nodes y) (oy : okT y) (m : Nat) (env : List ByteArray) (s0 : CS) (hA : At EI.node nodes m (.mk a [.mk b [x], y])) (hb : BdS (.mk a [.mk b [x], y]) env s0) (k : a.kind = 8) : FCon Tryz.prog 46 [.opt (spD T nodes s0), .s (.int .i64 m), .sl 1 (env.map stE)] (fun r o => r = .tup [] ∧ o = [.opt (spD T nodes (cmp false (.mk a [.mk b [x], y]) env s0)), .un, .un]) := by
  have hx := node_at hA
  have he := node_enc a (idxs (m + 1) ([.mk b [x], y] : List ET))
  have hlt := hA.lt
  have hid : (idxs (m + 1) ([.mk b [x], y] : List ET)).map iE = [[.s (.int .i64 ((m + 1 : Nat) : Int))], [.s (.int .i64 ((m + 1 + (Arb.mk b [x]).size : Nat) : Int))]] := rfl
  rw [hid] at he
  have hop : FCon Tryz.prog 119 [.s (.int .i64 8)] (fun r _ => r = .s (.int .i64 0)) := c_l10Op 8 (by omega)
  obtain ⟨b1, b2, b3⟩ := hb
  simp only [size_mk, sizeL_cons, sizeL_nil] at b1 b2 b3
  have zx := size_pos x
  have zy := size_pos y
  have c1 := c_l10Body T nodes b x (m + 1) hA.kids.head ix ox 9 (env ++ [a.s]) s0 ⟨by omega, by omega, by (try simp only [List.length_append, List.length_cons, List.length_nil]); omega⟩
  have q1 := And.intro ((gr_fun (cmp_gr false x ox) 9 [b.s]).lo (env ++ [a.s]) s0) (And.intro ((gr_fun (cmp_gr false x ox) 9 [b.s]).hi (env ++ [a.s]) s0) ((gr_fun (cmp_gr false x ox) 9 [b.s]).phi (env ++ [a.s]) s0))
  obtain ⟨s1, h1⟩ : ∃ q, q = funC 9 (cmp false x) [b.s] (env ++ [a.s]) s0 := ⟨_, rfl⟩
  rw [← h1] at c1 q1
  have c2 := iy (m + 1 + (Arb.mk b [x]).size) (env ++ [a.s]) s1 hA.kids.tail.head ⟨by omega, by omega, by rw [List.length_append]; simp only [List.length_cons, List.length_nil]; omega⟩
  have q2 := And.intro ((cmp_gr false y oy).lo (env ++ [a.s]) s1) (And.intro ((cmp_gr false y oy).hi (env ++ [a.s]) s1) ((cmp_gr false y oy).phi (env ++ [a.s]) s1))
  obtain ⟨s2, h2⟩ : ∃ q, q = cmp false y (env ++ [a.s]) s1 := ⟨_, rfl⟩
  rw [← h2] at c2 q2
  have c3 := c_l10Put T nodes s2 15 1 0 eS (by omega)
  have q3 : (s2.emit ⟨15, 1, 0, eS⟩).ins.length = s2.ins.length + 1 ∧ (s2.emit ⟨15, 1, 0, eS⟩).pats.length = s2.pats.length := ⟨emit_len _ _, rfl⟩
  obtain ⟨s3, h3⟩ : ∃ q, q = s2.emit ⟨15, 1, 0, eS⟩ := ⟨_, rfl⟩
  rw [← h3] at c3 q3
  have hf : cmp false (.mk a [.mk b [x], y]) env s0 = s3 := by
    rw [cmp_rec (stop_no s0) k, h3, h2, h1]
    unfold funC
    simp
  rw [hf]
  clear hf h1 h2 h3
  refine FCon.intro PM _ Tryz.func46 (by kernel_rfl) rfl _ Tryz.ntmps46 rfl [(36, 9, [], [], (lin [] [0, 1, 2, 3, 4, 5, 6, 7, 8])), (43, 8, [], [], (lin [] [0, 1, 2, 3, 4, 5, 6, 7])), (45, 8, [], [], (lin [] [0, 1, 2, 3, 4, 5, 6, 7])), (51, 8, [], [], (lin [] [0, 1, 2, 3, 4, 5, 6, 7])), (52, 9, [], [], (lin [] [0, 1, 2, 3, 4, 5, 6, 7, 8])), (54, 8, [], [], (lin [] [0, 1, 2, 3, 4, 5, 6, 7]))] (by decide +kernel) (by simp) (by simp) rfl (by first | rfl | simp only [go_sem]) ?_
  (have hWf := WFx.mk (ai @spD_eq <| ai @hx <| ai @he <| @k); repeat' (first | refine zS ?_ | exact zE | with_reducible apply And.intro | refine zK (hop) ?_ | ((with_reducible apply q_CallG); refine zG (c_l10Under env a.s (by omega)) ?_) | ((with_reducible apply q_CallQ); refine CallQ_mk (c_l10Under env a.s (by omega)) ?_) | refine zH c1 ?_ | refine zH c2 ?_ | refine zH c3 ?_ | with_reducible exact zB0 | with_reducible refine zB fun hb => ?_ | exact zC | refine zT ?_ | fail))
  all_goals first | rfl | skip
theorem exprS_seq (T : List MType) (nodes : List MNode) (a : EI) (x y : ET) (ix : SE T nodes x) (ox : okT x) (iy : SE T nodes y) (oy : okT y) (m : Nat) (env : List ByteArray) (s0 : CS) (hA : At EI.node nodes m (.mk a [x, y])) (hb : BdS (.mk a [x, y]) env s0) (k : a.kind = 19) : FCon Tryz.prog 46 [.opt (spD T nodes s0), .s (.int .i64 m), .sl 1 (env.map stE)] (fun r o => r = .tup [] ∧ o = [.opt (spD T nodes (cmp false (.mk a [x, y]) env s0)), .un, .un]) := by
  have hx := node_at hA
  have he := node_enc a (idxs (m + 1) ([x, y] : List ET))
  have hlt := hA.lt
  have hid : (idxs (m + 1) ([x, y] : List ET)).map iE = [[.s (.int .i64 ((m + 1 : Nat) : Int))], [.s (.int .i64 ((m + 1 + x.size : Nat) : Int))]] := rfl
  rw [hid] at he
  have hop : FCon Tryz.prog 119 [.s (.int .i64 19)] (fun r _ => r = .s (.int .i64 0)) := c_l10Op 19 (by omega)
  obtain ⟨b1, b2, b3⟩ := hb
  simp only [size_mk, sizeL_cons, sizeL_nil] at b1 b2 b3
  have zx := size_pos x
  have zy := size_pos y
  have c1 := ix (m + 1) env s0 hA.kids.head ⟨by omega, by omega, by omega⟩
  have q1 := And.intro ((cmp_gr false x ox).lo env s0) (And.intro ((cmp_gr false x ox).hi env s0) ((cmp_gr false x ox).phi env s0))
  obtain ⟨s1, h1⟩ : ∃ q, q = cmp false x env s0 := ⟨_, rfl⟩
  rw [← h1] at c1 q1
  have c2 := c_l10Put T nodes s1 25 0 0 eS (by omega)
  have q2 : (s1.emit ⟨25, 0, 0, eS⟩).ins.length = s1.ins.length + 1 ∧ (s1.emit ⟨25, 0, 0, eS⟩).pats.length = s1.pats.length := ⟨emit_len _ _, rfl⟩
  obtain ⟨s2, h2⟩ : ∃ q, q = s1.emit ⟨25, 0, 0, eS⟩ := ⟨_, rfl⟩
  rw [← h2] at c2 q2
  have c3 := iy (m + 1 + x.size) env s2 hA.kids.tail.head ⟨by omega, by omega, by omega⟩
  have q3 := And.intro ((cmp_gr false y oy).lo env s2) (And.intro ((cmp_gr false y oy).hi env s2) ((cmp_gr false y oy).phi env s2))
  obtain ⟨s3, h3⟩ : ∃ q, q = cmp false y env s2 := ⟨_, rfl⟩
  rw [← h3] at c3 q3
  have hf : cmp false (.mk a [x, y]) env s0 = s3 := by
    rw [cmp_seq (stop_no s0) k, h3, h2, h1]
  rw [hf]
  clear hf h1 h2 h3
  refine FCon.intro PM _ Tryz.func46 (by kernel_rfl) rfl _ Tryz.ntmps46 rfl [(36, 9, [], [], (lin [] [0, 1, 2, 3, 4, 5, 6, 7, 8])), (43, 8, [], [], (lin [] [0, 1, 2, 3, 4, 5, 6, 7])), (45, 8, [], [], (lin [] [0, 1, 2, 3, 4, 5, 6, 7])), (51, 8, [], [], (lin [] [0, 1, 2, 3, 4, 5, 6, 7])), (52, 9, [], [], (lin [] [0, 1, 2, 3, 4, 5, 6, 7, 8])), (54, 8, [], [], (lin [] [0, 1, 2, 3, 4, 5, 6, 7]))] (by decide +kernel) (by simp) (by simp) rfl (by first | rfl | simp only [go_sem]) ?_
  (have hWf := WFx.mk (ai @spD_eq <| ai @hx <| ai @he <| @k); repeat' (first | refine zS ?_ | exact zE | with_reducible apply And.intro | refine zK (hop) ?_ | refine zH c1 ?_ | refine zH c2 ?_ | refine zH c3 ?_ | with_reducible exact zB0 | with_reducible refine zB fun hb => ?_ | exact zC | refine zT ?_ | fail))
  all_goals first | rfl | skip
theorem exprS_let_ (T : List MType) (nodes : List MNode) (a : EI) (x y : ET) (ix : SE T nodes x) (ox : okT x) (iy : SE T nodes y) (oy : okT y) (m : Nat) (env : List ByteArray) (s0 : CS) (hA : At EI.node nodes m (.mk a [x, y])) (hb : BdS (.mk a [x, y]) env s0) (k : a.kind = 7) : FCon Tryz.prog 46 [.opt (spD T nodes s0), .s (.int .i64 m), .sl 1 (env.map stE)] (fun r o => r = .tup [] ∧ o = [.opt (spD T nodes (cmp false (.mk a [x, y]) env s0)), .un, .un]) := by
  have hx := node_at hA
  have he := node_enc a (idxs (m + 1) ([x, y] : List ET))
  have hlt := hA.lt
  have hid : (idxs (m + 1) ([x, y] : List ET)).map iE = [[.s (.int .i64 ((m + 1 : Nat) : Int))], [.s (.int .i64 ((m + 1 + x.size : Nat) : Int))]] := rfl
  rw [hid] at he
  have hop : FCon Tryz.prog 119 [.s (.int .i64 7)] (fun r _ => r = .s (.int .i64 0)) := c_l10Op 7 (by omega)
  obtain ⟨b1, b2, b3⟩ := hb
  simp only [size_mk, sizeL_cons, sizeL_nil] at b1 b2 b3
  have zx := size_pos x
  have zy := size_pos y
  have c1 := ix (m + 1) env s0 hA.kids.head ⟨by omega, by omega, by omega⟩
  have q1 := And.intro ((cmp_gr false x ox).lo env s0) (And.intro ((cmp_gr false x ox).hi env s0) ((cmp_gr false x ox).phi env s0))
  obtain ⟨s1, h1⟩ : ∃ q, q = cmp false x env s0 := ⟨_, rfl⟩
  rw [← h1] at c1 q1
  have c2 := c_l10Put T nodes s1 14 0 0 eS (by omega)
  have q2 : (s1.emit ⟨14, 0, 0, eS⟩).ins.length = s1.ins.length + 1 ∧ (s1.emit ⟨14, 0, 0, eS⟩).pats.length = s1.pats.length := ⟨emit_len _ _, rfl⟩
  obtain ⟨s2, h2⟩ : ∃ q, q = s1.emit ⟨14, 0, 0, eS⟩ := ⟨_, rfl⟩
  rw [← h2] at c2 q2
  have c3 := iy (m + 1 + x.size) (env ++ [a.s]) s2 hA.kids.tail.head ⟨by omega, by omega, by rw [List.length_append]; simp only [List.length_cons, List.length_nil]; omega⟩
  have q3 := And.intro ((cmp_gr false y oy).lo (env ++ [a.s]) s2) (And.intro ((cmp_gr false y oy).hi (env ++ [a.s]) s2) ((cmp_gr false y oy).phi (env ++ [a.s]) s2))
  obtain ⟨s3, h3⟩ : ∃ q, q = cmp false y (env ++ [a.s]) s2 := ⟨_, rfl⟩
  rw [← h3] at c3 q3
  have c4 := c_l10Put T nodes s3 15 1 0 eS (by omega)
  have q4 : (s3.emit ⟨15, 1, 0, eS⟩).ins.length = s3.ins.length + 1 ∧ (s3.emit ⟨15, 1, 0, eS⟩).pats.length = s3.pats.length := ⟨emit_len _ _, rfl⟩
  obtain ⟨s4, h4⟩ : ∃ q, q = s3.emit ⟨15, 1, 0, eS⟩ := ⟨_, rfl⟩
  rw [← h4] at c4 q4
  have hf : cmp false (.mk a [x, y]) env s0 = s4 := by
    rw [cmp_let (stop_no s0) k, h4, h3, h2, h1]
  rw [hf]
  clear hf h1 h2 h3 h4
  refine FCon.intro PM _ Tryz.func46 (by kernel_rfl) rfl _ Tryz.ntmps46 rfl [(36, 9, [], [], (lin [] [0, 1, 2, 3, 4, 5, 6, 7, 8])), (43, 8, [], [], (lin [] [0, 1, 2, 3, 4, 5, 6, 7])), (45, 8, [], [], (lin [] [0, 1, 2, 3, 4, 5, 6, 7])), (51, 8, [], [], (lin [] [0, 1, 2, 3, 4, 5, 6, 7])), (52, 9, [], [], (lin [] [0, 1, 2, 3, 4, 5, 6, 7, 8])), (54, 8, [], [], (lin [] [0, 1, 2, 3, 4, 5, 6, 7]))] (by decide +kernel) (by simp) (by simp) rfl (by first | rfl | simp only [go_sem]) ?_
  (have hWf := WFx.mk (ai @spD_eq <| ai @hx <| ai @he <| @k); repeat' (first | refine zS ?_ | exact zE | with_reducible apply And.intro | refine zK (hop) ?_ | ((with_reducible apply q_CallG); refine zG (c_l10Under env a.s (by omega)) ?_) | ((with_reducible apply q_CallQ); refine CallQ_mk (c_l10Under env a.s (by omega)) ?_) | refine zH c1 ?_ | refine zH c2 ?_ | refine zH c3 ?_ | refine zH c4 ?_ | with_reducible exact zB0 | with_reducible refine zB fun hb => ?_ | exact zC | refine zT ?_ | fail))
  all_goals first | rfl | skip
theorem exprS_if_ (T : List MType) (nodes : List MNode) (a : EI) (x y z : ET) (ix : SE T nodes x) (ox : okT x) (iy : SE T nodes y) (oy : okT y) (iz : SE T nodes z) (oz : okT z) (m : Nat) (env : List ByteArray) (s0 : CS) (hA : At EI.node nodes m (.mk a [x, y, z])) (hb : BdS (.mk a [x, y, z]) env s0) (k : a.kind = 9) : FCon Tryz.prog 46 [.opt (spD T nodes s0), .s (.int .i64 m), .sl 1 (env.map stE)] (fun r o => r = .tup [] ∧ o = [.opt (spD T nodes (cmp false (.mk a [x, y, z]) env s0)), .un, .un]) := by
  have hx := node_at hA
  have he := node_enc a (idxs (m + 1) ([x, y, z] : List ET))
  have hlt := hA.lt
  have hid : (idxs (m + 1) ([x, y, z] : List ET)).map iE = [[.s (.int .i64 ((m + 1 : Nat) : Int))], [.s (.int .i64 ((m + 1 + x.size : Nat) : Int))], [.s (.int .i64 ((m + 1 + x.size + y.size : Nat) : Int))]] := rfl
  rw [hid] at he
  have hop : FCon Tryz.prog 119 [.s (.int .i64 9)] (fun r _ => r = .s (.int .i64 0)) := c_l10Op 9 (by omega)
  obtain ⟨b1, b2, b3⟩ := hb
  simp only [size_mk, sizeL_cons, sizeL_nil] at b1 b2 b3
  have zx := size_pos x
  have zy := size_pos y
  have zz := size_pos z
  have c1 := ix (m + 1) env s0 hA.kids.head ⟨by omega, by omega, by omega⟩
  have q1 := And.intro ((cmp_gr false x ox).lo env s0) (And.intro ((cmp_gr false x ox).hi env s0) ((cmp_gr false x ox).phi env s0))
  obtain ⟨s1, h1⟩ : ∃ q, q = cmp false x env s0 := ⟨_, rfl⟩
  rw [← h1] at c1 q1
  have c2 := c_l10Put T nodes s1 13 0 0 eS (by omega)
  have q2 : (s1.emit ⟨13, 0, 0, eS⟩).ins.length = s1.ins.length + 1 ∧ (s1.emit ⟨13, 0, 0, eS⟩).pats.length = s1.pats.length := ⟨emit_len _ _, rfl⟩
  obtain ⟨s2, h2⟩ : ∃ q, q = s1.emit ⟨13, 0, 0, eS⟩ := ⟨_, rfl⟩
  rw [← h2] at c2 q2
  have c3 := iy (m + 1 + x.size) env s2 hA.kids.tail.head ⟨by omega, by omega, by omega⟩
  have q3 := And.intro ((cmp_gr false y oy).lo env s2) (And.intro ((cmp_gr false y oy).hi env s2) ((cmp_gr false y oy).phi env s2))
  obtain ⟨s3, h3⟩ : ∃ q, q = cmp false y env s2 := ⟨_, rfl⟩
  rw [← h3] at c3 q3
  have c4 := c_l10Put T nodes s3 12 0 0 eS (by omega)
  have q4 : (s3.emit ⟨12, 0, 0, eS⟩).ins.length = s3.ins.length + 1 ∧ (s3.emit ⟨12, 0, 0, eS⟩).pats.length = s3.pats.length := ⟨emit_len _ _, rfl⟩
  obtain ⟨s4, h4⟩ : ∃ q, q = s3.emit ⟨12, 0, 0, eS⟩ := ⟨_, rfl⟩
  rw [← h4] at c4 q4
  have c5 := c_l10Here T nodes s4
  have q5 : (s4.here s1.ins.length).ins.length = s4.ins.length ∧ (s4.here s1.ins.length).pats.length = s4.pats.length := ⟨here_len _ _, rfl⟩
  have hi5 : s1.ins.length < s4.ins.length := by omega
  have hy5 := getD_map MIns.enc s4.ins s1.ins.length hi5
  have hz5 := MIns.enc_eq s4.ins[s1.ins.length]
  have hw5 := here_set hi5
  have hp5 : (s4.here s1.ins.length).pats = s4.pats := rfl
  have hl5 : (s4.here s1.ins.length).lost = s4.lost := rfl
  have hn5 := here_len s4 s1.ins.length
  obtain ⟨s5, h5⟩ : ∃ q, q = s4.here s1.ins.length := ⟨_, rfl⟩
  rw [← h5] at q5 hw5 hp5 hl5 hn5
  have c6 := iz (m + 1 + x.size + y.size) env s5 hA.kids.tail.tail.head ⟨by omega, by omega, by omega⟩
  have q6 := And.intro ((cmp_gr false z oz).lo env s5) (And.intro ((cmp_gr false z oz).hi env s5) ((cmp_gr false z oz).phi env s5))
  obtain ⟨s6, h6⟩ : ∃ q, q = cmp false z env s5 := ⟨_, rfl⟩
  rw [← h6] at c6 q6
  have c7 := c_l10Here T nodes s6
  have q7 : (s6.here s3.ins.length).ins.length = s6.ins.length ∧ (s6.here s3.ins.length).pats.length = s6.pats.length := ⟨here_len _ _, rfl⟩
  have hi7 : s3.ins.length < s6.ins.length := by omega
  have hy7 := getD_map MIns.enc s6.ins s3.ins.length hi7
  have hz7 := MIns.enc_eq s6.ins[s3.ins.length]
  have hw7 := here_set hi7
  have hp7 : (s6.here s3.ins.length).pats = s6.pats := rfl
  have hl7 : (s6.here s3.ins.length).lost = s6.lost := rfl
  have hn7 := here_len s6 s3.ins.length
  obtain ⟨s7, h7⟩ : ∃ q, q = s6.here s3.ins.length := ⟨_, rfl⟩
  rw [← h7] at q7 hw7 hp7 hl7 hn7
  have hf : cmp false (.mk a [x, y, z]) env s0 = s7 := by
    rw [cmp_if (stop_no s0) k, h7, h6, h5, h4, h3, h2, h1]; rfl
  rw [spD_eq T nodes s5, hp5, hl5] at c6
  rw [hf]
  clear hf h1 h2 h3 h4 h5 h6 h7
  refine FCon.intro PM _ Tryz.func46 (by kernel_rfl) rfl _ Tryz.ntmps46 rfl [(36, 9, [], [], (lin [] [0, 1, 2, 3, 4, 5, 6, 7, 8])), (43, 8, [], [], (lin [] [0, 1, 2, 3, 4, 5, 6, 7])), (45, 8, [], [], (lin [] [0, 1, 2, 3, 4, 5, 6, 7])), (51, 8, [], [], (lin [] [0, 1, 2, 3, 4, 5, 6, 7])), (52, 9, [], [], (lin [] [0, 1, 2, 3, 4, 5, 6, 7, 8])), (54, 8, [], [], (lin [] [0, 1, 2, 3, 4, 5, 6, 7]))] (by decide +kernel) (by simp) (by simp) rfl (by first | rfl | simp only [go_sem]) ?_
  (have hWf := WFx.mk (ai @spD_eq <| ai @hx <| ai @he <| ai @k <| ai @hy5 <| ai @hz5 <| ai @hw5 <| ai @hp5 <| ai @hl5 <| ai @hn5 <| ai @hy7 <| ai @hz7 <| ai @hw7 <| ai @hp7 <| ai @hl7 <| @hn7); repeat' (first | refine zS ?_ | exact zE | with_reducible apply And.intro | refine zK (hop) ?_ | refine zH c1 ?_ | refine zH c2 ?_ | refine zH c3 ?_ | refine zH c4 ?_ | refine zK (c5) ?_ | refine zH c6 ?_ | refine zK (c7) ?_ | with_reducible exact zB0 | with_reducible refine zB fun hb => ?_ | exact zC | refine zT ?_ | fail))
  all_goals first | rfl | skip
theorem exprS_try_ (T : List MType) (nodes : List MNode) (a : EI) (x y : ET) (ix : SE T nodes x) (ox : okT x) (iy : SE T nodes y) (oy : okT y) (m : Nat) (env : List ByteArray) (s0 : CS) (hA : At EI.node nodes m (.mk a [x, y])) (hb : BdS (.mk a [x, y]) env s0) (k : a.kind = 15) : FCon Tryz.prog 46 [.opt (spD T nodes s0), .s (.int .i64 m), .sl 1 (env.map stE)] (fun r o => r = .tup [] ∧ o = [.opt (spD T nodes (cmp false (.mk a [x, y]) env s0)), .un, .un]) := by
  have hx := node_at hA
  have he := node_enc a (idxs (m + 1) ([x, y] : List ET))
  have hlt := hA.lt
  have hid : (idxs (m + 1) ([x, y] : List ET)).map iE = [[.s (.int .i64 ((m + 1 : Nat) : Int))], [.s (.int .i64 ((m + 1 + x.size : Nat) : Int))]] := rfl
  rw [hid] at he
  have hop : FCon Tryz.prog 119 [.s (.int .i64 15)] (fun r _ => r = .s (.int .i64 0)) := c_l10Op 15 (by omega)
  obtain ⟨b1, b2, b3⟩ := hb
  simp only [size_mk, sizeL_cons, sizeL_nil] at b1 b2 b3
  have zx := size_pos x
  have zy := size_pos y
  have c1 := c_l10Put T nodes s0 18 0 0 eS (by omega)
  have q1 : (s0.emit ⟨18, 0, 0, eS⟩).ins.length = s0.ins.length + 1 ∧ (s0.emit ⟨18, 0, 0, eS⟩).pats.length = s0.pats.length := ⟨emit_len _ _, rfl⟩
  obtain ⟨s1, h1⟩ : ∃ q, q = s0.emit ⟨18, 0, 0, eS⟩ := ⟨_, rfl⟩
  rw [← h1] at c1 q1
  have c2 := ix (m + 1) env s1 hA.kids.head ⟨by omega, by omega, by omega⟩
  have q2 := And.intro ((cmp_gr false x ox).lo env s1) (And.intro ((cmp_gr false x ox).hi env s1) ((cmp_gr false x ox).phi env s1))
  obtain ⟨s2, h2⟩ : ∃ q, q = cmp false x env s1 := ⟨_, rfl⟩
  rw [← h2] at c2 q2
  have c3 := c_l10Put T nodes s2 19 0 0 eS (by omega)
  have q3 : (s2.emit ⟨19, 0, 0, eS⟩).ins.length = s2.ins.length + 1 ∧ (s2.emit ⟨19, 0, 0, eS⟩).pats.length = s2.pats.length := ⟨emit_len _ _, rfl⟩
  obtain ⟨s3, h3⟩ : ∃ q, q = s2.emit ⟨19, 0, 0, eS⟩ := ⟨_, rfl⟩
  rw [← h3] at c3 q3
  have c4 := c_l10Put T nodes s3 12 0 0 eS (by omega)
  have q4 : (s3.emit ⟨12, 0, 0, eS⟩).ins.length = s3.ins.length + 1 ∧ (s3.emit ⟨12, 0, 0, eS⟩).pats.length = s3.pats.length := ⟨emit_len _ _, rfl⟩
  obtain ⟨s4, h4⟩ : ∃ q, q = s3.emit ⟨12, 0, 0, eS⟩ := ⟨_, rfl⟩
  rw [← h4] at c4 q4
  have c5 := c_l10Here T nodes s4
  have q5 : (s4.here s0.ins.length).ins.length = s4.ins.length ∧ (s4.here s0.ins.length).pats.length = s4.pats.length := ⟨here_len _ _, rfl⟩
  have hi5 : s0.ins.length < s4.ins.length := by omega
  have hy5 := getD_map MIns.enc s4.ins s0.ins.length hi5
  have hz5 := MIns.enc_eq s4.ins[s0.ins.length]
  have hw5 := here_set hi5
  have hp5 : (s4.here s0.ins.length).pats = s4.pats := rfl
  have hl5 : (s4.here s0.ins.length).lost = s4.lost := rfl
  have hn5 := here_len s4 s0.ins.length
  obtain ⟨s5, h5⟩ : ∃ q, q = s4.here s0.ins.length := ⟨_, rfl⟩
  rw [← h5] at q5 hw5 hp5 hl5 hn5
  have c6 := iy (m + 1 + x.size) (env ++ [a.s]) s5 hA.kids.tail.head ⟨by omega, by omega, by rw [List.length_append]; simp only [List.length_cons, List.length_nil]; omega⟩
  have q6 := And.intro ((cmp_gr false y oy).lo (env ++ [a.s]) s5) (And.intro ((cmp_gr false y oy).hi (env ++ [a.s]) s5) ((cmp_gr false y oy).phi (env ++ [a.s]) s5))
  obtain ⟨s6, h6⟩ : ∃ q, q = cmp false y (env ++ [a.s]) s5 := ⟨_, rfl⟩
  rw [← h6] at c6 q6
  have c7 := c_l10Put T nodes s6 15 1 0 eS (by omega)
  have q7 : (s6.emit ⟨15, 1, 0, eS⟩).ins.length = s6.ins.length + 1 ∧ (s6.emit ⟨15, 1, 0, eS⟩).pats.length = s6.pats.length := ⟨emit_len _ _, rfl⟩
  obtain ⟨s7, h7⟩ : ∃ q, q = s6.emit ⟨15, 1, 0, eS⟩ := ⟨_, rfl⟩
  rw [← h7] at c7 q7
  have c8 := c_l10Here T nodes s7
  have q8 : (s7.here s3.ins.length).ins.length = s7.ins.length ∧ (s7.here s3.ins.length).pats.length = s7.pats.length := ⟨here_len _ _, rfl⟩
  have hi8 : s3.ins.length < s7.ins.length := by omega
  have hy8 := getD_map MIns.enc s7.ins s3.ins.length hi8
  have hz8 := MIns.enc_eq s7.ins[s3.ins.length]
  have hw8 := here_set hi8
  have hp8 : (s7.here s3.ins.length).pats = s7.pats := rfl
  have hl8 : (s7.here s3.ins.length).lost = s7.lost := rfl
  have hn8 := here_len s7 s3.ins.length
  obtain ⟨s8, h8⟩ : ∃ q, q = s7.here s3.ins.length := ⟨_, rfl⟩
  rw [← h8] at q8 hw8 hp8 hl8 hn8
  have hf : cmp false (.mk a [x, y]) env s0 = s8 := by
    rw [cmp_try (stop_no s0) k, h8, h7, h6, h5, h4, h3, h2, h1]; rfl
  rw [spD_eq T nodes s5, hp5, hl5] at c6
  rw [hf]
  clear hf h1 h2 h3 h4 h5 h6 h7 h8
  refine FCon.intro PM _ Tryz.func46 (by kernel_rfl) rfl _ Tryz.ntmps46 rfl [(36, 9, [], [], (lin [] [0, 1, 2, 3, 4, 5, 6, 7, 8])), (43, 8, [], [], (lin [] [0, 1, 2, 3, 4, 5, 6, 7])), (45, 8, [], [], (lin [] [0, 1, 2, 3, 4, 5, 6, 7])), (51, 8, [], [], (lin [] [0, 1, 2, 3, 4, 5, 6, 7])), (52, 9, [], [], (lin [] [0, 1, 2, 3, 4, 5, 6, 7, 8])), (54, 8, [], [], (lin [] [0, 1, 2, 3, 4, 5, 6, 7]))] (by decide +kernel) (by simp) (by simp) rfl (by first | rfl | simp only [go_sem]) ?_
  (have hWf := WFx.mk (ai @spD_eq <| ai @hx <| ai @he <| ai @k <| ai @hy5 <| ai @hz5 <| ai @hw5 <| ai @hp5 <| ai @hl5 <| ai @hn5 <| ai @hy8 <| ai @hz8 <| ai @hw8 <| ai @hp8 <| ai @hl8 <| @hn8); repeat' (first | refine zS ?_ | exact zE | with_reducible apply And.intro | refine zK (hop) ?_ | ((with_reducible apply q_CallG); refine zG (c_l10Under env a.s (by omega)) ?_) | ((with_reducible apply q_CallQ); refine CallQ_mk (c_l10Under env a.s (by omega)) ?_) | refine zH c1 ?_ | refine zH c2 ?_ | refine zH c3 ?_ | refine zH c4 ?_ | refine zK (c5) ?_ | refine zH c6 ?_ | refine zH c7 ?_ | refine zK (c8) ?_ | with_reducible exact zB0 | with_reducible refine zB fun hb => ?_ | exact zC | refine zT ?_ | fail))
  all_goals first | rfl | skip
end Go.Proofs.YtahdaknaoogpkaaGreat
