import Derived.Test.YtahdaknaoogpkaaGreatCiB
import Derived.Test.YtahdaknaoogpkaaGreatPaB
import Derived.Test.YtahdaknaoogpkaaGreatPoB
import Derived.Test.YtahdaknaoogpkaaGreatGwB
/- The compiler of the program, over the second engine: matches, all expressions, Compile. -/
set_option maxRecDepth 100000
set_option maxHeartbeats 4000000
namespace Go.Proofs.YtahdaknaoogpkaaGreat
set_option linter.unusedVariables false
set_option linter.unusedSimpArgs false
attribute [local go_sem] List.getD_cons_succ
open Go.RowKit Arb
theorem arms_succ (env : List ByteArray) (q : MPat) (f : CF) : ∀ (l : List (MPat × CF)) (s : CS) (js : List Nat), armsC env (l ++ [(q, f)]) s js = (armC q f env (armsC env l s js).1, (armsC env l s js).2 ++ [(armC q f env (armsC env l s js).1).ins.length - 1])
  | [], s, js => rfl
  | (q', f') :: l, s, js => by rw [List.cons_append, armsC, armsC, arms_succ env q f l]
theorem heres_app : ∀ (l : List Nat) (s : CS) (j : Nat), heresC s (l ++ [j]) = (heresC s l).here j
  | [], s, j => rfl
  | i :: l, s, j => by rw [List.cons_append, heresC, heresC, heres_app l]
theorem zip_take {chk : Bool} {qs : List MPat} {r : List ET} {k : Nat} (h : k < qs.length) (h2 : k < r.length) : (qs.zip (r.map (cmp chk))).take (k + 1) = (qs.zip (r.map (cmp chk))).take k ++ [(qs[k], cmp chk r[k])] := by
  rw [List.take_succ_eq_append_getElem (by simp; omega), List.getElem_zip, List.getElem_map]
theorem zip_take_all {chk : Bool} {qs : List MPat} {r : List ET} (h : qs.length = r.length) : (qs.zip (r.map (cmp chk))).take qs.length = qs.zip (r.map (cmp chk)) := List.take_of_length_le (by simp [h])
theorem zip_take_z {chk : Bool} {qs : List MPat} {r : List ET} (k : Nat) : (qs.zip (r.map (cmp chk))).take k = (qs.take k).zip ((r.take k).map (cmp chk)) := by
  simp only [List.zip, List.take_zipWith, List.map_take]
theorem arms_js {chk : Bool} : ∀ (qs : List MPat) (ts : List ET), (∀ t ∈ ts, okT t) → ∀ (env : List ByteArray) (s : CS) (js : List Nat), (∀ j ∈ js, j < s.ins.length) → ∀ j ∈ (armsC env (qs.zip (ts.map (cmp chk))) s js).2, j < (armsC env (qs.zip (ts.map (cmp chk))) s js).1.ins.length
  | [], ts, _, env, s, js, h => by simpa [armsC] using h
  | q :: qs, [], _, env, s, js, h => by simpa [armsC] using h
  | q :: qs, t :: ts, ok, env, s, js, h => by
    rw [List.map_cons, List.zip_cons_cons, armsC]
    refine arms_js qs ts (fun t ht => ok t (by simp [ht])) env _ _ fun j hj => ?_
    have hg := gr_arm (cmp_gr chk t (ok t (by simp))) q
    have h1 := hg.lo env s
    have h2 : 0 < (armC q (cmp chk t) env s).ins.length := by
      have := (cmp_gr chk t (ok t (by simp))).lo (env ++ pnames q.nodes) (arm0 q s)
      show 0 < (setB _ _ _).length
      rw [setB_len, arm1, emit_len, emit_len]; omega
    rcases List.mem_append.1 hj with hj | hj
    · have := h j hj; omega
    · simp only [List.mem_singleton] at hj; omega
theorem arms_jlen {chk : Bool} : ∀ (qs : List MPat) (ts : List ET) (env : List ByteArray) (s : CS) (js : List Nat), qs.length = ts.length → (armsC env (qs.zip (ts.map (cmp chk))) s js).2.length = js.length + qs.length
  | [], [], env, s, js, _ => by simp [armsC]
  | q :: qs, t :: ts, env, s, js, h => by
    rw [List.map_cons, List.zip_cons_cons, armsC, arms_jlen qs ts _ _ _ (by simpa using h)]
    simp; omega
def nE (j : Nat) : List D := [.s (.int .i64 j)]
theorem nE_eq (j : Nat) : nE j = [.s (.int .i64 j)] := rfl
theorem c_match (a : EI) (x : ET) (r : List ET) (ix : CE x) (ox : okT x) (ir : ∀ t ∈ r, CE t) (or : ∀ t ∈ r, okT t) (hpl : a.pats.length = r.length) (hpm : ∀ q ∈ a.pats, patM q.nodes = true) (env : List ByteArray) (s0 : CS) (hb : Bd (.mk a (x :: r)) env s0) :
    FCon Tryz.prog 130 [.opt (cmpD s0 env), exE (.mk a (x :: r))] (fun r' o => r' = .tup [] ∧ o = [.opt (cmpD (matC (cmp true x) (a.pats.zip (r.map (cmp true))) env s0) env), .un]) := by
  obtain ⟨b1, b2, b3⟩ := hb
  simp only [size_mk, sizeL_cons] at b1 b2 b3
  have zx := size_pos x
  have hrl := sizeL_len r
  have c1 := ix env s0 ⟨by omega, by omega, by omega⟩
  have q1 := And.intro ((cmp_gr true x ox).lo env s0) (And.intro ((cmp_gr true x ox).hi env s0) ((cmp_gr true x ox).phi env s0))
  unfold matC
  obtain ⟨s1, h1⟩ : ∃ q, q = cmp true x env s0 := ⟨_, rfl⟩
  rw [← h1] at c1 q1 ⊢
  clear h1
  obtain ⟨gx, rx⟩ := x
  simp only [exE_mk, List.map_cons, exS_mk] at c1 ⊢
  refine FCon.intro PM _ Tryz.func130 (by kernel_rfl) rfl _ Tryz.ntmps130 rfl [(7, 10, [7, 8, 9], [(7, 0), (7, 1), (7, 2), (7, 3), (7, 4), (7, 5), (8, 0), (8, 1), (8, 2), (8, 3), (8, 4), (8, 5), (9, 0)], (lin [7, 8, 9] [0, 1, 2, 3, 4, 5, 6, 7, 8, 9])), (11, 12, [], [], (lin [] [0, 1, 2, 3, 4, 5, 6, 7, 8, 9, 10, 11]))] (by decide +kernel) (by simp) (by simp) rfl (by first | rfl | simp only [go_sem]) ?_
  (have hWf := WFx.mk @cmpD_eq; repeat' (first | refine zS ?_ | exact zE | with_reducible apply And.intro | refine zH c1 ?_ | with_reducible exact zB0 | with_reducible refine zB fun hb => ?_ | exact zC | refine zT ?_ | fail))
  have hga := fun (k : Nat) => gr_arms true (a.pats.take k) (r.take k) (fun t ht => cmp_gr true t (or t (List.mem_of_mem_take ht))) env s1 []
  have hjs := arms_js (chk := true) a.pats r or env s1 [] (by simp)
  have hgA := gr_arms true a.pats r (fun t ht => cmp_gr true t (or t ht)) env s1 []
  have hjl := fun (k : Nat) (h : k ≤ r.length) => arms_jlen (chk := true) (a.pats.take k) (r.take k) env s1 [] (by simp; omega)
  have hzt := zip_take_z (chk := true) (qs := a.pats) (r := r)
  refine AC_loop (fun n σ => ∃ k : Nat, k ≤ a.pats.length ∧ n = a.pats.length - k ∧ σ.t 0 = .bx 900000 0 ∧ σ.t 1 = .pt [.s (.int .i64 a.kind), .s (.int .i64 a.at_), .s (.int .i64 a.n), .s (.string a.s), .sl 1 ([.pt [.s (.int .i64 gx.kind), .s (.int .i64 gx.at_), .s (.int .i64 gx.n), .s (.string gx.s), .sl 1 (rx.map exS), .sl 1 (gx.pats.map MPat.enc)]] :: r.map exS), .sl 1 (a.pats.map MPat.enc)] ∧
    σ.t 4 = .bs 19 1 k ∧ σ.b 19 = some (.arr 3 1 ((armsC env ((a.pats.zip (r.map (cmp true))).take k) s1 []).2.map nE)) ∧ σ.t 23 = .sl 1 (a.pats.map MPat.enc) ∧ σ.t 24 = .s (.int .i64 a.pats.length) ∧ σ.t 25 = .s (.int .i64 k) ∧
    σ.b 900000 = some (.box [.bs 1900000 4 (armsC env ((a.pats.zip (r.map (cmp true))).take k) s1 []).1.ins.length, .bs 2900000 1 (armsC env ((a.pats.zip (r.map (cmp true))).take k) s1 []).1.pats.length, .bs 3900000 1 env.length, .s (.bool (armsC env ((a.pats.zip (r.map (cmp true))).take k) s1 []).1.lost)]) ∧
    σ.b 1900000 = some (.arr 53 4 ((armsC env ((a.pats.zip (r.map (cmp true))).take k) s1 []).1.ins.map MIns.enc)) ∧ σ.b 2900000 = some (.arr 114 1 ((armsC env ((a.pats.zip (r.map (cmp true))).take k) s1 []).1.pats.map MPat.own)) ∧ σ.b 3900000 = some (.arr 9 1 (env.map stE))) a.pats.length ⟨0, by omega, by omega, ?_⟩ ?_
  · simp only [go_sem, simprocAttr, Int.natCast_zero, List.take_zero, armsC]
  · rintro n σ ⟨k, hk, rfl, h0, h1, h4, c9, h23, h24, h25, c0, d1, d2, d3⟩ K' hK
    by_cases hlt : k < a.pats.length
    · have hlr : k < r.length := by omega
      have hst := zip_take (chk := true) hlt hlr
      have hsu := arms_succ env a.pats[k] (cmp true r[k]) ((a.pats.zip (r.map (cmp true))).take k) s1 []
      rw [← hst] at hsu
      have g := hga k
      have jl := hjl k (by omega)
      rw [← hzt k] at g jl
      obtain ⟨S, hS⟩ : ∃ S, S = (armsC env ((a.pats.zip (r.map (cmp true))).take k) s1 []).1 := ⟨_, rfl⟩
      obtain ⟨J, hJ⟩ : ∃ J, J = (armsC env ((a.pats.zip (r.map (cmp true))).take k) s1 []).2 := ⟨_, rfl⟩
      rw [← hS] at c0 d1 d2 g hsu
      rw [← hJ] at c9 jl hsu
      have jl : J.length = k := by rw [jl, List.length_take]; simp; omega
      have hsp := sizeL_split hlr
      have zr := size_pos r[k]
      have hpo := hpm a.pats[k] (List.getElem_mem hlt)
      have hpn := pnames_len a.pats[k].nodes
      have hp6 := patM_len hpo
      have hpk := patM_kids hpo
      have e1 := c_emit S env ⟨20, S.pats.length, 0, eS⟩ (by omega)
      obtain ⟨S1, hS1⟩ : ∃ q, q = S.emit ⟨20, S.pats.length, 0, eS⟩ := ⟨_, rfl⟩
      have p1 : S1.ins.length = S.ins.length + 1 := by rw [hS1, emit_len]
      have p1p : S1.pats = S.pats := by rw [hS1]; rfl
      have p1l : S1.lost = S.lost := by rw [hS1]; rfl
      have ha0 : arm0 a.pats[k] S = ⟨S1.ins, S1.pats ++ [a.pats[k]], S1.lost⟩ := by rw [hS1]; rfl
      rw [← hS1] at e1
      have hcp := c_copyPat a.pats[k].nodes (by omega) (fun y hy => by have := hpk y hy; omega)
      have e2 := c_cwithin (ir r[k] (List.getElem_mem hlr)) env (pnames a.pats[k].nodes) (arm0 a.pats[k] S) ⟨by rw [ha0]; show S1.ins.length + _ ≤ _; omega, by rw [ha0]; show (S1.pats ++ [a.pats[k]]).length + _ ≤ _; rw [p1p]; simp; omega, by rw [List.length_append]; omega⟩
      have q2 := And.intro ((cmp_gr true r[k] (or r[k] (List.getElem_mem hlr))).lo (env ++ pnames a.pats[k].nodes) (arm0 a.pats[k] S)) ((cmp_gr true r[k] (or r[k] (List.getElem_mem hlr))).hi (env ++ pnames a.pats[k].nodes) (arm0 a.pats[k] S))
      obtain ⟨S2, hS2⟩ : ∃ q, q = cmp true r[k] (env ++ pnames a.pats[k].nodes) (arm0 a.pats[k] S) := ⟨_, rfl⟩
      have hA1 : arm1 a.pats[k] (cmp true r[k]) env S = (S2.emit ⟨15, (pnames a.pats[k].nodes).length, 0, eS⟩).emit ⟨12, 0, 0, eS⟩ := by rw [hS2]; rfl
      rw [← hS2] at e2 q2
      rw [ha0] at e2 q2
      have q2' : S1.ins.length ≤ S2.ins.length ∧ S2.ins.length ≤ S1.ins.length + (4 * r[k].size - 3) := q2
      have e3 := c_emit S2 env ⟨15, (pnames a.pats[k].nodes).length, 0, eS⟩ (by omega)
      obtain ⟨S3, hS3⟩ : ∃ q, q = S2.emit ⟨15, (pnames a.pats[k].nodes).length, 0, eS⟩ := ⟨_, rfl⟩
      have p3 : S3.ins.length = S2.ins.length + 1 := by rw [hS3, emit_len]
      rw [← hS3] at e3 hA1
      have e4 := c_emit S3 env ⟨12, 0, 0, eS⟩ (by omega)
      obtain ⟨S4, hS4⟩ : ∃ q, q = S3.emit ⟨12, 0, 0, eS⟩ := ⟨_, rfl⟩
      have p4 : S4.ins.length = S3.ins.length + 1 := by rw [hS4, emit_len]
      rw [← hS4] at e4 hA1
      have hAC : armC a.pats[k] (cmp true r[k]) env S = ⟨setB S4.ins S.ins.length S4.ins.length, S4.pats, S4.lost⟩ := by unfold armC; rw [hA1]
      rw [hAC] at hsu
      have hil : S.ins.length < S4.ins.length := by omega
      have hx3 := getD_map MIns.enc S4.ins S.ins.length hil
      have he3 := MIns.enc_eq S4.ins[S.ins.length]
      have hst3 : (S4.ins.map MIns.enc).set S.ins.length [.s (.int .i64 S4.ins[S.ins.length].op), .s (.int .i64 S4.ins[S.ins.length].a), .s (.int .i64 S4.ins.length), .s (.string S4.ins[S.ins.length].s)] = (setB S4.ins S.ins.length S4.ins.length).map MIns.enc := by
        rw [setB_at hil, List.map_set]; rfl
      have hx := getD_map exS r k hlr
      have hx2 := getD_map MPat.enc a.pats k hlt
      have hq := MPat.enc_eq a.pats[k]
      have hqo := MPat.own_eq a.pats[k]
      obtain ⟨b, br, hbr⟩ : ∃ b br, r[k] = .mk b br := ⟨_, _, Arb.eta _⟩
      have hex : exS r[k] = [.pt [.s (.int .i64 b.kind), .s (.int .i64 b.at_), .s (.int .i64 b.n), .s (.string b.s), .sl 1 (br.map exS), .sl 1 (b.pats.map MPat.enc)]] := by rw [hbr, exS_mk]
      have hexE : exE r[k] = .pt [.s (.int .i64 b.kind), .s (.int .i64 b.at_), .s (.int .i64 b.n), .s (.string b.s), .sl 1 (br.map exS), .sl 1 (b.pats.map MPat.enc)] := by rw [hbr, exE_mk]
      rw [hexE, cmpD_eq] at e2
      simp only [List.map_append, List.map_cons, List.map_nil, hqo, p1p, p1l] at e2
      have htn : ((k : Int) + 1).toNat = k + 1 := by omega
      have hlb : setB_len S4.ins S.ins.length S4.ins.length = setB_len S4.ins S.ins.length S4.ins.length := rfl
      have hsl := setB_len S4.ins S.ins.length S4.ins.length
      have hS4l : (S4.ins.length : Int) - 1 = S3.ins.length := by omega
      have hjn : S4.ins.length - 1 = S3.ins.length := by omega
      have htj : (J.map nE).take k = J.map nE := List.take_of_length_le (by rw [List.length_map]; omega)
      clear hS1 hS2 hS3 hS4 hA1 hAC ha0 q2 hS hJ hjs hgA hga hjl
      (have hWf := WFx.mk (ai @cmpD_eq <| ai @h0 <| ai @h1 <| ai @h4 <| ai @c9 <| ai @h23 <| ai @h24 <| ai @h25 <| ai @c0 <| ai @d1 <| ai @d2 <| ai @d3 <| ai @hx <| ai @hx2 <| ai @hq <| ai @hex <| ai @htn <| ai @hx3 <| ai @he3 <| ai @hst3 <| ai @p1p <| ai @p1l <| ai @stE_frz <| @hsl); repeat' (first | refine zS ?_ | exact zE | with_reducible apply And.intro | refine zH e1 ?_ | ((with_reducible apply q_CallE); refine CallE_mk (FCon.noout hcp) ?_) | ((with_reducible apply q_CallG); refine zG (hcp) ?_) | ((with_reducible apply q_CallG); refine zG (c_patNames a.pats[k].nodes (by omega)) ?_) | ((with_reducible apply q_CallQ); refine CallQ_mk (c_patNames a.pats[k].nodes (by omega)) ?_) | refine zH e2 ?_ | refine zH e3 ?_ | refine zH e4 ?_ | with_reducible exact zB0 | with_reducible refine zB fun hb => ?_ | exact zC | refine zT ?_ | fail))
      refine hK (a.pats.length - (k + 1)) _ (by omega) ⟨k + 1, by omega, rfl, ?_⟩
      simp only [go_sem, simprocAttr, h0, h1, h4, c9, h23, h24, h25, c0, d1, d2, d3, Int.natCast_succ, hsu, List.map_append, hjn, nE_eq, hsl, htj]
    · obtain rfl : k = a.pats.length := by omega
      rw [zip_take_all (by omega)] at c0 c9 d1 d2
      have jl := hjl r.length (by omega)
      rw [List.take_length, hpl.symm, List.take_length] at jl
      obtain ⟨S, hS⟩ : ∃ S, S = (armsC env (a.pats.zip (r.map (cmp true))) s1 []).1 := ⟨_, rfl⟩
      obtain ⟨J, hJ⟩ : ∃ J, J = (armsC env (a.pats.zip (r.map (cmp true))) s1 []).2 := ⟨_, rfl⟩
      rw [← hS] at c0 d1 d2 hjs hgA ⊢
      rw [← hJ] at c9 hjs jl ⊢
      have e1 := c_emit S env ⟨21, 0, 0, eS⟩ (by omega)
      obtain ⟨S1, hS1⟩ : ∃ q, q = S.emit ⟨21, 0, 0, eS⟩ := ⟨_, rfl⟩
      have p1 : S1.ins.length = S.ins.length + 1 := by rw [hS1, emit_len]
      rw [← hS1] at e1 ⊢
      have jl : J.length = a.pats.length := by simpa using jl
      have hSb : S.ins.length ≤ 100000 := by omega
      clear hS hJ hga hgA hjl hzt hS1
      (have hWf := WFx.mk (ai @cmpD_eq <| ai @h0 <| ai @h1 <| ai @h4 <| ai @c9 <| ai @h23 <| ai @h24 <| ai @h25 <| ai @c0 <| ai @d1 <| ai @d2 <| ai @d3 <| @jl); repeat' (first | refine zS ?_ | exact zE | with_reducible apply And.intro | refine zH e1 ?_ | with_reducible exact zB0 | with_reducible refine zB fun hb => ?_ | exact zC | refine zT ?_ | fail))
      refine AC_loop (fun n σ => ∃ k : Nat, k ≤ J.length ∧ n = J.length - k ∧ σ.t 0 = .bx 900000 0 ∧ σ.b 19 = some (.arr 3 1 (J.map nE)) ∧ σ.t 94 = .bs 19 1 J.length ∧ σ.t 95 = .s (.int .i64 J.length) ∧ σ.t 96 = .s (.int .i64 k) ∧
        σ.b 900000 = some (.box [.bs 1900000 4 (heresC S1 (J.take k)).ins.length, .bs 2900000 1 (heresC S1 (J.take k)).pats.length, .bs 3900000 1 env.length, .s (.bool (heresC S1 (J.take k)).lost)]) ∧
        σ.b 1900000 = some (.arr 53 4 ((heresC S1 (J.take k)).ins.map MIns.enc)) ∧ σ.b 2900000 = some (.arr 114 1 ((heresC S1 (J.take k)).pats.map MPat.own)) ∧ σ.b 3900000 = some (.arr 9 1 (env.map stE))) J.length ⟨0, by omega, by omega, ?_⟩ ?_
      · simp only [go_sem, simprocAttr, h0, h1, h4, c9, h23, h24, h25, c0, d1, d2, d3, jl, Int.natCast_zero, List.take_zero, heresC]
      · rintro n σ ⟨k, hk, rfl, g0, g19, g94, g95, g96, f0, f1, f2, f3⟩ K'' hK''
        by_cases hlt : k < J.length
        · have hx := getD_map nE J k hlt
          have he := nE_eq J[k]
          have hj := hjs J[k] (List.getElem_mem hlt)
          have hh := heres_app (J.take k) S1 J[k]
          rw [← List.take_succ_eq_append_getElem hlt] at hh
          have hlen := (heres_len S1 (J.take k)).1
          have e2 := c_here (heresC S1 (J.take k)) env J[k] (by omega) (by omega)
          rw [← hh] at e2
          (have hWf := WFx.mk (ai @cmpD_eq <| ai @g0 <| ai @g19 <| ai @g94 <| ai @g95 <| ai @g96 <| ai @f0 <| ai @f1 <| ai @f2 <| ai @f3 <| ai @hx <| @he); repeat' (first | refine zS ?_ | exact zE | with_reducible apply And.intro | refine zH e2 ?_ | with_reducible exact zB0 | with_reducible refine zB fun hb => ?_ | exact zC | refine zT ?_ | fail))
          refine hK'' (J.length - (k + 1)) _ (by omega) ⟨k + 1, by omega, rfl, ?_⟩
          simp only [go_sem, simprocAttr, g0, g19, g94, g95, g96, f0, f1, f2, f3, Int.natCast_succ, cmpD_eq]
        · obtain rfl : k = J.length := by omega
          rw [List.take_length] at f0 f1 f2
          (have hWf := WFx.mk (ai @cmpD_eq <| ai @g0 <| ai @g19 <| ai @g94 <| ai @g95 <| ai @g96 <| ai @f0 <| ai @f1 <| ai @f2 <| @f3); repeat' (first | refine zS ?_ | exact zE | with_reducible apply And.intro | with_reducible exact zB0 | with_reducible refine zB fun hb => ?_ | exact zC | refine zT ?_ | fail))
          all_goals rfl
theorem expr_var (a : EI) (env : List ByteArray) (s0 : CS) (hb : Bd (.mk a []) env s0) (hs : stopB true s0 = false) (k : a.kind = 3) : FCon Tryz.prog 48 [.opt (cmpD s0 env), exE (.mk a [])] (fun r o => r = .tup [] ∧ o = [.opt (cmpD (cmp true (.mk a []) env s0) env), .un]) := by
  obtain ⟨hl, h3⟩ := stop_f hs
  have hce := c_ending a [] (by omega) (by simp)
  have hee : ∀ n, (endI a n).enc = [.s (.int .i64 0), .s (.int .i64 0), .s (.int .i64 0), .s (.string eS)] := fun n => by unfold endI; simp [k, MIns.enc]
  obtain ⟨b1, b2, b3⟩ := hb
  simp only [size_mk, sizeL_cons, sizeL_nil] at b1 b2 b3
  rw [cmp_var hs k]
  have c1 := c_name s0 env a.s (by omega) (by omega)
  simp only [exE_mk, List.map_cons, List.map_nil] at hce ⊢
  rw [k] at hce
  simp only [cmpD_eq s0 env, hl] at c1
  refine FCon.intro PM _ Tryz.func48 (by kernel_rfl) rfl _ Tryz.ntmps48 rfl [(14, 12, [], [], (lin [] [0, 1, 2, 3, 4, 5, 6, 7, 8, 9, 10, 11])), (16, 26, [], [], (lin [] [0, 1, 2, 3, 4, 5, 6, 7, 8, 9, 10, 11, 12, 13, 14, 15, 16, 17, 18, 19, 20, 21, 22, 23, 24, 25])), (17, 12, [], [], (lin [] [0, 1, 2, 3, 4, 5, 6, 7, 8, 9, 10, 11])), (26, 12, [], [], (lin [] [0, 1, 2, 3, 4, 5, 6, 7, 8, 9, 10, 11])), (42, 12, [], [], (lin [] [0, 1, 2, 3, 4, 5, 6, 7, 8, 9, 10, 11]))] (by decide +kernel) (by simp) (by simp) rfl (by first | rfl | simp only [go_sem]) ?_
  (have hWf := WFx.mk (ai @cmpD_eq <| ai @hl <| ai @hee <| @k); repeat' (first | refine zS ?_ | exact zE | with_reducible apply And.intro | refine zK (hce) ?_ | refine zH c1 ?_ | with_reducible exact zB0 | with_reducible refine zB fun hb => ?_ | exact zC | refine zT ?_ | fail))
  all_goals first | rfl | skip
theorem expr_mat (a : EI) (x : ET) (r : List ET) (ix : CE x) (ox : okT x) (ir : ∀ t ∈ r, CE t) (or : ∀ t ∈ r, okT t) (hpl : a.pats.length = r.length) (hpm : ∀ q ∈ a.pats, patM q.nodes = true) (env : List ByteArray) (s0 : CS) (hb : Bd (.mk a (x :: r)) env s0) (hs : stopB true s0 = false) (k : a.kind = 13) :
    FCon Tryz.prog 48 [.opt (cmpD s0 env), exE (.mk a (x :: r))] (fun r' o => r' = .tup [] ∧ o = [.opt (cmpD (cmp true (.mk a (x :: r)) env s0) env), .un]) := by
  obtain ⟨hl, h3⟩ := stop_f hs
  have hrl := sizeL_len r
  have hb1 := hb.1
  rw [size_mk, sizeL_cons] at hb1
  have hce := c_ending a (x :: r) (by omega) (by rw [List.length_cons]; omega)
  have hee : ∀ n, (endI a n).enc = [.s (.int .i64 0), .s (.int .i64 0), .s (.int .i64 0), .s (.string eS)] := fun n => by unfold endI; simp [k, MIns.enc]
  rw [cmp_mat hs k]
  have c1 := c_match a x r ix ox ir or hpl hpm env s0 hb
  obtain ⟨s1, h1⟩ : ∃ q, q = matC (cmp true x) (a.pats.zip (r.map (cmp true))) env s0 := ⟨_, rfl⟩
  rw [← h1] at c1 ⊢
  clear h1
  obtain ⟨gx, rx⟩ := x
  simp only [exE_mk, List.map_cons, exS_mk] at hce c1 ⊢
  rw [k] at hce c1
  simp only [cmpD_eq s0 env, hl] at c1
  refine FCon.intro PM _ Tryz.func48 (by kernel_rfl) rfl _ Tryz.ntmps48 rfl [(14, 12, [], [], (lin [] [0, 1, 2, 3, 4, 5, 6, 7, 8, 9, 10, 11])), (16, 26, [], [], (lin [] [0, 1, 2, 3, 4, 5, 6, 7, 8, 9, 10, 11, 12, 13, 14, 15, 16, 17, 18, 19, 20, 21, 22, 23, 24, 25])), (17, 12, [], [], (lin [] [0, 1, 2, 3, 4, 5, 6, 7, 8, 9, 10, 11])), (26, 12, [], [], (lin [] [0, 1, 2, 3, 4, 5, 6, 7, 8, 9, 10, 11])), (42, 12, [], [], (lin [] [0, 1, 2, 3, 4, 5, 6, 7, 8, 9, 10, 11]))] (by decide +kernel) (by simp) (by simp) rfl (by first | rfl | simp only [go_sem]) ?_
  (have hWf := WFx.mk (ai @cmpD_eq <| ai @hl <| ai @hee <| @k); repeat' (first | refine zS ?_ | exact zE | with_reducible apply And.intro | refine zK (hce) ?_ | refine zH c1 ?_ | with_reducible exact zB0 | with_reducible refine zB fun hb => ?_ | exact zC | refine zT ?_ | fail))
  all_goals first | rfl | skip
theorem c_expr : ∀ t : ET, okT t → CE t := fun t => by
  induction t using Arb.indS with
  | h t ih =>
    intro ok env s hb
    obtain ⟨a, l⟩ := t
    cases hs : stopB true s with
    | true => exact expr_stop a l env s hs
    | false =>
      have ok1 := ok.kid
      have ihk : ∀ t ∈ l, CE t := fun t ht => ih t (size_lt ht) (ok1 t ht)
      obtain ⟨v, at0, n0, p0, pm⟩ := ok.root
      cases v with
      | int k e => exact expr_end a l ok ihk env s hb hs (by rw [k]; rfl)
      | str k e => exact expr_end a l ok ihk env s hb hs (by rw [k]; rfl)
      | con0 k e => exact expr_end a l ok ihk env s hb hs (by rw [k]; rfl)
      | cons b x y k e => exact expr_end a l ok ihk env s hb hs (by rw [k]; rfl)
      | con1 x k e => exact expr_end a l ok ihk env s hb hs (by rw [k]; rfl)
      | app x y k e => exact expr_end a l ok ihk env s hb hs (by rw [k]; rfl)
      | prim x y k e => exact expr_end a l ok ihk env s hb hs (by rw [k]; rfl)
      | pair x y k e => exact expr_end a l ok ihk env s hb hs (by rw [k]; rfl)
      | unit k e => exact expr_end a l ok ihk env s hb hs (by rw [k]; rfl)
      | raise x k e => exact expr_end a l ok ihk env s hb hs (by rw [k]; rfl)
      | ref x k e => exact expr_end a l ok ihk env s hb hs (by rw [k]; rfl)
      | get x k e => exact expr_end a l ok ihk env s hb hs (by rw [k]; rfl)
      | set x y k e => exact expr_end a l ok ihk env s hb hs (by rw [k]; rfl)
      | var k e => subst e; exact expr_var a env s hb hs k
      | func x k e => subst e; exact expr_func a x (ihk x (by simp)) (ok1 x (by simp)) env s hb hs k
      | rec_ b x y k e =>
        subst e
        have okx := (ok1 (.mk b [x]) (by simp)).kid x (by simp)
        exact expr_rec_ a b x y (ih x (size_lt2 (r := [x]) (by simp) (List.mem_cons_self ..)) okx) okx (ihk y (by simp)) (ok1 y (by simp)) env s hb hs k
      | seq x y k e => subst e; exact expr_seq a x y (ihk x (by simp)) (ok1 x (by simp)) (ihk y (by simp)) (ok1 y (by simp)) env s hb hs k
      | let_ x y k e => subst e; exact expr_let_ a x y (ihk x (by simp)) (ok1 x (by simp)) (ihk y (by simp)) (ok1 y (by simp)) env s hb hs k
      | if_ x y z k e => subst e; exact expr_if_ a x y z (ihk x (by simp)) (ok1 x (by simp)) (ihk y (by simp)) (ok1 y (by simp)) (ihk z (by simp)) (ok1 z (by simp)) env s hb hs k
      | try_ x y k e => subst e; exact expr_try_ a x y (ihk x (by simp)) (ok1 x (by simp)) (ihk y (by simp)) (ok1 y (by simp)) env s hb hs k
      | mat x r k e hpl => subst e; exact expr_mat a x r (ihk x (by simp)) (ok1 x (by simp)) (fun t ht => ihk t (by simp [ht])) (fun t ht => ok1 t (by simp [ht])) hpl pm env s hb hs k
end Go.Proofs.YtahdaknaoogpkaaGreat

namespace Go.Proofs.YtahdaknaoogpkaaGreat
set_option linter.unusedVariables false
set_option linter.unusedSimpArgs false
open Go.RowKit Arb
theorem expr_pos {chk : Bool} {t : ET} (ok : okT t) : Gr (4 * t.size - 3) (2 * t.size - 1) (cmp chk t) := cmp_gr chk t ok
def codeI (chk : Bool) (t : ET) : CS := (cmp chk t [] ⟨[], [], false⟩).emit ⟨11, 0, 0, eS⟩
def ansC (s : CS) : D := if s.lost = true then .tup [.ag [.osl 53 4 [], .osl 114 1 []], .s (.bool false)] else .tup [.ag [.osl 53 4 (s.ins.map MIns.enc), .osl 114 1 (s.pats.map MPat.own)], .s (.bool true)]
theorem frA_ex (t : ET) : frA (exO t) = exE t := by
  obtain ⟨a, l⟩ := t
  rw [← ex_frz, exO_mk]; rfl
theorem FCon.tagN {P : Program} {f : FuncId} {args : List D} {e k e' k' : Nat} {c : D} (h : FCon P f args (fun r _ => r = .tup [.ag [.nil, .nil], c])) : FCon P f args (fun r _ => r = .tup [.ag [.osl e k [], .osl e' k' []], c]) := h.wk fun r o q => by
  subst q
  refine ⟨_, rfl, fun g w v hv => RNs_tupN (xs := [.ag [.nil, .nil], c]) (xs' := [.ag [.osl e k [], .osl e' k' []], c]) rfl (fun m x x' hx hx' u hu => ?_) hv⟩
  match m, hx, hx' with
  | 0, hx, hx' =>
    have hx : D.ag [.nil, .nil] = x := Option.some.inj hx
    have hx' : D.ag [.osl e k [], .osl e' k' []] = x' := Option.some.inj hx'
    subst hx hx'
    refine RN_agN (ys := [.nil, .nil]) (ys' := [.osl e k [], .osl e' k' []]) rfl (fun i d d' hd hd' => ?_) hu
    match i, hd, hd' with
    | 0, hd, hd' => exact .inr ⟨by simpa using hd.symm, .inl ⟨_, _, by simpa using hd'.symm⟩⟩
    | 1, hd, hd' => exact .inr ⟨by simpa using hd.symm, .inl ⟨_, _, by simpa using hd'.symm⟩⟩
    | i + 2, hd, hd' => simp at hd
  | 1, hx, hx' =>
    have hx : c = x := Option.some.inj hx
    have hx' : c = x' := Option.some.inj hx'
    subst hx hx'; exact hu
  | m + 2, hx, hx' => simp at hx
theorem c_implCompile_bad (p : MProgram) (ho : p.ok) (hs : p.sm) (hp : progM p = false) : FCon Tryz.prog 17 [.ag p.enc] (fun r _ => r = .tup [.ag [.osl 53 4 [], .osl 114 1 []], .s (.bool false)]) := by
  refine FCon.tagN ?_
  have hc := c_implProgramOk p ho hs
  rw [hp, MProgram.enc_eq] at hc
  rw [MProgram.enc_eq]
  refine FCon.intro PM _ Tryz.func17 (by kernel_rfl) rfl _ Tryz.ntmps17 rfl [] (by decide +kernel) (by simp) (by simp) rfl (by first | rfl | simp only [go_sem]) ?_
  (have hWf := f0; repeat' (first | refine zS ?_ | exact zE | with_reducible apply And.intro | refine zK (hc) ?_ | with_reducible exact zB0 | with_reducible refine zB fun hb => ?_ | exact zC | refine zT ?_ | fail))
theorem pats_okB : ∀ t : ET, okT t → t.size ≤ 1000000 → All (fun a _ => patsB a.pats) t := fun t => by
  induction t using Arb.ind with
  | h a l ih =>
    intro ok hz
    refine .mk ⟨?_, fun q hq => ?_⟩ fun t ht => ih t ht (ok.kid t ht) (by have := size_lt (a := a) ht; omega)
    · have hsl := sizeL_len l
      rw [size_mk] at hz
      rcases ok.root.p0 with k | k
      · cases ok.root.v with
        | mat x r _ e hpl => subst e; rw [hpl]; rw [List.length_cons] at hsl; omega
        | _ => omega
      · rw [k]; exact Nat.zero_le _
    · have := patM_len (ok.root.pm q hq)
      exact ⟨by omega, fun x hx => by have := patM_kids (ok.root.pm q hq) x hx; omega⟩
theorem c_implCompile_ok (p : MProgram) (ho : p.ok) (hs : p.sm) (hp : progM p = true) (t : ET) (ht : p.nodes = Arb.lay EI.node 0 t) (ok : okT t) (hz : t.size ≤ 600) : FCon Tryz.prog 17 [.ag p.enc] (fun r _ => r = ansC (codeI true t)) := by
  have hc := c_implProgramOk p ho hs
  rw [hp, MProgram.enc_eq] at hc
  have hA := At.zero (f := EI.node) t
  rw [← ht] at hA
  have hg := c_grow p.nodes (by have := congrArg List.length ht; rw [Arb.lay_len] at this; omega) t 0 hA (pats_okB t ok (by omega))
  have hg : FCon Tryz.prog 45 [.sl 6 (p.nodes.map MNode.enc), .s (.int .i64 (0 : Nat))] (fun r _ => r = exE t) := FCon.ice (hg.mono fun r _ e => by subst e; exact frA_ex t)
  have gr := cmp_gr true t ok
  have g1 := gr.hi [] ⟨[], [], false⟩
  have he := c_expr t ok [] ⟨[], [], false⟩ ⟨by show 0 + _ ≤ _; omega, by show 0 + _ ≤ _; omega, by show 0 + _ ≤ _; omega⟩
  have he := he.arg [.opt [.nil, .nil, .nil, .s (.bool false)], exE t] rfl fun j d' d h1 h2 g w u hu => by
    match j, h1, h2 with
    | 0, h1, h2 =>
      rw [← Option.some.inj h2]; rw [← Option.some.inj h1] at hu
      refine RA_optN (row := [.nil, .nil, .nil, .s (.bool false)]) (row' := [.osl 53 4 [], .osl 114 1 [], .osl 9 1 [], .s (.bool false)]) rfl (fun i d d' hd hd' => ?_) hu
      match i, hd, hd' with
      | 0, hd, hd' => exact .inr ⟨by simpa using hd.symm, .inl ⟨_, _, by simpa using hd'.symm⟩⟩
      | 1, hd, hd' => exact .inr ⟨by simpa using hd.symm, .inl ⟨_, _, by simpa using hd'.symm⟩⟩
      | 2, hd, hd' => exact .inr ⟨by simpa using hd.symm, .inl ⟨_, _, by simpa using hd'.symm⟩⟩
      | 3, hd, hd' => exact .inl (by rw [← Option.some.inj hd, ← Option.some.inj hd'])
      | i + 4, hd, hd' => simp at hd
    | 1, h1, h2 => rw [← Option.some.inj h2, Option.some.inj h1]; exact hu
    | j + 2, h1, h2 => simp at h1
  obtain ⟨S, hS⟩ : ∃ S, S = cmp true t [] ⟨[], [], false⟩ := ⟨_, rfl⟩
  rw [← hS] at he g1
  have g1 : S.ins.length ≤ 0 + (4 * t.size - 3) := g1
  have e2 := c_emit S [] ⟨11, 0, 0, eS⟩ (by omega)
  unfold codeI
  rw [← hS]
  obtain ⟨S2, hS2⟩ : ∃ q, q = S.emit ⟨11, 0, 0, eS⟩ := ⟨_, rfl⟩
  have p2 : S2.ins.length = S.ins.length + 1 := by rw [hS2, emit_len]
  rw [← hS2] at e2 ⊢
  clear hS hS2
  obtain ⟨a, l⟩ := t
  simp only [exE_mk, ex_frz, frA] at he hg
  rw [MProgram.enc_eq]
  unfold ansC
  cases hl : S2.lost with
  | true =>
    rw [if_pos rfl]
    refine FCon.tagN ?_
    refine FCon.intro PM _ Tryz.func17 (by kernel_rfl) rfl _ Tryz.ntmps17 rfl [] (by decide +kernel) (by simp) (by simp) rfl (by first | rfl | simp only [go_sem]) ?_
    (have hWf := WFx.mk (ai @cmpD_eq <| @hl); repeat' (first | refine zS ?_ | exact zE | with_reducible apply And.intro | refine zK (hc) ?_ | refine zK (hg) ?_ | refine zH he ?_ | refine zH e2 ?_ | with_reducible exact zB0 | with_reducible refine zB fun hb => ?_ | exact zC | refine zT ?_ | fail))
  | false =>
    rw [if_neg (by simp)]
    refine FCon.intro PM _ Tryz.func17 (by kernel_rfl) rfl _ Tryz.ntmps17 rfl [] (by decide +kernel) (by simp) (by simp) rfl (by first | rfl | simp only [go_sem]) ?_
    (have hWf := WFx.mk (ai @cmpD_eq <| @hl); repeat' (first | refine zS ?_ | exact zE | with_reducible apply And.intro | refine zK (hc) ?_ | refine zK (hg) ?_ | refine zH he ?_ | refine zH e2 ?_ | with_reducible exact zB0 | with_reducible refine zB fun hb => ?_ | exact zC | refine zT ?_ | fail))
end Go.Proofs.YtahdaknaoogpkaaGreat
