import Derived.Test.YtgcdbmcoendcdaaGreatPgB
import Derived.Test.YtgcdbmcoendcdaaGreatNmB
import Derived.Test.YtgcdbmcoendcdaaGreatPaB
/- How many kids a kind has, both sides; types; over the second engine. -/
set_option maxRecDepth 100000
set_option maxHeartbeats 4000000
namespace Go.Proofs.YtgcdbmcoendcdaaGreat
set_option linter.unusedVariables false
set_option linter.unusedSimpArgs false
open Go.RowKit
theorem arI_out {k : Int} (h : k < 1 ∨ 19 < k) : arI k = -1 := by
  unfold arI
  split
  · omega
  split
  · omega
  split
  · omega
  split
  · omega
  rfl
theorem c_arity (k : Int) : FCon Tryz.prog 177 [.s (.int .i64 k)] (fun r _ => r = .s (.int .i64 (arI k))) := by
  by_cases hkd : k < 1 ∨ 19 < k
  · rw [arI_out hkd]
    have e1 : (k == 1) = false := by simp only [beq_eq_false_iff_ne, ne_eq]; omega
    have e2 : (k == 2) = false := by simp only [beq_eq_false_iff_ne, ne_eq]; omega
    have e3 : (k == 3) = false := by simp only [beq_eq_false_iff_ne, ne_eq]; omega
    have e4 : (k == 4) = false := by simp only [beq_eq_false_iff_ne, ne_eq]; omega
    have e5 : (k == 5) = false := by simp only [beq_eq_false_iff_ne, ne_eq]; omega
    have e6 : (k == 6) = false := by simp only [beq_eq_false_iff_ne, ne_eq]; omega
    have e7 : (k == 7) = false := by simp only [beq_eq_false_iff_ne, ne_eq]; omega
    have e8 : (k == 8) = false := by simp only [beq_eq_false_iff_ne, ne_eq]; omega
    have e9 : (k == 9) = false := by simp only [beq_eq_false_iff_ne, ne_eq]; omega
    have e10 : (k == 10) = false := by simp only [beq_eq_false_iff_ne, ne_eq]; omega
    have e11 : (k == 11) = false := by simp only [beq_eq_false_iff_ne, ne_eq]; omega
    have e12 : (k == 12) = false := by simp only [beq_eq_false_iff_ne, ne_eq]; omega
    have e13 : (k == 13) = false := by simp only [beq_eq_false_iff_ne, ne_eq]; omega
    have e14 : (k == 14) = false := by simp only [beq_eq_false_iff_ne, ne_eq]; omega
    have e15 : (k == 15) = false := by simp only [beq_eq_false_iff_ne, ne_eq]; omega
    have e16 : (k == 16) = false := by simp only [beq_eq_false_iff_ne, ne_eq]; omega
    have e17 : (k == 17) = false := by simp only [beq_eq_false_iff_ne, ne_eq]; omega
    have e18 : (k == 18) = false := by simp only [beq_eq_false_iff_ne, ne_eq]; omega
    have e19 : (k == 19) = false := by simp only [beq_eq_false_iff_ne, ne_eq]; omega
    clear hkd
    refine FCon.intro PM _ Tryz.func177 (by kernel_rfl) rfl _ Tryz.ntmps177 rfl [] (by decide +kernel) (by simp) (by simp) rfl (by first | rfl | simp only [go_sem]) ?_
    (have hWf := WFx.mk (ai @e1 <| ai @e2 <| ai @e3 <| ai @e4 <| ai @e5 <| ai @e6 <| ai @e7 <| ai @e8 <| ai @e9 <| ai @e10 <| ai @e11 <| ai @e12 <| ai @e13 <| ai @e14 <| ai @e15 <| ai @e16 <| ai @e17 <| ai @e18 <| @e19); repeat' (first | refine zS ?_ | exact zE | with_reducible apply And.intro | with_reducible exact zB0 | with_reducible refine zB fun hb => ?_ | exact zC | refine zT ?_ | fail))
  · rcases (show k = 1 ∨ k = 2 ∨ k = 3 ∨ k = 4 ∨ k = 5 ∨ k = 6 ∨ k = 7 ∨ k = 8 ∨ k = 9 ∨ k = 10 ∨ k = 11 ∨ k = 12 ∨ k = 13 ∨ k = 14 ∨ k = 15 ∨ k = 16 ∨ k = 17 ∨ k = 18 ∨ k = 19 by omega) with rfl | rfl | rfl | rfl | rfl | rfl | rfl | rfl | rfl | rfl | rfl | rfl | rfl | rfl | rfl | rfl | rfl | rfl | rfl
    all_goals
      clear hkd
      refine FCon.intro PM _ Tryz.func177 (by kernel_rfl) rfl _ Tryz.ntmps177 rfl [] (by decide +kernel) (by simp) (by simp) rfl (by first | rfl | simp only [go_sem]) ?_
      (have hWf := f0; repeat' (first | refine zS ?_ | exact zE | with_reducible apply And.intro | with_reducible exact zB0 | with_reducible refine zB fun hb => ?_ | exact zC | refine zT ?_ | fail))
      all_goals (try rfl)
theorem c_l04Kids (k : Int) : FCon Tryz.prog 115 [.s (.int .i64 k)] (fun r _ => r = .s (.int .i64 (arI k))) := by
  by_cases hkd : k < 1 ∨ 19 < k
  · rw [arI_out hkd]
    have e1 : (k == 1) = false := by simp only [beq_eq_false_iff_ne, ne_eq]; omega
    have e2 : (k == 2) = false := by simp only [beq_eq_false_iff_ne, ne_eq]; omega
    have e3 : (k == 3) = false := by simp only [beq_eq_false_iff_ne, ne_eq]; omega
    have e4 : (k == 4) = false := by simp only [beq_eq_false_iff_ne, ne_eq]; omega
    have e5 : (k == 5) = false := by simp only [beq_eq_false_iff_ne, ne_eq]; omega
    have e6 : (k == 6) = false := by simp only [beq_eq_false_iff_ne, ne_eq]; omega
    have e7 : (k == 7) = false := by simp only [beq_eq_false_iff_ne, ne_eq]; omega
    have e8 : (k == 8) = false := by simp only [beq_eq_false_iff_ne, ne_eq]; omega
    have e9 : (k == 9) = false := by simp only [beq_eq_false_iff_ne, ne_eq]; omega
    have e10 : (k == 10) = false := by simp only [beq_eq_false_iff_ne, ne_eq]; omega
    have e11 : (k == 11) = false := by simp only [beq_eq_false_iff_ne, ne_eq]; omega
    have e12 : (k == 12) = false := by simp only [beq_eq_false_iff_ne, ne_eq]; omega
    have e13 : (k == 13) = false := by simp only [beq_eq_false_iff_ne, ne_eq]; omega
    have e14 : (k == 14) = false := by simp only [beq_eq_false_iff_ne, ne_eq]; omega
    have e15 : (k == 15) = false := by simp only [beq_eq_false_iff_ne, ne_eq]; omega
    have e16 : (k == 16) = false := by simp only [beq_eq_false_iff_ne, ne_eq]; omega
    have e17 : (k == 17) = false := by simp only [beq_eq_false_iff_ne, ne_eq]; omega
    have e18 : (k == 18) = false := by simp only [beq_eq_false_iff_ne, ne_eq]; omega
    have e19 : (k == 19) = false := by simp only [beq_eq_false_iff_ne, ne_eq]; omega
    clear hkd
    refine FCon.intro PM _ Tryz.func115 (by kernel_rfl) rfl _ Tryz.ntmps115 rfl [] (by decide +kernel) (by simp) (by simp) rfl (by first | rfl | simp only [go_sem]) ?_
    (have hWf := WFx.mk (ai @e1 <| ai @e2 <| ai @e3 <| ai @e4 <| ai @e5 <| ai @e6 <| ai @e7 <| ai @e8 <| ai @e9 <| ai @e10 <| ai @e11 <| ai @e12 <| ai @e13 <| ai @e14 <| ai @e15 <| ai @e16 <| ai @e17 <| ai @e18 <| @e19); repeat' (first | refine zS ?_ | exact zE | with_reducible apply And.intro | with_reducible exact zB0 | with_reducible refine zB fun hb => ?_ | exact zC | refine zT ?_ | fail))
  · rcases (show k = 1 ∨ k = 2 ∨ k = 3 ∨ k = 4 ∨ k = 5 ∨ k = 6 ∨ k = 7 ∨ k = 8 ∨ k = 9 ∨ k = 10 ∨ k = 11 ∨ k = 12 ∨ k = 13 ∨ k = 14 ∨ k = 15 ∨ k = 16 ∨ k = 17 ∨ k = 18 ∨ k = 19 by omega) with rfl | rfl | rfl | rfl | rfl | rfl | rfl | rfl | rfl | rfl | rfl | rfl | rfl | rfl | rfl | rfl | rfl | rfl | rfl
    all_goals
      clear hkd
      refine FCon.intro PM _ Tryz.func115 (by kernel_rfl) rfl _ Tryz.ntmps115 rfl [] (by decide +kernel) (by simp) (by simp) rfl (by first | rfl | simp only [go_sem]) ?_
      (have hWf := f0; repeat' (first | refine zS ?_ | exact zE | with_reducible apply And.intro | with_reducible exact zB0 | with_reducible refine zB fun hb => ?_ | exact zC | refine zT ?_ | fail))
      all_goals (try rfl)
def itB (params : Int) (x : TyI) : Bool := x.name.toList.isEmpty && decide (params ≤ x.v)
theorem con_bad1 {params : Int} {c : MCon} (h : conM c.name.data.toList = false) : conOkM params c = false := by unfold conOkM; rw [h]; rfl
theorem con_bad2 {params : Int} {c : MCon} (h : c.has = false) (h2 : 0 < c.arg.length) : conOkM params c = false := by
  unfold conOkM
  rw [h, decide_eq_false (by omega : ¬ c.arg.length = 0)]; simp
theorem con_bad3 {params : Int} {c : MCon} (h : c.has = true) (h2 : tyOkM c.arg = false) : conOkM params c = false := by
  unfold conOkM
  rw [h, h2]; simp
theorem con_ok1 {params : Int} {c : MCon} (h1 : conM c.name.data.toList = true) (h : c.has = false) (h2 : c.arg.length = 0) : conOkM params c = c.arg.all fun x => !itB params x := by
  unfold conOkM
  have : c.arg = [] := List.eq_nil_of_length_eq_zero h2
  rw [h1, h, this]; rfl
theorem con_ok2 {params : Int} {c : MCon} (h1 : conM c.name.data.toList = true) (h : c.has = true) (h2 : tyOkM c.arg = true) : conOkM params c = c.arg.all fun x => !itB params x := by
  unfold conOkM itB
  rw [h1, h, h2]; simp
theorem typeM_bad {t : MType} (h : (nameM t.name = false ∨ t.params < 0 ∨ 2 < t.params) ∨ (t.cons.length : Int) < 1 ∨ 8 < (t.cons.length : Int)) : typeM t = false := by
  unfold typeM
  rcases h with (h | h | h) | h | h
  · rw [h]; rfl
  · rw [decide_eq_false (by omega : ¬ 0 ≤ t.params)]; simp
  · rw [decide_eq_false (by omega : ¬ t.params ≤ 2)]; simp
  · rw [decide_eq_false (by omega : ¬ 1 ≤ t.cons.length)]; simp
  · rw [decide_eq_false (by omega : ¬ t.cons.length ≤ 8)]; simp
theorem typeM_ok {t : MType} (h : (nameM t.name = true ∧ 0 ≤ t.params ∧ t.params ≤ 2) ∧ 1 ≤ (t.cons.length : Int) ∧ (t.cons.length : Int) ≤ 8) : typeM t = t.cons.all (conOkM t.params) := by
  unfold typeM
  obtain ⟨⟨h1, h2, h3⟩, h4, h5⟩ := h
  rw [h1, decide_eq_true h2, decide_eq_true h3, decide_eq_true (by omega : 1 ≤ t.cons.length), decide_eq_true (by omega : t.cons.length ≤ 8)]
  rfl
theorem itB_t {p : Int} {x : TyI} (h : x.name.toList.isEmpty = true ∧ p ≤ x.v) : (!itB p x) = false := by unfold itB; rw [h.1, decide_eq_true h.2]; rfl
theorem itB_f {p : Int} {x : TyI} (h : x.name.toList.isEmpty = false ∨ x.v < p) : (!itB p x) = true := by
  unfold itB
  rcases h with h | h
  · rw [h]; rfl
  · rw [decide_eq_false (by omega : ¬ p ≤ x.v)]; simp
theorem c_typeOk (t : MType) (ho : t.ok) (hs : t.sm) : FCon Tryz.prog 100 [.ag t.enc] (fun r _ => r = .s (.bool (typeM t))) := by
  obtain ⟨o1, o2, o3⟩ := ho
  obtain ⟨s1, s2, s3⟩ := hs
  refine FCon.intro PM _ Tryz.func100 (by kernel_rfl) rfl _ Tryz.ntmps100 rfl [] (by decide +kernel) (by simp) (by simp) rfl (by first | rfl | simp only [go_sem]) ?_
  (have hWf := WFx.mk @MType.enc_eq; repeat' (first | refine zS ?_ | exact zE | with_reducible apply And.intro | refine zK (c_implNameOk t.name o1) ?_ | refine zK (c_within t.params 0 2) ?_ | refine zK (c_within t.cons.length 1 8) ?_ | with_reducible exact zB0 | with_reducible refine zB fun hb => ?_ | exact zC | refine zT ?_ | fail))
  · rw [typeM_bad hb]
  · rw [typeM_ok hb]
    refine AC_loop (fun n σ => ∃ k : Nat, k ≤ t.cons.length ∧ n = t.cons.length - k ∧ σ.t 1 = .bx 1 0 ∧ σ.b 1 = some (.box [.s (.string t.name), .s (.int .i64 t.params), .sl 3 (t.cons.map MCon.enc)]) ∧ σ.t 25 = .sl 3 (t.cons.map MCon.enc) ∧ σ.t 26 = .s (.int .i64 t.cons.length) ∧ σ.t 27 = .s (.int .i64 k) ∧ ∀ c ∈ t.cons.take k, conOkM t.params c = true) t.cons.length ⟨0, by omega, by omega, ?_⟩ ?_
    · simp only [go_sem, simprocAttr, Int.natCast_zero]
      all_goals simp
    · rintro n σ ⟨k, hk, rfl, h1, hb1, h25, h26, h27, hno⟩ K' hK
      by_cases hlt : k < t.cons.length
      · have hx := getD_map MCon.enc t.cons k hlt
        have he := MCon.enc_eq t.cons[k]
        have hok := o3 _ (List.getElem_mem hlt)
        have hsm := s3 _ (List.getElem_mem hlt)
        have hal : t.cons[k].arg.length ≤ 1048576 := hsm.2.1
        cases hcn : conM t.cons[k].name.data.toList with
        | false =>
          (have hWf := WFx.mk (ai @h1 <| ai @hb1 <| ai @h25 <| ai @h26 <| ai @h27 <| ai @hx <| ai @he <| @hcn); repeat' (first | refine zS ?_ | exact zE | with_reducible apply And.intro | refine zK (c_implConOk t.cons[k].name hok.1) ?_ | ((with_reducible apply q_CallG); refine zG (c_implTyOk t.cons[k].arg hok.2.2 (by omega)) ?_) | ((with_reducible apply q_CallQ); refine CallQ_mk (c_implTyOk t.cons[k].arg hok.2.2 (by omega)) ?_) | with_reducible exact zB0 | with_reducible refine zB fun hb => ?_ | exact zC | refine zT ?_ | fail))
          all_goals exact sB (all_bad hlt (con_bad1 hcn)).symm
        | true =>
          cases hh : t.cons[k].has with
          | false =>
            by_cases hz : t.cons[k].arg.length = 0
            · have hz' : decide ((t.cons[k].arg.length : Int) > 0) = false := decide_eq_false (by omega)
              have hco := con_ok1 (params := t.params) hcn hh hz
              (have hWf := WFx.mk (ai @h1 <| ai @hb1 <| ai @h25 <| ai @h26 <| ai @h27 <| ai @hx <| ai @he <| ai @hcn <| ai @hh <| @hz'); repeat' (first | refine zS ?_ | exact zE | with_reducible apply And.intro | refine zK (c_implConOk t.cons[k].name hok.1) ?_ | ((with_reducible apply q_CallG); refine zG (c_implTyOk t.cons[k].arg hok.2.2 (by omega)) ?_) | ((with_reducible apply q_CallQ); refine CallQ_mk (c_implTyOk t.cons[k].arg hok.2.2 (by omega)) ?_) | with_reducible exact zB0 | with_reducible refine zB fun hb => ?_ | exact zC | refine zT ?_ | fail))
              refine AC_loop (fun n σ => ∃ j : Nat, j ≤ t.cons[k].arg.length ∧ n = t.cons[k].arg.length - j ∧ σ.t 1 = .bx 1 0 ∧ σ.b 1 = some (.box [.s (.string t.name), .s (.int .i64 t.params), .sl 3 (t.cons.map MCon.enc)]) ∧ σ.t 25 = .sl 3 (t.cons.map MCon.enc) ∧ σ.t 26 = .s (.int .i64 t.cons.length) ∧ σ.t 27 = .s (.int .i64 k) ∧
                σ.t 59 = .sl 3 (t.cons[k].arg.map TyI.enc) ∧ σ.t 60 = .s (.int .i64 t.cons[k].arg.length) ∧ σ.t 61 = .s (.int .i64 j) ∧ ∀ x ∈ t.cons[k].arg.take j, (!itB t.params x) = true) t.cons[k].arg.length ⟨0, by omega, by omega, ?_⟩ ?_
              · simp only [go_sem, simprocAttr, h1, hb1, h25, h26, h27, Int.natCast_zero]
                all_goals simp
              · rintro n σ ⟨j, hj, rfl, g1, gb1, g25, g26, g27, g59, g60, g61, hno2⟩ K'' hK''
                by_cases hlj : j < t.cons[k].arg.length
                · exact absurd hlj (by omega)
                · obtain rfl : j = t.cons[k].arg.length := by omega
                  (have hWf := WFx.mk (ai @g1 <| ai @gb1 <| ai @g25 <| ai @g26 <| ai @g27 <| ai @g59 <| ai @g60 <| @g61); repeat' (first | refine zS ?_ | exact zE | with_reducible apply And.intro | with_reducible exact zB0 | with_reducible refine zB fun hb => ?_ | exact zC | refine zT ?_ | fail))
                  refine hK (t.cons.length - (k + 1)) _ (by omega) ⟨k + 1, by omega, rfl, ?_⟩
                  simp only [go_sem, simprocAttr, g1, gb1, g25, g26, g27, Int.natCast_succ]
                  exact take_more hlt hno (by rw [hco]; exact all_good hno2)
            · have hz' : decide ((t.cons[k].arg.length : Int) > 0) = true := decide_eq_true (by omega)
              (have hWf := WFx.mk (ai @h1 <| ai @hb1 <| ai @h25 <| ai @h26 <| ai @h27 <| ai @hx <| ai @he <| ai @hcn <| ai @hh <| @hz'); repeat' (first | refine zS ?_ | exact zE | with_reducible apply And.intro | refine zK (c_implConOk t.cons[k].name hok.1) ?_ | ((with_reducible apply q_CallG); refine zG (c_implTyOk t.cons[k].arg hok.2.2 (by omega)) ?_) | ((with_reducible apply q_CallQ); refine CallQ_mk (c_implTyOk t.cons[k].arg hok.2.2 (by omega)) ?_) | with_reducible exact zB0 | with_reducible refine zB fun hb => ?_ | exact zC | refine zT ?_ | fail))
              all_goals exact sB (all_bad hlt (con_bad2 hh (by omega))).symm
          | true =>
            cases ht : tyOkM t.cons[k].arg with
            | false =>
              (have hWf := WFx.mk (ai @h1 <| ai @hb1 <| ai @h25 <| ai @h26 <| ai @h27 <| ai @hx <| ai @he <| ai @hcn <| ai @hh <| @ht); repeat' (first | refine zS ?_ | exact zE | with_reducible apply And.intro | refine zK (c_implConOk t.cons[k].name hok.1) ?_ | ((with_reducible apply q_CallG); refine zG (c_implTyOk t.cons[k].arg hok.2.2 (by omega)) ?_) | ((with_reducible apply q_CallQ); refine CallQ_mk (c_implTyOk t.cons[k].arg hok.2.2 (by omega)) ?_) | with_reducible exact zB0 | with_reducible refine zB fun hb => ?_ | exact zC | refine zT ?_ | fail))
              all_goals exact sB (all_bad hlt (con_bad3 hh ht)).symm
            | true =>
              have hco := con_ok2 (params := t.params) hcn hh ht
              (have hWf := WFx.mk (ai @h1 <| ai @hb1 <| ai @h25 <| ai @h26 <| ai @h27 <| ai @hx <| ai @he <| ai @hcn <| ai @hh <| @ht); repeat' (first | refine zS ?_ | exact zE | with_reducible apply And.intro | refine zK (c_implConOk t.cons[k].name hok.1) ?_ | ((with_reducible apply q_CallG); refine zG (c_implTyOk t.cons[k].arg hok.2.2 (by omega)) ?_) | ((with_reducible apply q_CallQ); refine CallQ_mk (c_implTyOk t.cons[k].arg hok.2.2 (by omega)) ?_) | with_reducible exact zB0 | with_reducible refine zB fun hb => ?_ | exact zC | refine zT ?_ | fail))
              refine AC_loop (fun n σ => ∃ j : Nat, j ≤ t.cons[k].arg.length ∧ n = t.cons[k].arg.length - j ∧ σ.t 1 = .bx 1 0 ∧ σ.b 1 = some (.box [.s (.string t.name), .s (.int .i64 t.params), .sl 3 (t.cons.map MCon.enc)]) ∧ σ.t 25 = .sl 3 (t.cons.map MCon.enc) ∧ σ.t 26 = .s (.int .i64 t.cons.length) ∧ σ.t 27 = .s (.int .i64 k) ∧
                σ.t 59 = .sl 3 (t.cons[k].arg.map TyI.enc) ∧ σ.t 60 = .s (.int .i64 t.cons[k].arg.length) ∧ σ.t 61 = .s (.int .i64 j) ∧ ∀ x ∈ t.cons[k].arg.take j, (!itB t.params x) = true) t.cons[k].arg.length ⟨0, by omega, by omega, ?_⟩ ?_
              · simp only [go_sem, simprocAttr, h1, hb1, h25, h26, h27, Int.natCast_zero]
                all_goals simp
              · rintro n σ ⟨j, hj, rfl, g1, gb1, g25, g26, g27, g59, g60, g61, hno2⟩ K'' hK''
                by_cases hlj : j < t.cons[k].arg.length
                · have gx := getD_map TyI.enc t.cons[k].arg j hlj
                  have ge := TyI.enc_eq t.cons[k].arg[j]
                  (have hWf := WFx.mk (ai @g1 <| ai @gb1 <| ai @g25 <| ai @g26 <| ai @g27 <| ai @g59 <| ai @g60 <| ai @g61 <| ai @gx <| @ge); repeat' (first | refine zS ?_ | exact zE | with_reducible apply And.intro | with_reducible exact zB0 | with_reducible refine zB fun hb => ?_ | exact zC | refine zT ?_ | fail))
                  · exact sB (all_bad hlt (by rw [hco]; exact all_bad hlj (itB_t hb))).symm
                  · refine hK'' (t.cons[k].arg.length - (j + 1)) _ (by omega) ⟨j + 1, by omega, rfl, ?_⟩
                    simp only [go_sem, simprocAttr, g1, gb1, g25, g26, g27, g59, g60, Int.natCast_succ]
                    exact take_more hlj hno2 (itB_f hb)
                · obtain rfl : j = t.cons[k].arg.length := by omega
                  (have hWf := WFx.mk (ai @g1 <| ai @gb1 <| ai @g25 <| ai @g26 <| ai @g27 <| ai @g59 <| ai @g60 <| @g61); repeat' (first | refine zS ?_ | exact zE | with_reducible apply And.intro | with_reducible exact zB0 | with_reducible refine zB fun hb => ?_ | exact zC | refine zT ?_ | fail))
                  refine hK (t.cons.length - (k + 1)) _ (by omega) ⟨k + 1, by omega, rfl, ?_⟩
                  simp only [go_sem, simprocAttr, g1, gb1, g25, g26, g27, Int.natCast_succ]
                  exact take_more hlt hno (by rw [hco]; exact all_good hno2)
      · obtain rfl : k = t.cons.length := by omega
        (have hWf := WFx.mk (ai @h1 <| ai @hb1 <| ai @h25 <| ai @h26 <| @h27); repeat' (first | refine zS ?_ | exact zE | with_reducible apply And.intro | with_reducible exact zB0 | with_reducible refine zB fun hb => ?_ | exact zC | refine zT ?_ | fail))
        rw [all_good hno]
theorem c_l04Con (c : MCon) (p : Int) (ho : c.ok) (hs : c.sm) : FCon Tryz.prog 48 [.ag c.enc, .s (.int .i64 p)] (fun r _ => r = .s (.bool (conOkM p c))) := by
  obtain ⟨o1, -, o3⟩ := ho
  have hl := hs.2.1
  cases hcn : conM c.name.data.toList with
  | false =>
    rw [con_bad1 hcn]
    refine FCon.intro PM _ Tryz.func48 (by kernel_rfl) rfl _ Tryz.ntmps48 rfl [] (by decide +kernel) (by simp) (by simp) rfl (by first | rfl | simp only [go_sem]) ?_
    (have hWf := WFx.mk (ai @MCon.enc_eq <| @hcn); repeat' (first | refine zS ?_ | exact zE | with_reducible apply And.intro | refine zK (c_specConOk c.name o1) ?_ | with_reducible exact zB0 | with_reducible refine zB fun hb => ?_ | exact zC | refine zT ?_ | fail))
  | true =>
    cases hh : c.has with
    | false =>
      have e : conOkM p c = decide (c.arg.length = 0) := by unfold conOkM; rw [hcn, hh]; simp
      rw [e]
      refine FCon.intro PM _ Tryz.func48 (by kernel_rfl) rfl _ Tryz.ntmps48 rfl [] (by decide +kernel) (by simp) (by simp) rfl (by first | rfl | simp only [go_sem]) ?_
      (have hWf := WFx.mk (ai @MCon.enc_eq <| ai @hcn <| @hh); repeat' (first | refine zS ?_ | exact zE | with_reducible apply And.intro | refine zK (c_specConOk c.name o1) ?_ | with_reducible exact zB0 | with_reducible refine zB fun hb => ?_ | exact zC | refine zT ?_ | fail))
      all_goals exact sB (by rw [Bool.eq_iff_iff]; simp)
    | true =>
      refine FCon.intro PM _ Tryz.func48 (by kernel_rfl) rfl _ Tryz.ntmps48 rfl [] (by decide +kernel) (by simp) (by simp) rfl (by first | rfl | simp only [go_sem]) ?_
      (have hWf := WFx.mk (ai @MCon.enc_eq <| ai @hcn <| @hh); repeat' (first | refine zS ?_ | exact zE | with_reducible apply And.intro | refine zK (c_specConOk c.name o1) ?_ | with_reducible exact zB0 | with_reducible refine zB fun hb => ?_ | exact zC | refine zT ?_ | fail))
      refine AC_loop (fun n σ => ∃ j : Nat, j ≤ c.arg.length ∧ n = c.arg.length - j ∧ σ.t 1 = .s (.int .i64 p) ∧ σ.t 2 = .bx 2 0 ∧ σ.b 2 = some (.box [.s (.string c.name), .s (.bool true), .sl 3 (c.arg.map TyI.enc)]) ∧
        σ.t 21 = .sl 3 (c.arg.map TyI.enc) ∧ σ.t 22 = .s (.int .i64 c.arg.length) ∧ σ.t 23 = .s (.int .i64 j) ∧ ∀ x ∈ c.arg.take j, (!itB p x) = true) c.arg.length ⟨0, by omega, by omega, ?_⟩ ?_
      · simp only [go_sem, simprocAttr, Int.natCast_zero, hh]
        all_goals simp
      · rintro n σ ⟨j, hj, rfl, g1, g2, gb2, g21, g22, g23, hno⟩ K' hK
        by_cases hlj : j < c.arg.length
        · have gx := getD_map TyI.enc c.arg j hlj
          have ge := TyI.enc_eq c.arg[j]
          (have hWf := WFx.mk (ai @g1 <| ai @g2 <| ai @gb2 <| ai @g21 <| ai @g22 <| ai @g23 <| ai @gx <| @ge); repeat' (first | refine zS ?_ | exact zE | with_reducible apply And.intro | with_reducible exact zB0 | with_reducible refine zB fun hb => ?_ | exact zC | refine zT ?_ | fail))
          · refine sB ?_
            have := all_bad (p := fun x : TyI => !itB p x) hlj (itB_t hb)
            unfold itB at this
            unfold conOkM
            rw [this, hh]; simp
          · refine hK (c.arg.length - (j + 1)) _ (by omega) ⟨j + 1, by omega, rfl, ?_⟩
            simp only [go_sem, simprocAttr, g1, g2, gb2, g21, g22, Int.natCast_succ]
            exact take_more hlj hno (itB_f hb)
        · obtain rfl : j = c.arg.length := by omega
          (have hWf := WFx.mk (ai @g1 <| ai @g2 <| ai @gb2 <| ai @g21 <| ai @g22 <| @g23); repeat' (first | refine zS ?_ | exact zE | with_reducible apply And.intro | ((with_reducible apply q_CallG); refine zG (c_specTyOk c.arg o3 (by omega)) ?_) | ((with_reducible apply q_CallQ); refine CallQ_mk (c_specTyOk c.arg o3 (by omega)) ?_) | with_reducible exact zB0 | with_reducible refine zB fun hb => ?_ | exact zC | refine zT ?_ | fail))
          refine sB ?_
          have := all_good (p := fun x : TyI => !itB p x) hno
          unfold itB at this
          unfold conOkM
          rw [this, hh, hcn]; simp
end Go.Proofs.YtgcdbmcoendcdaaGreat
