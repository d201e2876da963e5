import Derived.Test.YtgcdbmcoendcdaaGreatHProgD
import Derived.Test.YtgcdbmcoendcdaaGreatPgB
import Derived.Test.YtgcdbmcoendcdaaGreatNmB
import Derived.Test.YtgcdbmcoendcdaaGreatHProgS
/- ProgramOk: the program's text, over the second engine. -/
set_option maxRecDepth 100000
set_option maxHeartbeats 8000000
namespace Go.Proofs.YtgcdbmcoendcdaaGreat
set_option linter.unusedVariables false
set_option linter.unusedSimpArgs false
open Go.RowKit
theorem c_IndexFunc_Type (xs : List MType) (f : FuncId) (caps : List D) (hm : PM.md f = []) (p : MType → Bool) (hf : ∀ x ∈ xs, FCon Tryz.prog f (.ag x.enc :: caps) (fun r _ => r = .s (.bool (p x)))) :
    FCon Tryz.prog 178 [.sl 3 (xs.map MType.enc), .fn f caps] (fun r _ => r = .s (.int .i64 (fidx p xs))) := by
  refine FCon.intro PM _ Tryz.func178 (by kernel_rfl) rfl _ Tryz.ntmps178 rfl [] (by decide +kernel) (by simp) (by simp) rfl (by first | rfl | simp only [go_sem]) ?_
  refine AC_len 0 rfl trivial fun hlen => ?_
  simp only [List.length_map] at hlen
  (have hWf := f0; repeat' (first | refine zS ?_ | exact zE | with_reducible apply And.intro | with_reducible exact zB0 | with_reducible refine zB fun hb => ?_ | exact zC | refine zT ?_ | fail))
  refine AC_loop (fun n σ => ∃ k : Nat, k ≤ xs.length ∧ n = xs.length - k ∧ σ.t 0 = .sl 3 (xs.map MType.enc) ∧ σ.t 1 = .fn f caps ∧ σ.t 7 = .s (.int .i64 xs.length) ∧ σ.t 8 = .s (.int .i64 k) ∧ ∀ x ∈ xs.take k, p x = false) xs.length ⟨0, by omega, by omega, ?_⟩ ?_
  · simp only [go_sem, simprocAttr, Int.natCast_zero]
    all_goals simp
  · rintro n σ ⟨k, hk, rfl, h0, h1, h7, h8, hno⟩ K' hK
    by_cases hlt : k < xs.length
    · have hx := getD_map MType.enc xs k hlt
      have he := MType.enc_eq xs[k]
      have hc := hf xs[k] (List.getElem_mem hlt)
      rw [he] at hc
      cases hp : p xs[k] with
      | true =>
        rw [hp] at hc
        (have hWf := WFx.mk (ai @h0 <| ai @h1 <| ai @h7 <| ai @h8 <| ai @hx <| ai @he <| @hm); repeat' (first | refine zS ?_ | exact zE | with_reducible apply And.intro | refine zK (hc) ?_ | with_reducible exact zB0 | with_reducible refine zB fun hb => ?_ | exact zC | refine zT ?_ | fail))
        all_goals exact sI_congr (fidx_at p xs k hlt hno hp).symm
      | false =>
        rw [hp] at hc
        (have hWf := WFx.mk (ai @h0 <| ai @h1 <| ai @h7 <| ai @h8 <| ai @hx <| ai @he <| @hm); repeat' (first | refine zS ?_ | exact zE | with_reducible apply And.intro | refine zK (hc) ?_ | with_reducible exact zB0 | with_reducible refine zB fun hb => ?_ | exact zC | refine zT ?_ | fail))
        refine hK (xs.length - (k + 1)) _ (by omega) ⟨k + 1, by omega, rfl, ?_⟩
        simp only [go_sem, simprocAttr, h0, h1, h7, Int.natCast_succ]
        exact take_no hlt hno hp
    · obtain rfl : k = xs.length := by omega
      (have hWf := WFx.mk (ai @h0 <| ai @h1 <| ai @h7 <| @h8); repeat' (first | refine zS ?_ | exact zE | with_reducible apply And.intro | with_reducible exact zB0 | with_reducible refine zB fun hb => ?_ | exact zC | refine zT ?_ | fail))
      exact sI_congr (fidx_no p xs (by simpa using hno)).symm
theorem c_ContainsFunc_Type (xs : List MType) (f : FuncId) (caps : List D) (hm : PM.md f = []) (p : MType → Bool) (hf : ∀ x ∈ xs, FCon Tryz.prog f (.ag x.enc :: caps) (fun r _ => r = .s (.bool (p x)))) :
    FCon Tryz.prog 98 [.sl 3 (xs.map MType.enc), .fn f caps] (fun r _ => r = .s (.bool (xs.any p))) := by
  refine FCon.intro PM _ Tryz.func98 (by kernel_rfl) rfl _ Tryz.ntmps98 rfl [] (by decide +kernel) (by simp) (by simp) rfl (by first | rfl | simp only [go_sem]) ?_
  (have hWf := f0; repeat' (first | refine zS ?_ | exact zE | with_reducible apply And.intro | refine zK (c_IndexFunc_Type xs f caps hm p hf) ?_ | with_reducible exact zB0 | with_reducible refine zB fun hb => ?_ | exact zC | refine zT ?_ | fail))
  exact sB (fidx_any p xs)
theorem c_IndexFunc_Pat (xs : List MPat) (f : FuncId) (caps : List D) (hm : PM.md f = []) (p : MPat → Bool) (hf : ∀ x ∈ xs, FCon Tryz.prog f (.ag x.enc :: caps) (fun r _ => r = .s (.bool (p x)))) :
    FCon Tryz.prog 105 [.sl 1 (xs.map MPat.enc), .fn f caps] (fun r _ => r = .s (.int .i64 (fidx p xs))) := by
  refine FCon.intro PM _ Tryz.func105 (by kernel_rfl) rfl _ Tryz.ntmps105 rfl [] (by decide +kernel) (by simp) (by simp) rfl (by first | rfl | simp only [go_sem]) ?_
  refine AC_len 0 rfl trivial fun hlen => ?_
  simp only [List.length_map] at hlen
  (have hWf := f0; repeat' (first | refine zS ?_ | exact zE | with_reducible apply And.intro | with_reducible exact zB0 | with_reducible refine zB fun hb => ?_ | exact zC | refine zT ?_ | fail))
  refine AC_loop (fun n σ => ∃ k : Nat, k ≤ xs.length ∧ n = xs.length - k ∧ σ.t 0 = .sl 1 (xs.map MPat.enc) ∧ σ.t 1 = .fn f caps ∧ σ.t 7 = .s (.int .i64 xs.length) ∧ σ.t 8 = .s (.int .i64 k) ∧ ∀ x ∈ xs.take k, p x = false) xs.length ⟨0, by omega, by omega, ?_⟩ ?_
  · simp only [go_sem, simprocAttr, Int.natCast_zero]
    all_goals simp
  · rintro n σ ⟨k, hk, rfl, h0, h1, h7, h8, hno⟩ K' hK
    by_cases hlt : k < xs.length
    · have hx := getD_map MPat.enc xs k hlt
      have he := MPat.enc_eq xs[k]
      have hc := hf xs[k] (List.getElem_mem hlt)
      rw [he] at hc
      cases hp : p xs[k] with
      | true =>
        rw [hp] at hc
        (have hWf := WFx.mk (ai @h0 <| ai @h1 <| ai @h7 <| ai @h8 <| ai @hx <| ai @he <| @hm); repeat' (first | refine zS ?_ | exact zE | with_reducible apply And.intro | refine zK (hc) ?_ | with_reducible exact zB0 | with_reducible refine zB fun hb => ?_ | exact zC | refine zT ?_ | fail))
        all_goals exact sI_congr (fidx_at p xs k hlt hno hp).symm
      | false =>
        rw [hp] at hc
        (have hWf := WFx.mk (ai @h0 <| ai @h1 <| ai @h7 <| ai @h8 <| ai @hx <| ai @he <| @hm); repeat' (first | refine zS ?_ | exact zE | with_reducible apply And.intro | refine zK (hc) ?_ | with_reducible exact zB0 | with_reducible refine zB fun hb => ?_ | exact zC | refine zT ?_ | fail))
        refine hK (xs.length - (k + 1)) _ (by omega) ⟨k + 1, by omega, rfl, ?_⟩
        simp only [go_sem, simprocAttr, h0, h1, h7, Int.natCast_succ]
        exact take_no hlt hno hp
    · obtain rfl : k = xs.length := by omega
      (have hWf := WFx.mk (ai @h0 <| ai @h1 <| ai @h7 <| @h8); repeat' (first | refine zS ?_ | exact zE | with_reducible apply And.intro | with_reducible exact zB0 | with_reducible refine zB fun hb => ?_ | exact zC | refine zT ?_ | fail))
      exact sI_congr (fidx_no p xs (by simpa using hno)).symm
theorem c_ContainsFunc_Pat (xs : List MPat) (f : FuncId) (caps : List D) (hm : PM.md f = []) (p : MPat → Bool) (hf : ∀ x ∈ xs, FCon Tryz.prog f (.ag x.enc :: caps) (fun r _ => r = .s (.bool (p x)))) :
    FCon Tryz.prog 44 [.sl 1 (xs.map MPat.enc), .fn f caps] (fun r _ => r = .s (.bool (xs.any p))) := by
  refine FCon.intro PM _ Tryz.func44 (by kernel_rfl) rfl _ Tryz.ntmps44 rfl [] (by decide +kernel) (by simp) (by simp) rfl (by first | rfl | simp only [go_sem]) ?_
  (have hWf := f0; repeat' (first | refine zS ?_ | exact zE | with_reducible apply And.intro | refine zK (c_IndexFunc_Pat xs f caps hm p hf) ?_ | with_reducible exact zB0 | with_reducible refine zB fun hb => ?_ | exact zC | refine zT ?_ | fail))
  exact sB (fidx_any p xs)
def shapeI (p : MProgram) (nb : MNode → Bool) : Bool := !(!(decide (1 ≤ (p.nodes.length : Int)) && decide ((p.nodes.length : Int) ≤ 600)) || decide (8 < (p.types.length : Int))) && orderM (kidsN p.nodes) && (p.nodes.all fun n => nodeI p.nodes n (nb n)) && p.types.all typeM
theorem shapeI_bad {p : MProgram} {nb : MNode → Bool} (h : ((p.nodes.length : Int) < 1 ∨ 600 < (p.nodes.length : Int)) ∨ 8 < (p.types.length : Int)) : shapeI p nb = false := by
  unfold shapeI
  rcases h with (h | h) | h
  · rw [decide_eq_false (by omega : ¬ 1 ≤ (p.nodes.length : Int))]; simp
  · rw [decide_eq_false (by omega : ¬ (p.nodes.length : Int) ≤ 600)]; simp
  · rw [decide_eq_true h]; simp
theorem shapeI_ord {p : MProgram} {nb : MNode → Bool} (h : orderM (kidsN p.nodes) = false) : shapeI p nb = false := by unfold shapeI; rw [h]; simp
theorem shapeI_ok {p : MProgram} {nb : MNode → Bool} (h1 : 1 ≤ (p.nodes.length : Int)) (h2 : (p.nodes.length : Int) ≤ 600) (h3 : (p.types.length : Int) ≤ 8) (h : orderM (kidsN p.nodes) = true) : shapeI p nb = ((p.nodes.all fun n => nodeI p.nodes n (nb n)) && p.types.all typeM) := by
  unfold shapeI
  rw [h, decide_eq_true h1, decide_eq_true h2, decide_eq_false (by omega : ¬ 8 < (p.types.length : Int))]; simp
theorem c_shapeOk2 (t : MType) (ho : t.ok) (hs : t.sm) : FCon Tryz.prog 99 [.ag t.enc] (fun r _ => r = .s (.bool (!typeM t))) := by
  have h := c_typeOk t ho hs
  rw [MType.enc_eq] at h
  refine FCon.intro PM _ Tryz.func99 (by kernel_rfl) rfl _ Tryz.ntmps99 rfl [] (by decide +kernel) (by simp) (by simp) rfl (by first | rfl | simp only [go_sem]) ?_
  (have hWf := WFx.mk @MType.enc_eq; repeat' (first | refine zS ?_ | exact zE | with_reducible apply And.intro | refine zK (h) ?_ | with_reducible exact zB0 | with_reducible refine zB fun hb => ?_ | exact zC | refine zT ?_ | fail))
theorem c_progOk1 (n : MNode) (ho : n.ok) : FCon Tryz.prog 42 [.ag n.enc] (fun r _ => r = .s (.bool (nameB n))) := by
  refine FCon.intro PM _ Tryz.func42 (by kernel_rfl) rfl _ Tryz.ntmps42 rfl [] (by decide +kernel) (by simp) (by simp) rfl (by first | rfl | simp only [go_sem]) ?_
  (have hWf := WFx.mk @MNode.enc_eq; repeat' (first | refine zS ?_ | exact zE | with_reducible apply And.intro | refine zK (c_implNameOk n.s ho.2.2.2.1) ?_ | with_reducible exact zB0 | with_reducible refine zB fun hb => ?_ | exact zC | refine zT ?_ | fail))
  all_goals
    refine sB ?_
    unfold nameB
    first | rfl | (congr 1; rw [Bool.eq_iff_iff]; simp)
theorem c_progOk2 (q : MPat) (ho : q.ok) (hs : q.sm) : FCon Tryz.prog 45 [.ag q.enc] (fun r _ => r = .s (.bool (!patM q.nodes))) := by
  refine FCon.intro PM _ Tryz.func45 (by kernel_rfl) rfl _ Tryz.ntmps45 rfl [] (by decide +kernel) (by simp) (by simp) rfl (by first | rfl | simp only [go_sem]) ?_
  (have hWf := WFx.mk @MPat.enc_eq; repeat' (first | refine zS ?_ | exact zE | with_reducible apply And.intro | refine zK (c_implPatOk q.nodes ho hs) ?_ | with_reducible exact zB0 | with_reducible refine zB fun hb => ?_ | exact zC | refine zT ?_ | fail))
theorem node_kid {p : MProgram} (hor : orderM (kidsN p.nodes) = true) {k : Nat} (hlk : k < p.nodes.length) (h0 : 0 < p.nodes[k].kids.length) : ∃ q : Nat, p.nodes[k].kids[0] = (q : Int) ∧ q < p.nodes.length := by
  unfold orderM at hor
  have he : pEnd (kidsN p.nodes) (kidsN p.nodes).length 0 = some (kidsN p.nodes).length := by simpa using hor
  have hlen : (kidsN p.nodes).length = p.nodes.length := by simp
  have := pEnd_inP (kidsN p.nodes) _ _ _ he k (by rw [hlen]; exact hlk) (Nat.zero_le _) (by rw [hlen]; exact hlk) (p.nodes[k].kids[0]) (by simp [kidsN])
  rw [hlen] at this
  exact this
theorem c_shapeOk (p : MProgram) (ho : p.ok) (hs : p.sm) (f : FuncId) (caps : List D) (hm : PM.md f = []) (nb : MNode → Bool) (hf : ∀ n ∈ p.nodes, FCon Tryz.prog f (.ag n.enc :: caps) (fun r _ => r = .s (.bool (nb n)))) :
    FCon Tryz.prog 41 [.ag p.enc, .fn f caps] (fun r _ => r = .s (.bool (shapeI p nb))) := by
  obtain ⟨o1, o2⟩ := ho
  obtain ⟨s1, s2⟩ := hs
  have hln := s2.1
  have hlt := s1.1
  have hkl : ∀ x ∈ p.nodes, x.kids.length ≤ 1000000000 := fun x hx => by have := (s2.2 x hx).2.1.1; omega
  have hio := c_inOrderN p o2 (by omega) hkl
  rw [MProgram.enc_eq] at hio
  refine FCon.intro PM _ Tryz.func41 (by kernel_rfl) rfl _ Tryz.ntmps41 rfl [] (by decide +kernel) (by simp) (by simp) rfl (by first | rfl | simp only [go_sem]) ?_
  (refine AC_go ?_; simp only [go_sem, simprocAttr, MProgram.enc_eq]; (have hWf := WFx.mk @MProgram.enc_eq; repeat' (first | refine zY ?_ | with_reducible apply And.intro | with_reducible exact zB0 | with_reducible refine zB fun hb => ?_ | exact zC | refine zT ?_ | fail)))
  refine AC_fr 2 (.box [.sl 3 (p.types.map MType.enc), .sl 6 (p.nodes.map MNode.enc)]) (by simp only [go_sem, simprocAttr, MProgram.enc_eq]) rfl ?_
  (have hWf := WFx.mk @MProgram.enc_eq; repeat' (first | refine zS ?_ | exact zE | with_reducible apply And.intro | refine zK (c_within p.nodes.length 1 600) ?_ | refine zK (hio) ?_ | with_reducible exact zB0 | with_reducible refine zB fun hb => ?_ | exact zC | refine zT ?_ | fail))
  · exact sB (shapeI_bad (by omega)).symm
  · exact sB (shapeI_ord (by first | exact hb | exact hb.symm)).symm
  · rename_i hb1
    have hor : orderM (kidsN p.nodes) = true := by first | exact hb | exact hb.symm
    rw [shapeI_ok (by omega) (by omega) (by omega) hor]
    refine AC_loop (fun n σ => ∃ k : Nat, k ≤ p.nodes.length ∧ n = p.nodes.length - k ∧ σ.t 1 = .fn f caps ∧ σ.t 2 = .pt [.sl 3 (p.types.map MType.enc), .sl 6 (p.nodes.map MNode.enc)] ∧ σ.t 25 = .sl 6 (p.nodes.map MNode.enc) ∧ σ.t 26 = .s (.int .i64 p.nodes.length) ∧ σ.t 27 = .s (.int .i64 k) ∧ ∀ x ∈ p.nodes.take k, nodeI p.nodes x (nb x) = true) p.nodes.length ⟨0, by omega, by omega, ?_⟩ ?_
    · simp only [go_sem, simprocAttr, MProgram.enc_eq, Int.natCast_zero]
      all_goals simp
    · rintro n σ ⟨k, hk, rfl, h1, h2, h25, h26, h27, hno⟩ K' hK
      by_cases hlk : k < p.nodes.length
      · have hx := getD_map MNode.enc p.nodes k hlk
        have he := MNode.enc_eq p.nodes[k]
        have hmem := List.getElem_mem hlk
        have hc := c_nodeOk p p.nodes[k] (o2 _ hmem) (s2.2 _ hmem).2.2.1 (by have := (s2.2 _ hmem).2.1.1; omega) f caps hm (nb p.nodes[k]) (hf _ hmem) (node_kid hor hlk)
        rw [MProgram.enc_eq, MNode.enc_eq] at hc
        cases hq : nodeI p.nodes p.nodes[k] (nb p.nodes[k]) with
        | false =>
          rw [hq] at hc
          (have hWf := WFx.mk (ai @h1 <| ai @h2 <| ai @h25 <| ai @h26 <| ai @h27 <| ai @hx <| @he); repeat' (first | refine zS ?_ | exact zE | with_reducible apply And.intro | refine zK (hc) ?_ | with_reducible exact zB0 | with_reducible refine zB fun hb => ?_ | exact zC | refine zT ?_ | fail))
          rw [all_bad (p := fun n => nodeI p.nodes n (nb n)) hlk hq]; rfl
        | true =>
          rw [hq] at hc
          (have hWf := WFx.mk (ai @h1 <| ai @h2 <| ai @h25 <| ai @h26 <| ai @h27 <| ai @hx <| @he); repeat' (first | refine zS ?_ | exact zE | with_reducible apply And.intro | refine zK (hc) ?_ | with_reducible exact zB0 | with_reducible refine zB fun hb => ?_ | exact zC | refine zT ?_ | fail))
          refine hK (p.nodes.length - (k + 1)) _ (by omega) ⟨k + 1, by omega, rfl, ?_⟩
          simp only [go_sem, simprocAttr, h1, h2, h25, h26, h27, Int.natCast_succ]
          exact take_more hlk hno hq
      · obtain rfl : k = p.nodes.length := by omega
        (have hWf := WFx.mk (ai @h1 <| ai @h2 <| ai @h25 <| ai @h26 <| @h27); repeat' (first | refine zS ?_ | exact zE | with_reducible apply And.intro | ((with_reducible apply q_CallG); refine zG (c_ContainsFunc_Type p.types _ [] rfl (fun t => !typeM t) (fun t ht => c_shapeOk2 t (o1 t ht) (s1.2 t ht))) ?_) | ((with_reducible apply q_CallQ); refine CallQ_mk (c_ContainsFunc_Type p.types _ [] rfl (fun t => !typeM t) (fun t ht => c_shapeOk2 t (o1 t ht) (s1.2 t ht))) ?_) | with_reducible exact zB0 | with_reducible refine zB fun hb => ?_ | exact zC | refine zT ?_ | fail))
        rw [all_good (p := fun n => nodeI p.nodes n (nb n)) hno]
        rw [show p.types.all typeM = !p.types.any fun t => !typeM t by rw [List.not_any_eq_all_not]; simp]
        rfl
def progI (p : MProgram) : Bool := shapeI p nameB && p.nodes.all fun n => n.pats.all fun q => patM q.nodes
theorem c_implProgramOkI (p : MProgram) (ho : p.ok) (hs : p.sm) : FCon Tryz.prog 14 [.ag p.enc] (fun r _ => r = .s (.bool (progI p))) := by
  have hss := c_shapeOk p ho hs 42 [] rfl nameB (fun n hn => c_progOk1 n (ho.2 n hn))
  rw [MProgram.enc_eq] at hss
  obtain ⟨o1, o2⟩ := ho
  obtain ⟨s1, s2⟩ := hs
  have hln := s2.1
  unfold progI
  cases hsh : shapeI p nameB with
  | false =>
    rw [hsh] at hss
    refine FCon.intro PM _ Tryz.func14 (by kernel_rfl) rfl _ Tryz.ntmps14 rfl [] (by decide +kernel) (by simp) (by simp) rfl (by first | rfl | simp only [go_sem]) ?_
    (have hWf := WFx.mk @MProgram.enc_eq; repeat' (first | refine zS ?_ | exact zE | with_reducible apply And.intro | refine zK (hss) ?_ | with_reducible exact zB0 | with_reducible refine zB fun hb => ?_ | exact zC | refine zT ?_ | fail))
    all_goals rfl
  | true =>
    rw [hsh] at hss
    refine FCon.intro PM _ Tryz.func14 (by kernel_rfl) rfl _ Tryz.ntmps14 rfl [] (by decide +kernel) (by simp) (by simp) rfl (by first | rfl | simp only [go_sem]) ?_
    (have hWf := WFx.mk @MProgram.enc_eq; repeat' (first | refine zS ?_ | exact zE | with_reducible apply And.intro | refine zK (hss) ?_ | with_reducible exact zB0 | with_reducible refine zB fun hb => ?_ | exact zC | refine zT ?_ | fail))
    refine AC_loop (fun n σ => ∃ k : Nat, k ≤ p.nodes.length ∧ n = p.nodes.length - k ∧ σ.t 9 = .sl 6 (p.nodes.map MNode.enc) ∧ σ.t 10 = .s (.int .i64 p.nodes.length) ∧ σ.t 11 = .s (.int .i64 k) ∧ ∀ x ∈ p.nodes.take k, (x.pats.all fun q => patM q.nodes) = true) p.nodes.length ⟨0, by omega, by omega, ?_⟩ ?_
    · simp only [go_sem, simprocAttr, MProgram.enc_eq, Int.natCast_zero]
      all_goals simp
    · rintro n σ ⟨k, hk, rfl, h9, h10, h11, hno⟩ K' hK
      by_cases hlk : k < p.nodes.length
      · have hx := getD_map MNode.enc p.nodes k hlk
        have he := MNode.enc_eq p.nodes[k]
        have hmem := List.getElem_mem hlk
        have ho' := (o2 _ hmem).2.2.2.2.2
        have hs' := (s2.2 _ hmem).2.2
        have hna : (p.nodes[k].pats.all fun q => patM q.nodes) = !p.nodes[k].pats.any fun q => !patM q.nodes := by rw [List.not_any_eq_all_not]; simp
        have hcf := c_ContainsFunc_Pat p.nodes[k].pats 45 [] rfl (fun q => !patM q.nodes) (fun q hq => c_progOk2 q (ho' q hq) (hs'.2 q hq))
        cases hq : (p.nodes[k].pats.any fun q => !patM q.nodes) with
        | true =>
          rw [hq] at hcf hna
          (have hWf := WFx.mk (ai @h9 <| ai @h10 <| ai @h11 <| ai @hx <| @he); repeat' (first | refine zS ?_ | exact zE | with_reducible apply And.intro | refine zK (hcf) ?_ | with_reducible exact zB0 | with_reducible refine zB fun hb => ?_ | exact zC | refine zT ?_ | fail))
          rw [all_bad (p := fun n : MNode => n.pats.all fun q => patM q.nodes) hlk hna]
        | false =>
          rw [hq] at hcf hna
          (have hWf := WFx.mk (ai @h9 <| ai @h10 <| ai @h11 <| ai @hx <| @he); repeat' (first | refine zS ?_ | exact zE | with_reducible apply And.intro | refine zK (hcf) ?_ | with_reducible exact zB0 | with_reducible refine zB fun hb => ?_ | exact zC | refine zT ?_ | fail))
          refine hK (p.nodes.length - (k + 1)) _ (by omega) ⟨k + 1, by omega, rfl, ?_⟩
          simp only [go_sem, simprocAttr, h9, h10, h11, Int.natCast_succ]
          exact take_more hlk hno hna
      · obtain rfl : k = p.nodes.length := by omega
        (have hWf := WFx.mk (ai @h9 <| ai @h10 <| @h11); repeat' (first | refine zS ?_ | exact zE | with_reducible apply And.intro | with_reducible exact zB0 | with_reducible refine zB fun hb => ?_ | exact zC | refine zT ?_ | fail))
        rw [all_good (p := fun n : MNode => n.pats.all fun q => patM q.nodes) hno]
end Go.Proofs.YtgcdbmcoendcdaaGreat

namespace Go.Proofs.YtgcdbmcoendcdaaGreat
set_option linter.unusedVariables false
set_option linter.unusedSimpArgs false
open Go.RowKit
theorem order_in {p : MProgram} (h : orderM (kidsN p.nodes) = true) : ∀ n ∈ p.nodes, inB p.nodes n.kids = true := by
  intro n hn
  obtain ⟨k, hk, rfl⟩ := List.getElem_of_mem hn
  unfold orderM at h
  have he : pEnd (kidsN p.nodes) (kidsN p.nodes).length 0 = some (kidsN p.nodes).length := by simpa using h
  have hlen : (kidsN p.nodes).length = p.nodes.length := by simp
  refine List.all_eq_true.2 fun z hz => ?_
  obtain ⟨q, rfl, hq⟩ := pEnd_inP (kidsN p.nodes) _ _ _ he k (by rw [hlen]; exact hk) (Nat.zero_le _) (by rw [hlen]; exact hk) z (by simpa [kidsN] using hz)
  rw [hlen] at hq
  rw [decide_eq_true (by omega), decide_eq_true (by omega)]; rfl
theorem progI_eq (p : MProgram) : progI p = progM p := by
  unfold progI progM shapeI
  cases ho : orderM (kidsN p.nodes) with
  | false => simp
  | true =>
    have hin := order_in ho
    have h1 : p.nodes.all (nodeM p.nodes) = ((p.nodes.all fun n => nodeI p.nodes n (nameB n)) && p.nodes.all fun n => n.pats.all fun q => patM q.nodes) := by
      rw [Bool.eq_iff_iff]
      simp only [Bool.and_eq_true, List.all_eq_true]
      constructor
      · intro h
        refine ⟨fun n hn => ?_, fun n hn => ?_⟩
        · have := h n hn
          unfold nodeM at this
          simp only [Bool.and_eq_true] at this
          exact this.1.2
        · have := h n hn
          unfold nodeM at this
          simp only [Bool.and_eq_true, List.all_eq_true] at this
          exact this.2
      · intro ⟨h1, h2⟩ n hn
        unfold nodeM
        simp only [Bool.and_eq_true, List.all_eq_true]
        exact ⟨⟨hin n hn, h1 n hn⟩, h2 n hn⟩
    rw [h1]
    have h2 : (!(!(decide (1 ≤ (p.nodes.length : Int)) && decide ((p.nodes.length : Int) ≤ 600)) || decide (8 < (p.types.length : Int)))) = (decide (1 ≤ p.nodes.length) && decide (p.nodes.length ≤ 600) && decide (p.types.length ≤ 8)) := by
      rw [Bool.eq_iff_iff]
      simp only [Bool.not_eq_true', Bool.or_eq_false_iff, Bool.not_eq_false', Bool.and_eq_true, decide_eq_true_eq, decide_eq_false_iff_not]
      omega
    rw [h2]
    cases decide (1 ≤ p.nodes.length) <;> cases decide (p.nodes.length ≤ 600) <;> cases decide (p.types.length ≤ 8) <;> cases (p.nodes.all fun n => nodeI p.nodes n (nameB n)) <;> cases (p.types.all typeM) <;> simp
theorem c_implProgramOk (p : MProgram) (ho : p.ok) (hs : p.sm) : FCon Tryz.prog 14 [.ag p.enc] (fun r _ => r = .s (.bool (progM p))) := by
  rw [← progI_eq]; exact c_implProgramOkI p ho hs
theorem c_l04NEnd (p : MProgram) (ho : ∀ x ∈ p.nodes, x.ok) (hl : p.nodes.length ≤ 1000000000) (hks : ∀ x ∈ p.nodes, x.kids.length ≤ 1000000000) :
    ∀ (N m : Nat), p.nodes.length - m ≤ N → m ≤ 2000000000 → FCon Tryz.prog 50 [.ag p.enc, .s (.int .i64 m)] (fun r _ => r = .s (.int .i64 (endZ (pEnd (kidsN p.nodes) N m)))) := by
  have hlen : (kidsN p.nodes).length = p.nodes.length := by simp
  have out : ∀ (N m : Nat), p.nodes.length ≤ m → m ≤ 2000000000 → FCon Tryz.prog 50 [.ag p.enc, .s (.int .i64 m)] (fun r _ => r = .s (.int .i64 (endZ (pEnd (kidsN p.nodes) N m)))) := by
    intro N m hm hm2
    rw [pEnd_out _ _ _ (by rw [hlen]; exact hm)]
    refine FCon.intro PM _ Tryz.func50 (by kernel_rfl) rfl _ Tryz.ntmps50 rfl [] (by decide +kernel) (by simp) (by simp) rfl (by first | rfl | simp only [go_sem]) ?_
    (have hWf := WFx.mk @MProgram.enc_eq; repeat' (first | refine zS ?_ | exact zE | with_reducible apply And.intro | with_reducible exact zB0 | with_reducible refine zB fun hb => ?_ | exact zC | refine zT ?_ | fail))
    all_goals (try rfl)
  intro N
  induction N with
  | zero => intro m hm hm2; exact out 0 m (by omega) hm2
  | succ N ih =>
    intro m hm hm2
    by_cases hlt : m < p.nodes.length
    · have hx := getD_map MNode.enc p.nodes m hlt
      have he := MNode.enc_eq p.nodes[m]
      have hkl := hks _ (List.getElem_mem hlt)
      rw [pEnd_at _ _ _ (by rw [hlen]; exact hlt)]
      have hka : (kidsN p.nodes)[m]'(by rw [hlen]; exact hlt) = p.nodes[m].kids := by simp [kidsN]
      rw [hka]
      obtain ⟨R, hR⟩ : ∃ R, pKids (pEnd (kidsN p.nodes) N) p.nodes[m].kids (m + 1) = R := ⟨_, rfl⟩
      rw [hR]
      refine FCon.intro PM _ Tryz.func50 (by kernel_rfl) rfl _ Tryz.ntmps50 rfl [] (by decide +kernel) (by simp) (by simp) rfl (by first | rfl | simp only [go_sem]) ?_
      (have hWf := WFx.mk (ai @MProgram.enc_eq <| ai @hx <| @he); repeat' (first | refine zS ?_ | exact zE | with_reducible apply And.intro | with_reducible exact zB0 | with_reducible refine zB fun hb => ?_ | exact zC | refine zT ?_ | fail))
      refine AC_loop (fun n σ => ∃ j cur : Nat, j ≤ p.nodes[m].kids.length ∧ n = p.nodes[m].kids.length - j ∧ m < cur ∧ cur ≤ 2000000000 ∧ pKids (pEnd (kidsN p.nodes) N) (p.nodes[m].kids.drop j) cur = R ∧ σ.t 2 = .bx 2 0 ∧ σ.b 2 = some (.box [.sl 3 (p.types.map MType.enc), .sl 6 (p.nodes.map MNode.enc)]) ∧ σ.t 5 = .s (.int .i64 cur) ∧ σ.t 20 = intsD p.nodes[m].kids ∧ σ.t 21 = .s (.int .i64 p.nodes[m].kids.length) ∧ σ.t 22 = .s (.int .i64 j)) p.nodes[m].kids.length ⟨0, m + 1, by omega, by omega, by omega, by omega, by rw [List.drop_zero]; exact hR, ?_⟩ ?_
      · simp only [go_sem, simprocAttr, MProgram.enc_eq, Int.natCast_succ]
        all_goals simp
      · rintro n σ ⟨j, cur, hj, rfl, hcur, hc2, hp, h2, hb2, h5, h20, h21, h22⟩ K' hK
        by_cases hjl : j < p.nodes[m].kids.length
        · have gx := getD_map iE p.nodes[m].kids j hjl
          rw [drop_cons _ j hjl, pKids_cons] at hp
          by_cases hkc : p.nodes[m].kids[j] = (cur : Int)
          · have hw : walkR (kidsN p.nodes) N p.nodes[m].kids[j] cur = pEnd (kidsN p.nodes) N cur := by unfold walkR; rw [if_pos hkc]
            rw [hw] at hp
            have hkn : ((cur : Int) != (cur : Int)) = false := bne_self_eq_false _
            have hcc := ih cur (by omega) hc2
            cases hq : pEnd (kidsN p.nodes) N cur with
            | none =>
              rw [hq] at hcc hp
              have hcc : FCon Tryz.prog 50 [.ag [.sl 3 (p.types.map MType.enc), .sl 6 (p.nodes.map MNode.enc)], .s (.int .i64 cur)] (fun r _ => r = .s (.int .i64 (-1))) := hcc
              (have hWf := WFx.mk (ai @h2 <| ai @hb2 <| ai @h5 <| ai @h20 <| ai @h21 <| ai @h22 <| ai @gx <| ai @iE_eq <| ai @hkc <| ai @hkn <| @MProgram.enc_eq); repeat' (first | refine zS ?_ | exact zE | with_reducible apply And.intro | refine zK (hcc) ?_ | with_reducible exact zB0 | with_reducible refine zB fun hb => ?_ | exact zC | refine zT ?_ | fail))
              all_goals (rw [← hp]; rfl)
            | some e1 =>
              rw [hq] at hcc hp
              have hcc : FCon Tryz.prog 50 [.ag [.sl 3 (p.types.map MType.enc), .sl 6 (p.nodes.map MNode.enc)], .s (.int .i64 cur)] (fun r _ => r = .s (.int .i64 (e1 : Int))) := hcc
              have hbd := pEnd_bd _ _ _ _ hq
              rw [hlen] at hbd
              (have hWf := WFx.mk (ai @h2 <| ai @hb2 <| ai @h5 <| ai @h20 <| ai @h21 <| ai @h22 <| ai @gx <| ai @iE_eq <| ai @hkc <| ai @hkn <| @MProgram.enc_eq); repeat' (first | refine zS ?_ | exact zE | with_reducible apply And.intro | refine zK (hcc) ?_ | with_reducible exact zB0 | with_reducible refine zB fun hb => ?_ | exact zC | refine zT ?_ | fail))
              refine hK (p.nodes[m].kids.length - (j + 1)) _ (by omega) ⟨j + 1, e1, by omega, rfl, by omega, by omega, hp, ?_⟩
              simp only [go_sem, simprocAttr, h2, hb2, h5, h20, h21, h22, Int.natCast_succ]
              all_goals simp
          · have hw : walkR (kidsN p.nodes) N p.nodes[m].kids[j] cur = none := by unfold walkR; rw [if_neg hkc]
            rw [hw] at hp
            have hne : (p.nodes[m].kids[j] != (cur : Int)) = true := by simpa using hkc
            (have hWf := WFx.mk (ai @h2 <| ai @hb2 <| ai @h5 <| ai @h20 <| ai @h21 <| ai @h22 <| ai @gx <| ai @iE_eq <| ai @hne <| @MProgram.enc_eq); repeat' (first | refine zS ?_ | exact zE | with_reducible apply And.intro | with_reducible exact zB0 | with_reducible refine zB fun hb => ?_ | exact zC | refine zT ?_ | fail))
            all_goals (rw [← hp]; rfl)
        · obtain rfl : j = p.nodes[m].kids.length := by omega
          rw [List.drop_eq_nil_of_le (Nat.le_refl _)] at hp
          (have hWf := WFx.mk (ai @h2 <| ai @hb2 <| ai @h5 <| ai @h20 <| ai @h21 <| @h22); repeat' (first | refine zS ?_ | exact zE | with_reducible apply And.intro | with_reducible exact zB0 | with_reducible refine zB fun hb => ?_ | exact zC | refine zT ?_ | fail))
          rw [← hp]; rfl
    · exact out (N + 1) m (by omega) hm2
theorem c_l04Node (p : MProgram) (x : MNode) (ho : x.ok) (hs : x.sm) : FCon Tryz.prog 49 [.ag p.enc, .ag x.enc] (fun r _ => r = .s (.bool (nodeM p.nodes x))) := by
  obtain ⟨kind, at_, n, s, kids, pats⟩ := x
  obtain ⟨o1, o2, o3, o4, o5, o6⟩ := ho
  obtain ⟨s1, s2, s3⟩ := hs
  by_cases hkd : kind < 1 ∨ 19 < kind
  · have hm : nodeM p.nodes ⟨kind, at_, n, s, kids, pats⟩ = false := by
      have g : kindI p.nodes ⟨kind, at_, n, s, kids, pats⟩ (nameB ⟨kind, at_, n, s, kids, pats⟩) = false := by
        unfold kindI
        simp only
        repeat' split
        all_goals first
          | omega
          | (rcases hkd with q | q
             · rw [decide_eq_false (by omega : ¬ 1 ≤ kind)]; rfl
             · rw [decide_eq_false (by omega : ¬ kind ≤ 19)]; simp)
      unfold nodeM nodeI
      rw [g]; simp
    rw [hm]
    rcases hkd with hkd | hkd
    · have h1 : decide (kind < 1) = true := decide_eq_true hkd
      refine FCon.intro PM _ Tryz.func49 (by kernel_rfl) rfl _ Tryz.ntmps49 rfl [(15, 26, [], [], (lin [] [0, 1, 2, 3, 4, 5, 6, 7, 8, 9, 10, 11, 12, 13, 14, 15, 16, 17, 18, 19, 20, 21, 22, 23, 24, 25])), (24, 15, [], [], (lin [] [0, 1, 2, 3, 4, 5, 6, 7, 8, 9, 10, 11, 12, 13, 14])), (26, 11, [], [], (lin [] [0, 1, 2, 3, 4, 5, 6, 7, 8, 9, 10]))] (by decide +kernel) (by simp) (by simp) rfl (by first | rfl | simp only [go_sem]) ?_
      (have hWf := WFx.mk (ai @MNode.enc_eq <| ai @MProgram.enc_eq <| @h1); repeat' (first | refine zS ?_ | exact zE | with_reducible apply And.intro | with_reducible exact zB0 | with_reducible refine zB fun hb => ?_ | exact zC | refine zT ?_ | fail))
      all_goals (first | (done) | (exfalso; simp_all; omega) | trace_state)
    · have h1 : decide (kind < 1) = false := decide_eq_false (by omega)
      have h2 : decide (kind > 19) = true := decide_eq_true hkd
      refine FCon.intro PM _ Tryz.func49 (by kernel_rfl) rfl _ Tryz.ntmps49 rfl [(15, 26, [], [], (lin [] [0, 1, 2, 3, 4, 5, 6, 7, 8, 9, 10, 11, 12, 13, 14, 15, 16, 17, 18, 19, 20, 21, 22, 23, 24, 25])), (24, 15, [], [], (lin [] [0, 1, 2, 3, 4, 5, 6, 7, 8, 9, 10, 11, 12, 13, 14])), (26, 11, [], [], (lin [] [0, 1, 2, 3, 4, 5, 6, 7, 8, 9, 10]))] (by decide +kernel) (by simp) (by simp) rfl (by first | rfl | simp only [go_sem]) ?_
      (have hWf := WFx.mk (ai @MNode.enc_eq <| ai @MProgram.enc_eq <| ai @h1 <| @h2); repeat' (first | refine zS ?_ | exact zE | with_reducible apply And.intro | with_reducible exact zB0 | with_reducible refine zB fun hb => ?_ | exact zC | refine zT ?_ | fail))
      all_goals (first | (done) | (exfalso; simp_all; omega) | trace_state)
  · rcases (show kind = 1 ∨ kind = 2 ∨ kind = 3 ∨ kind = 4 ∨ kind = 5 ∨ kind = 6 ∨ kind = 7 ∨ kind = 8 ∨ kind = 9 ∨ kind = 10 ∨ kind = 11 ∨ kind = 12 ∨ kind = 13 ∨ kind = 14 ∨ kind = 15 ∨ kind = 16 ∨ kind = 17 ∨ kind = 18 ∨ kind = 19 by omega) with rfl | rfl | rfl | rfl | rfl | rfl | rfl | rfl | rfl | rfl | rfl | rfl | rfl | rfl | rfl | rfl | rfl | rfl | rfl
    · exact l04Node_a p 1 (.inl ⟨rfl, by decide⟩) at_ n s kids pats s2.1 s3.1 o4 o6 s3
    · exact l04Node_a p 2 (.inr (.inl ⟨rfl, by decide⟩)) at_ n s kids pats s2.1 s3.1 o4 o6 s3
    · exact l04Node_a p 3 (.inr (.inr (⟨rfl, by decide⟩))) at_ n s kids pats s2.1 s3.1 o4 o6 s3
    · exact l04Node_4 p 4 (⟨rfl, by decide⟩) at_ n s kids pats s2.1 s3.1 o4 o6 s3
    · exact l04Node_b p 5 (.inl ⟨rfl, by decide⟩) at_ n s kids pats s2.1 s3.1 o4 o6 s3
    · exact l04Node_c p 6 (.inl ⟨rfl, by decide⟩) at_ n s kids pats s2.1 s3.1 o4 o6 s3
    · exact l04Node_b p 7 (.inr (.inl ⟨rfl, by decide⟩)) at_ n s kids pats s2.1 s3.1 o4 o6 s3
    · exact l04Node_8 p 8 (⟨rfl, by decide⟩) at_ n s kids pats s2.1 s3.1 o4 o6 s3
    · exact l04Node_c p 9 (.inr (.inl ⟨rfl, by decide⟩)) at_ n s kids pats s2.1 s3.1 o4 o6 s3
    · exact l04Node_c p 10 (.inr (.inr (⟨rfl, by decide⟩))) at_ n s kids pats s2.1 s3.1 o4 o6 s3
    · exact l04Node_d p 11 (.inl ⟨rfl, by decide⟩) at_ n s kids pats s2.1 s3.1 o4 o6 s3
    · exact l04Node_d p 12 (.inr (.inl ⟨rfl, by decide⟩)) at_ n s kids pats s2.1 s3.1 o4 o6 s3
    · exact l04Node_13 p 13 (⟨rfl, by decide⟩) at_ n s kids pats s2.1 s3.1 o4 o6 s3
    · exact l04Node_d p 14 (.inr (.inr (⟨rfl, by decide⟩))) at_ n s kids pats s2.1 s3.1 o4 o6 s3
    · exact l04Node_b p 15 (.inr (.inr (⟨rfl, by decide⟩))) at_ n s kids pats s2.1 s3.1 o4 o6 s3
    · exact l04Node_e p 16 (.inl ⟨rfl, by decide⟩) at_ n s kids pats s2.1 s3.1 o4 o6 s3
    · exact l04Node_e p 17 (.inr (⟨rfl, by decide⟩)) at_ n s kids pats s2.1 s3.1 o4 o6 s3
    · exact l04Node_f p 18 (.inl ⟨rfl, by decide⟩) at_ n s kids pats s2.1 s3.1 o4 o6 s3
    · exact l04Node_f p 19 (.inr (⟨rfl, by decide⟩)) at_ n s kids pats s2.1 s3.1 o4 o6 s3
theorem headM {p : MProgram} (h : ((p.nodes.length : Int) < 1 ∨ 600 < (p.nodes.length : Int)) ∨ 8 < (p.types.length : Int)) : progM p = false := by
  unfold progM
  rcases h with (h | h) | h
  · rw [decide_eq_false (by omega : ¬ 1 ≤ p.nodes.length)]; rfl
  · rw [decide_eq_false (by omega : ¬ p.nodes.length ≤ 600)]; simp
  · rw [decide_eq_false (by omega : ¬ p.types.length ≤ 8)]; simp
theorem headM_ok {p : MProgram} (h : (1 ≤ (p.nodes.length : Int) ∧ (p.nodes.length : Int) ≤ 600) ∧ (p.types.length : Int) ≤ 8) : progM p = (p.types.all typeM && p.nodes.all (nodeM p.nodes) && orderM (kidsN p.nodes)) := by
  unfold progM
  rw [decide_eq_true (by omega : 1 ≤ p.nodes.length), decide_eq_true (by omega : p.nodes.length ≤ 600), decide_eq_true (by omega : p.types.length ≤ 8)]
  rfl
theorem typeS_bad {t : MType} (h : (((nameM t.name = false ∨ t.params < 0) ∨ 2 < t.params) ∨ (t.cons.length : Int) < 1) ∨ 8 < (t.cons.length : Int)) : typeM t = false := typeM_bad (by
  rcases h with (((h | h) | h) | h) | h
  · exact .inl (.inl h)
  · exact .inl (.inr (.inl h))
  · exact .inl (.inr (.inr h))
  · exact .inr (.inl h)
  · exact .inr (.inr h))
theorem typeS_ok {t : MType} (h : (((nameM t.name = true ∧ 0 ≤ t.params) ∧ t.params ≤ 2) ∧ 1 ≤ (t.cons.length : Int)) ∧ (t.cons.length : Int) ≤ 8) : typeM t = t.cons.all (conOkM t.params) := typeM_ok ⟨⟨h.1.1.1.1, h.1.1.1.2, h.1.1.2⟩, h.1.2, h.2⟩
theorem c_specProgramOk (p : MProgram) (ho : p.ok) (hs : p.sm) : FCon Tryz.prog 15 [.ag p.enc] (fun r _ => r = .s (.bool (progM p))) := by
  obtain ⟨o1, o2⟩ := ho
  obtain ⟨s1, s2⟩ := hs
  have hln := s2.1
  have hlt := s1.1
  have hkl : ∀ x ∈ p.nodes, x.kids.length ≤ 1000000000 := fun x hx => by have := (s2.2 x hx).2.1.1; omega
  refine FCon.intro PM _ Tryz.func15 (by kernel_rfl) rfl _ Tryz.ntmps15 rfl [(21, 5, [], [], (lin [] [0, 1, 2, 3, 4]))] (by decide +kernel) (by simp) (by simp) rfl (by first | rfl | simp only [go_sem]) ?_
  (have hWf := WFx.mk @MProgram.enc_eq; repeat' (first | refine zS ?_ | exact zE | with_reducible apply And.intro | with_reducible exact zB0 | with_reducible refine zB fun hb => ?_ | exact zC | refine zT ?_ | fail))
  · rw [headM hb]
  · rw [headM_ok hb]
    refine AC_loop (fun n σ => ∃ k : Nat, k ≤ p.types.length ∧ n = p.types.length - k ∧ σ.t 1 = .bx 1 0 ∧ σ.b 1 = some (.box [.sl 3 (p.types.map MType.enc), .sl 6 (p.nodes.map MNode.enc)]) ∧ σ.t 26 = .sl 3 (p.types.map MType.enc) ∧ σ.t 27 = .s (.int .i64 p.types.length) ∧ σ.t 28 = .s (.int .i64 k) ∧ ∀ x ∈ p.types.take k, typeM x = true) p.types.length ⟨0, by omega, by omega, ?_⟩ ?_
    · simp only [go_sem, simprocAttr, MProgram.enc_eq, Int.natCast_succ, Int.natCast_zero]
      all_goals simp
    · rintro n σ ⟨k, hk, rfl, h1, hb1, h26, h27, h28, hno⟩ K' hK
      by_cases hlk : k < p.types.length
      · have hx := getD_map MType.enc p.types k hlk
        have he := MType.enc_eq p.types[k]
        have hok := o1 _ (List.getElem_mem hlk)
        have hsm := s1.2 _ (List.getElem_mem hlk)
        have hcl := hsm.2.1
        (have hWf := WFx.mk (ai @h1 <| ai @hb1 <| ai @h26 <| ai @h27 <| ai @h28 <| ai @hx <| @he); repeat' (first | refine zS ?_ | exact zE | with_reducible apply And.intro | refine zK (c_specNameOk p.types[k].name hok.1) ?_ | with_reducible exact zB0 | with_reducible refine zB fun hb => ?_ | exact zC | refine zT ?_ | fail))
        · rw [all_bad hlk (typeS_bad hb)]; rfl
        · have hto := typeS_ok hb
          refine AC_loop (fun n σ => ∃ j : Nat, j ≤ p.types[k].cons.length ∧ n = p.types[k].cons.length - j ∧ σ.t 1 = .bx 1 0 ∧ σ.b 1 = some (.box [.sl 3 (p.types.map MType.enc), .sl 6 (p.nodes.map MNode.enc)]) ∧ σ.t 26 = .sl 3 (p.types.map MType.enc) ∧ σ.t 27 = .s (.int .i64 p.types.length) ∧ σ.t 28 = .s (.int .i64 k) ∧
            σ.t 4 = .bx 4 0 ∧ σ.b 4 = some (.box [.s (.string p.types[k].name), .s (.int .i64 p.types[k].params), .sl 3 (p.types[k].cons.map MCon.enc)]) ∧ σ.t 59 = .sl 3 (p.types[k].cons.map MCon.enc) ∧ σ.t 60 = .s (.int .i64 p.types[k].cons.length) ∧ σ.t 61 = .s (.int .i64 j) ∧ ∀ c ∈ p.types[k].cons.take j, conOkM p.types[k].params c = true) p.types[k].cons.length ⟨0, by omega, by omega, ?_⟩ ?_
          · simp only [go_sem, simprocAttr, h1, hb1, h26, h27, h28, Int.natCast_succ, Int.natCast_zero]
            all_goals simp
          · rintro n σ ⟨j, hj, rfl, g1, gb1, g26, g27, g28, g4, gb4, g59, g60, g61, hno2⟩ K'' hK''
            by_cases hlj : j < p.types[k].cons.length
            · have gx := getD_map MCon.enc p.types[k].cons j hlj
              have ge := MCon.enc_eq p.types[k].cons[j]
              have hcn := c_l04Con p.types[k].cons[j] p.types[k].params (hok.2.2 _ (List.getElem_mem hlj)) (hsm.2.2 _ (List.getElem_mem hlj))
              rw [ge] at hcn
              cases hq : conOkM p.types[k].params p.types[k].cons[j] with
              | false =>
                rw [hq] at hcn
                (have hWf := WFx.mk (ai @g1 <| ai @gb1 <| ai @g26 <| ai @g27 <| ai @g28 <| ai @g4 <| ai @gb4 <| ai @g59 <| ai @g60 <| ai @g61 <| ai @gx <| @ge); repeat' (first | refine zS ?_ | exact zE | with_reducible apply And.intro | refine zK (hcn) ?_ | with_reducible exact zB0 | with_reducible refine zB fun hb => ?_ | exact zC | refine zT ?_ | fail))
                rw [all_bad hlk (by rw [hto]; exact all_bad hlj hq)]; rfl
              | true =>
                rw [hq] at hcn
                (have hWf := WFx.mk (ai @g1 <| ai @gb1 <| ai @g26 <| ai @g27 <| ai @g28 <| ai @g4 <| ai @gb4 <| ai @g59 <| ai @g60 <| ai @g61 <| ai @gx <| @ge); repeat' (first | refine zS ?_ | exact zE | with_reducible apply And.intro | refine zK (hcn) ?_ | with_reducible exact zB0 | with_reducible refine zB fun hb => ?_ | exact zC | refine zT ?_ | fail))
                refine hK'' (p.types[k].cons.length - (j + 1)) _ (by omega) ⟨j + 1, by omega, rfl, ?_⟩
                simp only [go_sem, simprocAttr, g1, gb1, g26, g27, g28, g4, gb4, g59, g60, Int.natCast_succ]
                exact take_more hlj hno2 hq
            · obtain rfl : j = p.types[k].cons.length := by omega
              (have hWf := WFx.mk (ai @g1 <| ai @gb1 <| ai @g26 <| ai @g27 <| ai @g28 <| ai @g59 <| ai @g60 <| @g61); repeat' (first | refine zS ?_ | exact zE | with_reducible apply And.intro | with_reducible exact zB0 | with_reducible refine zB fun hb => ?_ | exact zC | refine zT ?_ | fail))
              refine hK (p.types.length - (k + 1)) _ (by omega) ⟨k + 1, by omega, rfl, ?_⟩
              simp only [go_sem, simprocAttr, g1, gb1, g26, g27, g28, Int.natCast_succ, Int.natCast_zero]
              exact take_more hlk hno (by rw [hto]; exact all_good hno2)
      · obtain rfl : k = p.types.length := by omega
        have hty := all_good hno
        rw [hty, Bool.true_and]
        clear hK
        (have hWf := WFx.mk (ai @h1 <| ai @hb1 <| ai @h26 <| ai @h27 <| @h28); repeat' (first | refine zS ?_ | exact zE | with_reducible apply And.intro | with_reducible exact zB0 | with_reducible refine zB fun hb => ?_ | exact zC | refine zT ?_ | fail))
        refine AC_loop (fun n σ => ∃ k : Nat, k ≤ p.nodes.length ∧ n = p.nodes.length - k ∧ σ.t 1 = .bx 1 0 ∧ σ.b 1 = some (.box [.sl 3 (p.types.map MType.enc), .sl 6 (p.nodes.map MNode.enc)]) ∧ σ.t 73 = .sl 6 (p.nodes.map MNode.enc) ∧ σ.t 74 = .s (.int .i64 p.nodes.length) ∧ σ.t 75 = .s (.int .i64 k) ∧ ∀ x ∈ p.nodes.take k, nodeM p.nodes x = true) p.nodes.length ⟨0, by omega, by omega, ?_⟩ ?_
        · simp only [go_sem, simprocAttr, h1, hb1, Int.natCast_succ, Int.natCast_zero]
          all_goals simp
        · rintro n σ ⟨k, hk, rfl, g1, gb1, g73, g74, g75, hno2⟩ K'' hK''
          by_cases hlj : k < p.nodes.length
          · have gx := getD_map MNode.enc p.nodes k hlj
            have ge := MNode.enc_eq p.nodes[k]
            have hcn := c_l04Node p p.nodes[k] (o2 _ (List.getElem_mem hlj)) (s2.2 _ (List.getElem_mem hlj))
            rw [ge, MProgram.enc_eq] at hcn
            cases hq : nodeM p.nodes p.nodes[k] with
            | false =>
              rw [hq] at hcn
              (have hWf := WFx.mk (ai @g1 <| ai @gb1 <| ai @g73 <| ai @g74 <| ai @g75 <| ai @gx <| @ge); repeat' (first | refine zS ?_ | exact zE | with_reducible apply And.intro | refine zK (hcn) ?_ | with_reducible exact zB0 | with_reducible refine zB fun hb => ?_ | exact zC | refine zT ?_ | fail))
              rw [all_bad hlj hq]; rfl
            | true =>
              rw [hq] at hcn
              (have hWf := WFx.mk (ai @g1 <| ai @gb1 <| ai @g73 <| ai @g74 <| ai @g75 <| ai @gx <| @ge); repeat' (first | refine zS ?_ | exact zE | with_reducible apply And.intro | refine zK (hcn) ?_ | with_reducible exact zB0 | with_reducible refine zB fun hb => ?_ | exact zC | refine zT ?_ | fail))
              refine hK'' (p.nodes.length - (k + 1)) _ (by omega) ⟨k + 1, by omega, rfl, ?_⟩
              simp only [go_sem, simprocAttr, g1, gb1, g73, g74, Int.natCast_succ]
              exact take_more hlj hno2 hq
          · obtain rfl : k = p.nodes.length := by omega
            rw [all_good hno2, Bool.true_and]
            have hcc := c_l04NEnd p o2 (by omega) hkl p.nodes.length 0 (by omega) (by omega)
            have hor : orderM (kidsN p.nodes) = (endZ (pEnd (kidsN p.nodes) p.nodes.length 0) == (p.nodes.length : Int)) := by
              rw [endZ_len]
              unfold orderM
              rw [show (kidsN p.nodes).length = p.nodes.length by simp]
            have hcc : FCon Tryz.prog 50 [.ag [.sl 3 (p.types.map MType.enc), .sl 6 (p.nodes.map MNode.enc)], .s (.int .i64 0)] (fun r _ => r = .s (.int .i64 (endZ (pEnd (kidsN p.nodes) p.nodes.length 0)))) := hcc
            (have hWf := WFx.mk (ai @g1 <| ai @gb1 <| ai @g73 <| ai @g74 <| @g75); repeat' (first | refine zS ?_ | exact zE | with_reducible apply And.intro | refine zK (hcc) ?_ | with_reducible exact zB0 | with_reducible refine zB fun hb => ?_ | exact zC | refine zT ?_ | fail))
            rw [hor]
end Go.Proofs.YtgcdbmcoendcdaaGreat
