import Derived.Test.YthkgncddilkmbaaHIOkS
import Derived.Test.YthkgncddilkmbaaHFidx
/- CodeOk of both sides, over the second engine. -/
namespace Go.Proofs.Ythkgncddilkmbaa
set_option linter.unusedVariables false
set_option linter.unusedSimpArgs false
open Go.RowKit
set_option maxRecDepth 100000 in
theorem c_IndexFunc_Pat (xs : List MPat) (f : FuncId) (caps : List D) (hm : PM.md f = []) (p : MPat → Bool) (hf : ∀ x ∈ xs, FCon Try.prog f (.ag x.enc :: caps) (fun r _ => r = .s (.bool (p x)))) :
    FCon Try.prog 54 [.sl 1 (xs.map MPat.enc), .fn f caps] (fun r _ => r = .s (.int .i64 (fidx p xs))) := by
  refine FCon.intro PM _ Try.func54 (by kernel_rfl) rfl _ Try.ntmps54 rfl [] (by decide +kernel) (by simp) (by simp) rfl (by first | rfl | simp only [go_sem]) ?_
  refine AC_len 0 rfl trivial fun hlen => ?_
  simp only [List.length_map] at hlen
  (have hWf := f0; repeat' (first | refine zS ?_ | exact zE | with_reducible apply And.intro | ((with_reducible intro hb0); revert hb0; with_reducible first | exact zB0 | refine zB fun hb => ?_ | fail) | ((with_reducible apply q_Meet); exact zM) | exact zC | refine zT ?_ | fail))
  refine AC_loop (fun n σ => ∃ k : Nat, k ≤ xs.length ∧ n = xs.length - k ∧ σ.t 0 = .sl 1 (xs.map MPat.enc) ∧ σ.t 1 = .fn f caps ∧ σ.t 7 = .s (.int .i64 xs.length) ∧ σ.t 8 = .s (.int .i64 k) ∧ ∀ x ∈ xs.take k, p x = false) xs.length ⟨0, by omega, by omega, ?_⟩ ?_
  · simp only [go_sem, simprocAttr, Int.natCast_zero]
    all_goals simp
  · rintro n σ ⟨k, hk, rfl, h0, h1, h7, h8, hno⟩ K' hK
    by_cases hlt : k < xs.length
    · have hx := getD_map MPat.enc xs k hlt
      have he := MPat.enc_eq xs[k]
      have hc := hf xs[k] (List.getElem_mem hlt)
      rw [he] at hc
      cases hp : p xs[k] with
      | true =>
        rw [hp] at hc
        (have hWf := WFx.mk (And.intro @h0 <| And.intro @h1 <| And.intro @h7 <| And.intro @h8 <| And.intro @hx <| And.intro @he <| @hm); repeat' (first | refine zS ?_ | exact zE | with_reducible apply And.intro | refine zK (hc) ?_ | ((with_reducible intro hb0); revert hb0; with_reducible first | exact zB0 | refine zB fun hb => ?_ | fail) | ((with_reducible apply q_Meet); exact zM) | exact zC | refine zT ?_ | fail))
        all_goals exact sI_congr (fidx_at p xs k hlt hno hp).symm
      | false =>
        rw [hp] at hc
        (have hWf := WFx.mk (And.intro @h0 <| And.intro @h1 <| And.intro @h7 <| And.intro @h8 <| And.intro @hx <| And.intro @he <| @hm); repeat' (first | refine zS ?_ | exact zE | with_reducible apply And.intro | refine zK (hc) ?_ | ((with_reducible intro hb0); revert hb0; with_reducible first | exact zB0 | refine zB fun hb => ?_ | fail) | ((with_reducible apply q_Meet); exact zM) | exact zC | refine zT ?_ | fail))
        refine hK (xs.length - (k + 1)) _ (by omega) ⟨k + 1, by omega, rfl, ?_⟩
        simp only [go_sem, simprocAttr, h0, h1, h7, Int.natCast_succ]
        exact take_no hlt hno hp
    · obtain rfl : k = xs.length := by omega
      (have hWf := WFx.mk (And.intro @h0 <| And.intro @h1 <| And.intro @h7 <| @h8); repeat' (first | refine zS ?_ | exact zE | with_reducible apply And.intro | ((with_reducible intro hb0); revert hb0; with_reducible first | exact zB0 | refine zB fun hb => ?_ | fail) | ((with_reducible apply q_Meet); exact zM) | exact zC | refine zT ?_ | fail))
      exact sI_congr (fidx_no p xs (by simpa using hno)).symm
set_option maxRecDepth 100000 in
theorem c_ContainsFunc_Pat (xs : List MPat) (f : FuncId) (caps : List D) (hm : PM.md f = []) (p : MPat → Bool) (hf : ∀ x ∈ xs, FCon Try.prog f (.ag x.enc :: caps) (fun r _ => r = .s (.bool (p x)))) :
    FCon Try.prog 36 [.sl 1 (xs.map MPat.enc), .fn f caps] (fun r _ => r = .s (.bool (xs.any p))) := by
  refine FCon.intro PM _ Try.func36 (by kernel_rfl) rfl _ Try.ntmps36 rfl [] (by decide +kernel) (by simp) (by simp) rfl (by first | rfl | simp only [go_sem]) ?_
  (have hWf := f0; repeat' (first | refine zS ?_ | exact zE | with_reducible apply And.intro | refine zK (c_IndexFunc_Pat xs f caps hm p hf) ?_ | ((with_reducible intro hb0); revert hb0; with_reducible first | exact zB0 | refine zB fun hb => ?_ | fail) | ((with_reducible apply q_Meet); exact zM) | exact zC | refine zT ?_ | fail))
  exact sB (fidx_any p xs)
set_option maxRecDepth 100000 in
theorem c_IndexFunc_Ins (xs : List MIns) (f : FuncId) (caps : List D) (hm : PM.md f = []) (p : MIns → Bool) (hf : ∀ x ∈ xs, FCon Try.prog f (.ag x.enc :: caps) (fun r _ => r = .s (.bool (p x)))) :
    FCon Try.prog 59 [.sl 4 (xs.map MIns.enc), .fn f caps] (fun r _ => r = .s (.int .i64 (fidx p xs))) := by
  refine FCon.intro PM _ Try.func59 (by kernel_rfl) rfl _ Try.ntmps59 rfl [] (by decide +kernel) (by simp) (by simp) rfl (by first | rfl | simp only [go_sem]) ?_
  refine AC_len 0 rfl trivial fun hlen => ?_
  simp only [List.length_map] at hlen
  (have hWf := f0; repeat' (first | refine zS ?_ | exact zE | with_reducible apply And.intro | ((with_reducible intro hb0); revert hb0; with_reducible first | exact zB0 | refine zB fun hb => ?_ | fail) | ((with_reducible apply q_Meet); exact zM) | exact zC | refine zT ?_ | fail))
  refine AC_loop (fun n σ => ∃ k : Nat, k ≤ xs.length ∧ n = xs.length - k ∧ σ.t 0 = .sl 4 (xs.map MIns.enc) ∧ σ.t 1 = .fn f caps ∧ σ.t 7 = .s (.int .i64 xs.length) ∧ σ.t 8 = .s (.int .i64 k) ∧ ∀ x ∈ xs.take k, p x = false) xs.length ⟨0, by omega, by omega, ?_⟩ ?_
  · simp only [go_sem, simprocAttr, Int.natCast_zero]
    all_goals simp
  · rintro n σ ⟨k, hk, rfl, h0, h1, h7, h8, hno⟩ K' hK
    by_cases hlt : k < xs.length
    · have hx := getD_map MIns.enc xs k hlt
      have he := MIns.enc_eq xs[k]
      have hc := hf xs[k] (List.getElem_mem hlt)
      rw [he] at hc
      cases hp : p xs[k] with
      | true =>
        rw [hp] at hc
        (have hWf := WFx.mk (And.intro @h0 <| And.intro @h1 <| And.intro @h7 <| And.intro @h8 <| And.intro @hx <| And.intro @he <| @hm); repeat' (first | refine zS ?_ | exact zE | with_reducible apply And.intro | refine zK (hc) ?_ | ((with_reducible intro hb0); revert hb0; with_reducible first | exact zB0 | refine zB fun hb => ?_ | fail) | ((with_reducible apply q_Meet); exact zM) | exact zC | refine zT ?_ | fail))
        all_goals exact sI_congr (fidx_at p xs k hlt hno hp).symm
      | false =>
        rw [hp] at hc
        (have hWf := WFx.mk (And.intro @h0 <| And.intro @h1 <| And.intro @h7 <| And.intro @h8 <| And.intro @hx <| And.intro @he <| @hm); repeat' (first | refine zS ?_ | exact zE | with_reducible apply And.intro | refine zK (hc) ?_ | ((with_reducible intro hb0); revert hb0; with_reducible first | exact zB0 | refine zB fun hb => ?_ | fail) | ((with_reducible apply q_Meet); exact zM) | exact zC | refine zT ?_ | fail))
        refine hK (xs.length - (k + 1)) _ (by omega) ⟨k + 1, by omega, rfl, ?_⟩
        simp only [go_sem, simprocAttr, h0, h1, h7, Int.natCast_succ]
        exact take_no hlt hno hp
    · obtain rfl : k = xs.length := by omega
      (have hWf := WFx.mk (And.intro @h0 <| And.intro @h1 <| And.intro @h7 <| @h8); repeat' (first | refine zS ?_ | exact zE | with_reducible apply And.intro | ((with_reducible intro hb0); revert hb0; with_reducible first | exact zB0 | refine zB fun hb => ?_ | fail) | ((with_reducible apply q_Meet); exact zM) | exact zC | refine zT ?_ | fail))
      exact sI_congr (fidx_no p xs (by simpa using hno)).symm
set_option maxRecDepth 100000 in
theorem c_ContainsFunc_Ins (xs : List MIns) (f : FuncId) (caps : List D) (hm : PM.md f = []) (p : MIns → Bool) (hf : ∀ x ∈ xs, FCon Try.prog f (.ag x.enc :: caps) (fun r _ => r = .s (.bool (p x)))) :
    FCon Try.prog 39 [.sl 4 (xs.map MIns.enc), .fn f caps] (fun r _ => r = .s (.bool (xs.any p))) := by
  refine FCon.intro PM _ Try.func39 (by kernel_rfl) rfl _ Try.ntmps39 rfl [] (by decide +kernel) (by simp) (by simp) rfl (by first | rfl | simp only [go_sem]) ?_
  (have hWf := f0; repeat' (first | refine zS ?_ | exact zE | with_reducible apply And.intro | refine zK (c_IndexFunc_Ins xs f caps hm p hf) ?_ | ((with_reducible intro hb0); revert hb0; with_reducible first | exact zB0 | refine zB fun hb => ?_ | fail) | ((with_reducible apply q_Meet); exact zM) | exact zC | refine zT ?_ | fail))
  exact sB (fidx_any p xs)
theorem c_codeOk1 (q : MPat) (ho : q.ok) (hs : q.sm) : FCon Try.prog 37 [.ag q.enc] (fun r _ => r = .s (.bool (!patM q.nodes))) := by
  refine FCon.intro PM _ Try.func37 (by kernel_rfl) rfl _ Try.ntmps37 rfl [] (by decide +kernel) (by simp) (by simp) rfl (by first | rfl | simp only [go_sem]) ?_
  (have hWf := WFx.mk @MPat.enc_eq; repeat' (first | refine zS ?_ | exact zE | with_reducible apply And.intro | refine zK (c_implPatOk q.nodes ho hs) ?_ | ((with_reducible intro hb0); revert hb0; with_reducible first | exact zB0 | refine zB fun hb => ?_ | fail) | ((with_reducible apply q_Meet); exact zM) | exact zC | refine zT ?_ | fail))
theorem c_codeOk2 (c : MCode) (x : MIns) (hx : x.ok) (hn : c.ins.length ≤ 1048576) (hm : c.pats.length ≤ 1048576) : FCon Try.prog 40 [.ag x.enc, .pt c.enc] (fun r _ => r = .s (.bool (!insM c.ins.length c.pats.length x))) := by
  have h := c_insOk c x hx hn hm
  rw [MCode.enc_eq, MIns.enc_eq] at h
  refine FCon.intro PM _ Try.func40 (by kernel_rfl) rfl _ Try.ntmps40 rfl [] (by decide +kernel) (by simp) (by simp) rfl (by first | rfl | simp only [go_sem]) ?_
  (have hWf := WFx.mk (And.intro @MCode.enc_eq <| @MIns.enc_eq); repeat' (first | refine zS ?_ | exact zE | with_reducible apply And.intro | refine zK (h) ?_ | ((with_reducible intro hb0); revert hb0; with_reducible first | exact zB0 | refine zB fun hb => ?_ | fail) | ((with_reducible apply q_Meet); exact zM) | exact zC | refine zT ?_ | fail))
theorem codeM_len {c : MCode} (h : (c.ins.length : Int) < 1 ∨ 3000 < (c.ins.length : Int)) : codeM c = false := by
  unfold codeM
  rcases h with h | h
  · rw [decide_eq_false (by omega : ¬ 1 ≤ c.ins.length)]; rfl
  · rw [decide_eq_false (by omega : ¬ c.ins.length ≤ 3000)]; simp
theorem codeM_pat {c : MCode} (h : (c.pats.all fun q => patM q.nodes) = false) : codeM c = false := by unfold codeM; rw [h]; simp
theorem codeM_ok {c : MCode} (h1 : 1 ≤ (c.ins.length : Int)) (h2 : (c.ins.length : Int) ≤ 3000) (h : (c.pats.all fun q => patM q.nodes) = true) : codeM c = c.ins.all (insM c.ins.length c.pats.length) := by
  unfold codeM
  rw [h, decide_eq_true (by omega : 1 ≤ c.ins.length), decide_eq_true (by omega : c.ins.length ≤ 3000)]; rfl
set_option maxRecDepth 100000 in
set_option maxHeartbeats 4000000 in
theorem c_implCodeOk (c : MCode) (ho : c.ok) (hs : c.sm) : FCon Try.prog 17 [.ag c.enc] (fun r _ => r = .s (.bool (codeM c))) := by
  obtain ⟨o1, o2⟩ := ho
  obtain ⟨s1, s2⟩ := hs
  have hn := s1.1
  have hm := s2.1
  have hP := c_ContainsFunc_Pat c.pats 37 [] rfl (fun q => !patM q.nodes) (fun q hq => c_codeOk1 q (o2 q hq) (s2.2 q hq))
  have hI := c_ContainsFunc_Ins c.ins 40 [.pt c.enc] rfl (fun x => !insM c.ins.length c.pats.length x) (fun x hx => c_codeOk2 c x (o1 x hx) hn hm)
  rw [MCode.enc_eq] at hI
  have hna : (c.pats.all fun q => patM q.nodes) = !c.pats.any fun q => !patM q.nodes := by rw [List.not_any_eq_all_not]; simp
  have hnb : c.ins.all (insM c.ins.length c.pats.length) = !c.ins.any fun x => !insM c.ins.length c.pats.length x := by rw [List.not_any_eq_all_not]; simp
  refine FCon.intro PM _ Try.func17 (by kernel_rfl) rfl _ Try.ntmps17 rfl [] (by decide +kernel) (by simp) (by simp) rfl (by first | rfl | simp only [go_sem]) ?_
  (refine AC_go ?_; simp only [go_sem, simprocAttr, MCode.enc_eq]; (have hWf := WFx.mk @MCode.enc_eq; repeat' (first | refine zY ?_ | with_reducible apply And.intro | ((with_reducible intro hb0); revert hb0; with_reducible first | exact zB0 | refine zB fun hb => ?_ | fail) | ((with_reducible apply q_Meet); exact zM) | exact zC | refine zT ?_ | fail)))
  refine AC_fr 1 (.box [.sl 4 (c.ins.map MIns.enc), .sl 1 (c.pats.map MPat.enc)]) (by simp only [go_sem, simprocAttr, MCode.enc_eq]) rfl ?_
  cases hq : (c.pats.any fun q => !patM q.nodes) with
  | true =>
    rw [hq] at hP hna
    rw [codeM_pat hna]
    (have hWf := WFx.mk @MCode.enc_eq; repeat' (first | refine zS ?_ | exact zE | with_reducible apply And.intro | refine zK (c_within c.ins.length 1 3000) ?_ | refine zK (hP) ?_ | ((with_reducible intro hb0); revert hb0; with_reducible first | exact zB0 | refine zB fun hb => ?_ | fail) | ((with_reducible apply q_Meet); exact zM) | exact zC | refine zT ?_ | fail))
  | false =>
    rw [hq] at hP hna
    by_cases hl : 1 ≤ (c.ins.length : Int) ∧ (c.ins.length : Int) ≤ 3000
    · rw [codeM_ok hl.1 hl.2 hna, hnb]
      (have hWf := WFx.mk @MCode.enc_eq; repeat' (first | refine zS ?_ | exact zE | with_reducible apply And.intro | refine zK (c_within c.ins.length 1 3000) ?_ | refine zK (hP) ?_ | refine zK (hI) ?_ | ((with_reducible intro hb0); revert hb0; with_reducible first | exact zB0 | refine zB fun hb => ?_ | fail) | ((with_reducible apply q_Meet); exact zM) | exact zC | refine zT ?_ | fail))
    · rw [codeM_len (by omega)]
      have hw : (decide (1 ≤ (c.ins.length : Int)) && decide ((c.ins.length : Int) ≤ 3000)) = false := by
        rw [Bool.and_eq_false_iff, decide_eq_false_iff_not, decide_eq_false_iff_not]; omega
      (have hWf := WFx.mk (And.intro @MCode.enc_eq <| @hw); repeat' (first | refine zS ?_ | exact zE | with_reducible apply And.intro | refine zK (c_within c.ins.length 1 3000) ?_ | refine zK (hP) ?_ | ((with_reducible intro hb0); revert hb0; with_reducible first | exact zB0 | refine zB fun hb => ?_ | fail) | ((with_reducible apply q_Meet); exact zM) | exact zC | refine zT ?_ | fail))
set_option maxRecDepth 100000 in
set_option maxHeartbeats 4000000 in
theorem c_specCodeOk (c : MCode) (ho : c.ok) (hs : c.sm) : FCon Try.prog 11 [.ag c.enc] (fun r _ => r = .s (.bool (codeM c))) := by
  obtain ⟨o1, o2⟩ := ho
  obtain ⟨s1, s2⟩ := hs
  have hn := s1.1
  have hm := s2.1
  by_cases hl : 1 ≤ (c.ins.length : Int) ∧ (c.ins.length : Int) ≤ 3000
  · obtain ⟨hl1, hl2⟩ := hl
    refine FCon.intro PM _ Try.func11 (by kernel_rfl) rfl _ Try.ntmps11 rfl [] (by decide +kernel) (by simp) (by simp) rfl (by first | rfl | simp only [go_sem]) ?_
    (have hWf := WFx.mk @MCode.enc_eq; repeat' (first | refine zS ?_ | exact zE | with_reducible apply And.intro | ((with_reducible intro hb0); revert hb0; with_reducible first | exact zB0 | refine zB fun hb => ?_ | fail) | ((with_reducible apply q_Meet); exact zM) | exact zC | refine zT ?_ | fail))
    refine AC_loop (fun n σ => ∃ k : Nat, k ≤ c.pats.length ∧ n = c.pats.length - k ∧ σ.t 1 = .bx 1 0 ∧ σ.b 1 = some (.box [.sl 4 (c.ins.map MIns.enc), .sl 1 (c.pats.map MPat.enc)]) ∧ σ.t 18 = .sl 1 (c.pats.map MPat.enc) ∧ σ.t 19 = .s (.int .i64 c.pats.length) ∧ σ.t 20 = .s (.int .i64 k) ∧ ∀ q ∈ c.pats.take k, patM q.nodes = true) c.pats.length ⟨0, by omega, by omega, ?_⟩ ?_
    · simp only [go_sem, simprocAttr, MCode.enc_eq, Int.natCast_zero]
      all_goals simp
    · rintro n σ ⟨k, hk, rfl, h1, hb1, h18, h19, h20, hno⟩ K' hK
      by_cases hlt : k < c.pats.length
      · have hx := getD_map MPat.enc c.pats k hlt
        have he := MPat.enc_eq c.pats[k]
        have hpc := c_specPatOk c.pats[k].nodes (o2 _ (List.getElem_mem hlt)) (s2.2 _ (List.getElem_mem hlt))
        cases hpm : patM c.pats[k].nodes with
        | false =>
          rw [hpm] at hpc
          (have hWf := WFx.mk (And.intro @h1 <| And.intro @hb1 <| And.intro @h18 <| And.intro @h19 <| And.intro @h20 <| And.intro @hx <| @he); repeat' (first | refine zS ?_ | exact zE | with_reducible apply And.intro | refine zK (hpc) ?_ | ((with_reducible intro hb0); revert hb0; with_reducible first | exact zB0 | refine zB fun hb => ?_ | fail) | ((with_reducible apply q_Meet); exact zM) | exact zC | refine zT ?_ | fail))
          exact sB (codeM_pat (all_bad (p := fun q : MPat => patM q.nodes) hlt hpm)).symm
        | true =>
          rw [hpm] at hpc
          (have hWf := WFx.mk (And.intro @h1 <| And.intro @hb1 <| And.intro @h18 <| And.intro @h19 <| And.intro @h20 <| And.intro @hx <| @he); repeat' (first | refine zS ?_ | exact zE | with_reducible apply And.intro | refine zK (hpc) ?_ | ((with_reducible intro hb0); revert hb0; with_reducible first | exact zB0 | refine zB fun hb => ?_ | fail) | ((with_reducible apply q_Meet); exact zM) | exact zC | refine zT ?_ | fail))
          refine hK (c.pats.length - (k + 1)) _ (by omega) ⟨k + 1, by omega, rfl, ?_⟩
          simp only [go_sem, simprocAttr, h1, hb1, h18, h19, Int.natCast_succ]
          exact take_more hlt hno hpm
      · obtain rfl : k = c.pats.length := by omega
        have hpa := all_good (p := fun q : MPat => patM q.nodes) hno
        rw [codeM_ok hl1 hl2 hpa]
        clear hK
        (have hWf := WFx.mk (And.intro @h1 <| And.intro @hb1 <| And.intro @h18 <| And.intro @h19 <| @h20); repeat' (first | refine zS ?_ | exact zE | with_reducible apply And.intro | ((with_reducible intro hb0); revert hb0; with_reducible first | exact zB0 | refine zB fun hb => ?_ | fail) | ((with_reducible apply q_Meet); exact zM) | exact zC | refine zT ?_ | fail))
        refine AC_loop (fun n σ => ∃ k : Nat, k ≤ c.ins.length ∧ n = c.ins.length - k ∧ σ.t 1 = .bx 1 0 ∧ σ.b 1 = some (.box [.sl 4 (c.ins.map MIns.enc), .sl 1 (c.pats.map MPat.enc)]) ∧ σ.t 29 = .sl 4 (c.ins.map MIns.enc) ∧ σ.t 30 = .s (.int .i64 c.ins.length) ∧ σ.t 31 = .s (.int .i64 k) ∧ ∀ x ∈ c.ins.take k, insM c.ins.length c.pats.length x = true) c.ins.length ⟨0, by omega, by omega, ?_⟩ ?_
        · simp only [go_sem, simprocAttr, h1, hb1, Int.natCast_zero]
          all_goals simp
        · rintro n σ ⟨k, hk, rfl, g1, gb1, g29, g30, g31, hno2⟩ K'' hK
          by_cases hlt : k < c.ins.length
          · have hx := getD_map MIns.enc c.ins k hlt
            have he := MIns.enc_eq c.ins[k]
            have hic := c_l10InsOk c c.ins[k] (o1 _ (List.getElem_mem hlt)) hn hm
            rw [MCode.enc_eq, he] at hic
            cases him : insM c.ins.length c.pats.length c.ins[k] with
            | false =>
              rw [him] at hic
              (have hWf := WFx.mk (And.intro @g1 <| And.intro @gb1 <| And.intro @g29 <| And.intro @g30 <| And.intro @g31 <| And.intro @hx <| @he); repeat' (first | refine zS ?_ | exact zE | with_reducible apply And.intro | refine zK (hic) ?_ | ((with_reducible intro hb0); revert hb0; with_reducible first | exact zB0 | refine zB fun hb => ?_ | fail) | ((with_reducible apply q_Meet); exact zM) | exact zC | refine zT ?_ | fail))
              exact sB (all_bad hlt him).symm
            | true =>
              rw [him] at hic
              (have hWf := WFx.mk (And.intro @g1 <| And.intro @gb1 <| And.intro @g29 <| And.intro @g30 <| And.intro @g31 <| And.intro @hx <| @he); repeat' (first | refine zS ?_ | exact zE | with_reducible apply And.intro | refine zK (hic) ?_ | ((with_reducible intro hb0); revert hb0; with_reducible first | exact zB0 | refine zB fun hb => ?_ | fail) | ((with_reducible apply q_Meet); exact zM) | exact zC | refine zT ?_ | fail))
              refine hK (c.ins.length - (k + 1)) _ (by omega) ⟨k + 1, by omega, rfl, ?_⟩
              simp only [go_sem, simprocAttr, g1, gb1, g29, g30, Int.natCast_succ]
              exact take_more hlt hno2 him
          · obtain rfl : k = c.ins.length := by omega
            (have hWf := WFx.mk (And.intro @g1 <| And.intro @gb1 <| And.intro @g29 <| And.intro @g30 <| @g31); repeat' (first | refine zS ?_ | exact zE | with_reducible apply And.intro | ((with_reducible intro hb0); revert hb0; with_reducible first | exact zB0 | refine zB fun hb => ?_ | fail) | ((with_reducible apply q_Meet); exact zM) | exact zC | refine zT ?_ | fail))
            exact sB (all_good hno2).symm
  · rw [codeM_len (by omega)]
    refine FCon.intro PM _ Try.func11 (by kernel_rfl) rfl _ Try.ntmps11 rfl [] (by decide +kernel) (by simp) (by simp) rfl (by first | rfl | simp only [go_sem]) ?_
    by_cases q : (c.ins.length : Int) < 1
    · have e1 : decide ((c.ins.length : Int) < 1) = true := decide_eq_true q
      (have hWf := WFx.mk (And.intro @MCode.enc_eq <| @e1); repeat' (first | refine zS ?_ | exact zE | with_reducible apply And.intro | ((with_reducible intro hb0); revert hb0; with_reducible first | exact zB0 | refine zB fun hb => ?_ | fail) | ((with_reducible apply q_Meet); exact zM) | exact zC | refine zT ?_ | fail))
    · have e1 : decide ((c.ins.length : Int) < 1) = false := decide_eq_false q
      have e2 : decide ((c.ins.length : Int) > 3000) = true := decide_eq_true (by omega)
      (have hWf := WFx.mk (And.intro @MCode.enc_eq <| And.intro @e1 <| @e2); repeat' (first | refine zS ?_ | exact zE | with_reducible apply And.intro | ((with_reducible intro hb0); revert hb0; with_reducible first | exact zB0 | refine zB fun hb => ?_ | fail) | ((with_reducible apply q_Meet); exact zM) | exact zC | refine zT ?_ | fail))
end Go.Proofs.Ythkgncddilkmbaa
