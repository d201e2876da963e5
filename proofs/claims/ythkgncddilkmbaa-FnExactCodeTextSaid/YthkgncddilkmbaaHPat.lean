import Derived.Test.YthkgncddilkmbaaHPNode
/- Data Pat over the second engine: how they lie, own and lent; copies, sizes, comparisons, marks. Printed by gen2.py. -/
namespace Go.Proofs.Ythkgncddilkmbaa
set_option linter.unusedVariables false
set_option linter.unusedSimpArgs false
open Go.RowKit Go.ChangeShapes Go.WideShapes
structure MPat where
  nodes : List DPNode
def MPat.enc (x : MPat) : List D := [.sl 4 (x.nodes.map DPNode.enc)]
theorem MPat.enc_eq (x : MPat) : x.enc = [.sl 4 (x.nodes.map DPNode.enc)] := rfl
def MPat.own (x : MPat) : List D := [.osl 77 4 (x.nodes.map DPNode.own)]
theorem MPat.own_eq (x : MPat) : x.own = [.osl 77 4 (x.nodes.map DPNode.own)] := rfl
theorem MPat.frz_eq (x : MPat) : frzL x.own = x.enc := by
  simp only [MPat.own_eq, MPat.enc_eq, frzL, frz, frz_rows DPNode.frz_eq]
def MPat.ok (x : MPat) : Prop := (∀ y ∈ x.nodes, y.ok)
def MPat.sm (x : MPat) : Prop := smS DPNode.sm x.nodes
def MPat.cnt (x : MPat) : Nat := cnts DPNode.cnt x.nodes
def MPat.mark (k : Int) (x : MPat) : MPat := ⟨marks DPNode.cnt DPNode.mark k x.nodes⟩
theorem MPat.cnt_eq (x : MPat) : x.cnt = cnts DPNode.cnt x.nodes := rfl
theorem MPat.mark_eq (k : Int) (x : MPat) : MPat.mark k x = ⟨marks DPNode.cnt DPNode.mark k x.nodes⟩ := rfl
theorem MPat.pure (x : MPat) : ∀ d ∈ x.own, Pure d := by
  simp only [MPat.own_eq, List.forall_mem_cons, List.not_mem_nil, false_imp_iff, implies_true, and_true]
  exact pure_rows DPNode.pure _ _ _
theorem MPat.pureS (e k : Nat) (xs : List MPat) : Pure (.osl e k (xs.map MPat.own)) = True := eq_true (pure_rows MPat.pure e k xs)
attribute [go_sem] MPat.pureS
theorem MPat.frzS (xs : List MPat) : frzLL (xs.map MPat.own) = xs.map MPat.enc := frz_rows MPat.frz_eq xs
attribute [go_sem] MPat.frzS
set_option maxRecDepth 100000 in
set_option maxHeartbeats 1000000 in
theorem c_toPat (x : MPat) (hs : x.sm) : FCon Try.prog 34 [.ag x.enc] (fun r _ => r = .ag x.own) := by
  refine FCon.intro PM _ Try.func34 (by kernel_rfl) rfl _ Try.ntmps34 rfl [] (by decide +kernel) (by simp) (by simp) rfl (by first | rfl | simp only [go_sem]) ?_
  (have hWf := WFx.mk (And.intro @MPat.enc_eq <| @MPat.own_eq); repeat' (first | refine zS ?_ | exact zE | with_reducible apply And.intro | refine zK (c_toPNodeS x.nodes (hs)) ?_ | ((with_reducible intro hb0); revert hb0; with_reducible first | exact zB0 | refine zB fun hb => ?_ | fail) | ((with_reducible apply q_Meet); exact zM) | exact zC | refine zT ?_ | fail))
set_option maxRecDepth 100000 in
set_option maxHeartbeats 1000000 in
theorem c_toPatS (xs : List MPat) (hs : smS MPat.sm xs) : FCon Try.prog 16 [.sl 1 (xs.map MPat.enc)] (fun r _ => r = .osl 58 1 (xs.map MPat.own)) := by
  have hl := hs.1
  refine FCon.intro PM _ Try.func16 (by kernel_rfl) rfl _ Try.ntmps16 rfl [] (by decide +kernel) (by simp) (by simp) rfl (by first | rfl | simp only [go_sem]) ?_
  (have hWf := f0; repeat' (first | refine zS ?_ | exact zE | with_reducible apply And.intro | ((with_reducible intro hb0); revert hb0; with_reducible first | exact zB0 | refine zB fun hb => ?_ | fail) | ((with_reducible apply q_Meet); exact zM) | exact zC | refine zT ?_ | fail))
  refine AC_loop (fun n σ => ∃ k : Nat, k ≤ xs.length ∧ n = xs.length - k ∧ σ.t 0 = .sl 1 (xs.map MPat.enc) ∧ σ.t 3 = .bs 7 1 xs.length ∧ σ.t 4 = .s (.int .i64 k) ∧ σ.b 7 = some (.arr 58 1 (partR MPat.own [.nil] xs k))) xs.length ⟨0, by omega, by omega, ?_⟩ ?_
  · simp only [go_sem, simprocAttr, partR_zero, Int.natCast_zero]
  · rintro n σ ⟨k, hk, rfl, h0, h3, h4, h7⟩ K' hK
    by_cases hlt : k < xs.length
    · have hx := getD_map MPat.enc xs k hlt
      have he := MPat.enc_eq xs[k]
      have hpl := partR_len (f := MPat.own) (z := [.nil]) (Nat.le_of_lt hlt)
      have hg := partR_get (f := MPat.own) (z := [.nil]) hlt
      have hst := partR_set (f := MPat.own) (z := [.nil]) hlt
      rw [MPat.own_eq] at hst
      (have hWf := WFx.mk (And.intro @h0 <| And.intro @h3 <| And.intro @h4 <| And.intro @h7 <| And.intro @hx <| And.intro @he <| And.intro @MPat.own_eq <| And.intro @hpl <| And.intro @hg <| @hst); repeat' (first | refine zS ?_ | exact zE | with_reducible apply And.intro | ((with_reducible apply q_CallG); refine zG (c_toPat xs[k] (hs.2 _ (List.getElem_mem hlt))) ?_) | ((with_reducible apply q_CallQ); refine CallQ_mk (c_toPat xs[k] (hs.2 _ (List.getElem_mem hlt))) ?_) | ((with_reducible intro hb0); revert hb0; with_reducible first | exact zB0 | refine zB fun hb => ?_ | fail) | ((with_reducible apply q_Meet); exact zM) | exact zC | refine zT ?_ | fail))
      refine hK (xs.length - (k + 1)) _ (by omega) ⟨k + 1, by omega, rfl, ?_⟩
      simp only [go_sem, simprocAttr, h0, h3, h4, h7, Int.natCast_succ]
    · obtain rfl : k = xs.length := by omega
      rw [partR_all] at h7
      (have hWf := WFx.mk (And.intro @h0 <| And.intro @h3 <| And.intro @h4 <| @h7); repeat' (first | refine zS ?_ | exact zE | with_reducible apply And.intro | ((with_reducible intro hb0); revert hb0; with_reducible first | exact zB0 | refine zB fun hb => ?_ | fail) | ((with_reducible apply q_Meet); exact zM) | exact zC | refine zT ?_ | fail))
set_option maxRecDepth 100000 in
set_option maxHeartbeats 1000000 in
theorem c_szPat (x : MPat) (ho : x.ok) (left : Int) (h0 : 0 ≤ left) (h1 : left ≤ 1048576) : FCon Try.prog 27 [.ag x.enc, .s (.int .i64 left)] (fun r _ => RsZ left x.sm r) := by
  refine FCon.intro PM _ Try.func27 (by kernel_rfl) rfl _ Try.ntmps27 rfl [] (by decide +kernel) (by simp) (by simp) rfl (by first | rfl | simp only [go_sem]) ?_
  (have hWf := WFx.mk @MPat.enc_eq; repeat' (first | refine zS ?_ | exact zE | with_reducible apply And.intro | ((with_reducible apply q_CallG); refine CallG_mk (c_szPNodeS x.nodes (ho) _ (by omega) (by omega)) ?_; rintro _ _ ⟨z0, rfl, z0a, z0b, z0c⟩) | ((with_reducible apply q_CallQ); refine CallQ_mk (c_szPNodeS x.nodes (ho) _ (by omega) (by omega)) ?_) | ((with_reducible intro hb0); revert hb0; with_reducible first | exact zB0 | refine zB fun hb => ?_ | fail) | ((with_reducible apply q_Meet); exact zM) | exact zC | refine zT ?_ | fail))
  all_goals (first | exact ⟨_, rfl, by omega, by omega, by omega⟩ | exact ⟨_, rfl, by omega, by omega, fun _ => (show smS DPNode.sm x.nodes from (z0c (by omega)))⟩)
set_option maxRecDepth 100000 in
set_option maxHeartbeats 1000000 in
theorem c_szPatS (xs : List MPat) (ho : ∀ x ∈ xs, x.ok) (left : Int) (h0 : 0 ≤ left) (h1 : left ≤ 1048576) : FCon Try.prog 10 [.sl 1 (xs.map MPat.enc), .s (.int .i64 left)] (fun r _ => RsZ left (smS MPat.sm xs) r) := by
  refine FCon.intro PM _ Try.func10 (by kernel_rfl) rfl _ Try.ntmps10 rfl [] (by decide +kernel) (by simp) (by simp) rfl (by first | rfl | simp only [go_sem]) ?_
  refine AC_len 0 rfl trivial fun hlen => ?_
  simp only [List.length_map] at hlen
  by_cases hll : left < xs.length
  · (have hWf := f0; repeat' (first | refine zS ?_ | exact zE | with_reducible apply And.intro | ((with_reducible intro hb0); revert hb0; with_reducible first | exact zB0 | refine zB fun hb => ?_ | fail) | ((with_reducible apply q_Meet); exact zM) | exact zC | refine zT ?_ | fail))
    all_goals exact ⟨_, rfl, by omega, by omega, by omega⟩
  · (have hWf := f0; repeat' (first | refine zS ?_ | exact zE | with_reducible apply And.intro | ((with_reducible intro hb0); revert hb0; with_reducible first | exact zB0 | refine zB fun hb => ?_ | fail) | ((with_reducible apply q_Meet); exact zM) | exact zC | refine zT ?_ | fail))
    refine AC_loop (fun n σ => ∃ (k : Nat) (l : Int), k ≤ xs.length ∧ n = xs.length - k ∧ σ.t 0 = .sl 1 (xs.map MPat.enc) ∧ σ.t 1 = .s (.int .i64 l) ∧ σ.t 5 = .s (.int .i64 k) ∧ 0 ≤ l ∧ l ≤ left ∧ ∀ x ∈ xs.take k, x.sm) xs.length ⟨0, left - xs.length, by omega, by omega, ?_⟩ ?_
    · simp only [go_sem, simprocAttr, Int.natCast_zero]
      first | exact ⟨by omega, by omega, by simp⟩ | omega
    · rintro n σ ⟨k, l, hk, rfl, s0, s1, s5, hl0, hl1, hsm⟩ K' hK
      by_cases hlt : k < xs.length
      · have hx := getD_map MPat.enc xs k hlt
        have he := MPat.enc_eq xs[k]
        (have hWf := WFx.mk (And.intro @s0 <| And.intro @s1 <| And.intro @s5 <| And.intro @hx <| @he); repeat' (first | refine zS ?_ | exact zE | with_reducible apply And.intro | ((with_reducible apply q_CallG); refine CallG_mk (c_szPat xs[k] (ho _ (List.getElem_mem hlt)) l hl0 (by omega)) ?_; rintro _ _ ⟨z, rfl, za, zb, zc⟩) | ((with_reducible apply q_CallQ); refine CallQ_mk (c_szPat xs[k] (ho _ (List.getElem_mem hlt)) l hl0 (by omega)) ?_) | ((with_reducible intro hb0); revert hb0; with_reducible first | exact zB0 | refine zB fun hb => ?_ | fail) | ((with_reducible apply q_Meet); exact zM) | exact zC | refine zT ?_ | fail))
        · exact ⟨_, rfl, by omega, by omega, by omega⟩
        · refine hK (xs.length - (k + 1)) _ (by omega) ⟨k + 1, z, by omega, rfl, ?_⟩
          simp only [go_sem, simprocAttr, s0, s1, s5, Int.natCast_succ]
          refine ⟨by omega, by omega, fun x hx => ?_⟩
          rw [List.take_succ_eq_append_getElem hlt] at hx
          rcases List.mem_append.1 hx with hx | hx
          · exact hsm x hx
          · simp at hx; rw [hx]; exact zc (by omega)
      · obtain rfl : k = xs.length := by omega
        (have hWf := WFx.mk (And.intro @s0 <| And.intro @s1 <| @s5); repeat' (first | refine zS ?_ | exact zE | with_reducible apply And.intro | ((with_reducible intro hb0); revert hb0; with_reducible first | exact zB0 | refine zB fun hb => ?_ | fail) | ((with_reducible apply q_Meet); exact zM) | exact zC | refine zT ?_ | fail))
        exact ⟨_, rfl, by omega, by omega, fun _ => ⟨by omega, by simpa using hsm⟩⟩
set_option maxRecDepth 100000 in
set_option maxHeartbeats 1000000 in
theorem c_eqPat (x : MPat) : FCon Try.prog 46 [.ag x.enc, .ag x.enc] (fun r _ => r = .s (.bool true)) := by
  refine FCon.intro PM _ Try.func46 (by kernel_rfl) rfl _ Try.ntmps46 rfl [] (by decide +kernel) (by simp) (by simp) rfl (by first | rfl | simp only [go_sem]) ?_
  (have hWf := WFx.mk @MPat.enc_eq; repeat' (first | refine zS ?_ | exact zE | with_reducible apply And.intro | refine zK (c_eqPNodeS x.nodes) ?_ | ((with_reducible intro hb0); revert hb0; with_reducible first | exact zB0 | refine zB fun hb => ?_ | fail) | ((with_reducible apply q_Meet); exact zM) | exact zC | refine zT ?_ | fail))
set_option maxRecDepth 100000 in
set_option maxHeartbeats 1000000 in
theorem c_eqPatS (xs : List MPat) : FCon Try.prog 25 [.sl 1 (xs.map MPat.enc), .sl 1 (xs.map MPat.enc)] (fun r _ => r = .s (.bool true)) := by
  refine FCon.intro PM _ Try.func25 (by kernel_rfl) rfl _ Try.ntmps25 rfl [(6, 8, [], [], (lin [] [0, 1, 2, 3, 4, 5, 6, 7]))] (by decide +kernel) (by simp) (by simp) rfl (by first | rfl | simp only [go_sem]) ?_
  refine AC_len 0 rfl trivial fun hlen => ?_
  simp only [List.length_map] at hlen
  (have hWf := f0; repeat' (first | refine zS ?_ | exact zE | with_reducible apply And.intro | ((with_reducible intro hb0); revert hb0; with_reducible first | exact zB0 | refine zB fun hb => ?_ | fail) | ((with_reducible apply q_Meet); exact zM) | exact zC | refine zT ?_ | fail))
  refine AC_loop (fun n σ => ∃ k : Nat, k ≤ xs.length ∧ n = xs.length - k ∧ σ.t 0 = .sl 1 (xs.map MPat.enc) ∧ σ.t 1 = .sl 1 (xs.map MPat.enc) ∧ σ.t 5 = .s (.int .i64 k)) xs.length ⟨0, by omega, by omega, ?_⟩ ?_
  · simp only [go_sem, simprocAttr, Int.natCast_zero]
  · rintro n σ ⟨k, hk, rfl, h0, h1, h5⟩ K' hK
    by_cases hlt : k < xs.length
    · have hx := getD_map MPat.enc xs k hlt
      have he := MPat.enc_eq xs[k]
      (have hWf := WFx.mk (And.intro @h0 <| And.intro @h1 <| And.intro @h5 <| And.intro @hx <| @he); repeat' (first | refine zS ?_ | exact zE | with_reducible apply And.intro | refine zK (c_eqPat xs[k]) ?_ | ((with_reducible intro hb0); revert hb0; with_reducible first | exact zB0 | refine zB fun hb => ?_ | fail) | ((with_reducible apply q_Meet); exact zM) | exact zC | refine zT ?_ | fail))
      all_goals
        refine hK (xs.length - (k + 1)) _ (by omega) ⟨k + 1, by omega, rfl, ?_⟩
        simp only [go_sem, simprocAttr, h0, h1, h5, Int.natCast_succ]
    · (have hWf := WFx.mk (And.intro @h0 <| And.intro @h1 <| @h5); repeat' (first | refine zS ?_ | exact zE | with_reducible apply And.intro | ((with_reducible intro hb0); revert hb0; with_reducible first | exact zB0 | refine zB fun hb => ?_ | fail) | ((with_reducible apply q_Meet); exact zM) | exact zC | refine zT ?_ | fail))
end Go.Proofs.Ythkgncddilkmbaa
