import Derived.Test.YthkgncddilkmbaaHaB
/- Data PNode over the second engine: how they lie, own and lent; copies, sizes, comparisons, marks. Printed by gen2.py. -/
namespace Go.Proofs.Ythkgncddilkmbaa
set_option linter.unusedVariables false
set_option linter.unusedSimpArgs false
open Go.RowKit Go.ChangeShapes Go.WideShapes
structure DPNode where
  kind : Int
  n : Int
  s : ByteArray
  kids : List Int
def DPNode.enc (x : DPNode) : List D := [.s (.int .i64 x.kind), .s (.int .i64 x.n), .s (.string x.s), .sl 1 (x.kids.map iE)]
theorem DPNode.enc_eq (x : DPNode) : x.enc = [.s (.int .i64 x.kind), .s (.int .i64 x.n), .s (.string x.s), .sl 1 (x.kids.map iE)] := rfl
def DPNode.own (x : DPNode) : List D := [.s (.int .i64 x.kind), .s (.int .i64 x.n), .s (.string x.s), .osl 3 1 (x.kids.map iE)]
theorem DPNode.own_eq (x : DPNode) : x.own = [.s (.int .i64 x.kind), .s (.int .i64 x.n), .s (.string x.s), .osl 3 1 (x.kids.map iE)] := rfl
theorem DPNode.frz_eq (x : DPNode) : frzL x.own = x.enc := by
  simp only [DPNode.own_eq, DPNode.enc_eq, frzL, frz, frz_rows iE_frz]
def DPNode.ok (x : DPNode) : Prop := I64 x.kind ∧ I64 x.n ∧ x.s.size ≤ maxLen ∧ (∀ y ∈ x.kids, I64 y)
def DPNode.sm (x : DPNode) : Prop := x.s.size ≤ 1048576 ∧ smS (fun _ : Int => True) x.kids
def DPNode.cnt (x : DPNode) : Nat := 1 + 1 + 1 + cnts (fun _ : Int => 1) x.kids
def DPNode.mark (k : Int) (x : DPNode) : DPNode := ⟨k, (k + 1), mkB ((k + 1) + 1), marks (fun _ : Int => 1) (fun k _ => k) (((k + 1) + 1) + 1) x.kids⟩
theorem DPNode.cnt_eq (x : DPNode) : x.cnt = 1 + 1 + 1 + cnts (fun _ : Int => 1) x.kids := rfl
theorem DPNode.mark_eq (k : Int) (x : DPNode) : DPNode.mark k x = ⟨k, (k + 1), mkB ((k + 1) + 1), marks (fun _ : Int => 1) (fun k _ => k) (((k + 1) + 1) + 1) x.kids⟩ := rfl
theorem DPNode.pure (x : DPNode) : ∀ d ∈ x.own, Pure d := by
  simp only [DPNode.own_eq, List.forall_mem_cons, List.not_mem_nil, false_imp_iff, implies_true, and_true]
  exact ⟨.s _, .s _, .s _, pure_rows iE_pure _ _ _⟩
theorem DPNode.pureS (e k : Nat) (xs : List DPNode) : Pure (.osl e k (xs.map DPNode.own)) = True := eq_true (pure_rows DPNode.pure e k xs)
attribute [go_sem] DPNode.pureS
theorem DPNode.frzS (xs : List DPNode) : frzLL (xs.map DPNode.own) = xs.map DPNode.enc := frz_rows DPNode.frz_eq xs
attribute [go_sem] DPNode.frzS
set_option maxRecDepth 100000 in
set_option maxHeartbeats 1000000 in
theorem c_toPNode (x : DPNode) (hs : x.sm) : FCon Try.prog 67 [.ag x.enc] (fun r _ => r = .ag x.own) := by
  refine FCon.intro PM _ Try.func67 (by kernel_rfl) rfl _ Try.ntmps67 rfl [] (by decide +kernel) (by simp) (by simp) rfl (by first | rfl | simp only [go_sem]) ?_
  (have hWf := WFx.mk (And.intro @DPNode.enc_eq <| @DPNode.own_eq); repeat' (first | refine zS ?_ | exact zE | with_reducible apply And.intro | refine zK (c_toIntS x.kids (hs.2)) ?_ | ((with_reducible intro hb0); revert hb0; with_reducible first | exact zB0 | refine zB fun hb => ?_ | fail) | ((with_reducible apply q_Meet); exact zM) | exact zC | refine zT ?_ | fail))
set_option maxRecDepth 100000 in
set_option maxHeartbeats 1000000 in
theorem c_toPNodeS (xs : List DPNode) (hs : smS DPNode.sm xs) : FCon Try.prog 53 [.sl 4 (xs.map DPNode.enc)] (fun r _ => r = .osl 77 4 (xs.map DPNode.own)) := by
  have hl := hs.1
  refine FCon.intro PM _ Try.func53 (by kernel_rfl) rfl _ Try.ntmps53 rfl [] (by decide +kernel) (by simp) (by simp) rfl (by first | rfl | simp only [go_sem]) ?_
  (have hWf := f0; repeat' (first | refine zS ?_ | exact zE | with_reducible apply And.intro | ((with_reducible intro hb0); revert hb0; with_reducible first | exact zB0 | refine zB fun hb => ?_ | fail) | ((with_reducible apply q_Meet); exact zM) | exact zC | refine zT ?_ | fail))
  refine AC_loop (fun n σ => ∃ k : Nat, k ≤ xs.length ∧ n = xs.length - k ∧ σ.t 0 = .sl 4 (xs.map DPNode.enc) ∧ σ.t 3 = .bs 7 4 xs.length ∧ σ.t 4 = .s (.int .i64 k) ∧ σ.b 7 = some (.arr 77 4 (partR DPNode.own [.s (.int .i64 0), .s (.int .i64 0), .s (.string ⟨#[]⟩), .nil] xs k))) xs.length ⟨0, by omega, by omega, ?_⟩ ?_
  · simp only [go_sem, simprocAttr, partR_zero, Int.natCast_zero]
  · rintro n σ ⟨k, hk, rfl, h0, h3, h4, h7⟩ K' hK
    by_cases hlt : k < xs.length
    · have hx := getD_map DPNode.enc xs k hlt
      have he := DPNode.enc_eq xs[k]
      have hpl := partR_len (f := DPNode.own) (z := [.s (.int .i64 0), .s (.int .i64 0), .s (.string ⟨#[]⟩), .nil]) (Nat.le_of_lt hlt)
      have hg := partR_get (f := DPNode.own) (z := [.s (.int .i64 0), .s (.int .i64 0), .s (.string ⟨#[]⟩), .nil]) hlt
      have hst := partR_set (f := DPNode.own) (z := [.s (.int .i64 0), .s (.int .i64 0), .s (.string ⟨#[]⟩), .nil]) hlt
      rw [DPNode.own_eq] at hst
      (have hWf := WFx.mk (And.intro @h0 <| And.intro @h3 <| And.intro @h4 <| And.intro @h7 <| And.intro @hx <| And.intro @he <| And.intro @DPNode.own_eq <| And.intro @hpl <| And.intro @hg <| @hst); repeat' (first | refine zS ?_ | exact zE | with_reducible apply And.intro | ((with_reducible apply q_CallG); refine zG (c_toPNode xs[k] (hs.2 _ (List.getElem_mem hlt))) ?_) | ((with_reducible apply q_CallQ); refine CallQ_mk (c_toPNode xs[k] (hs.2 _ (List.getElem_mem hlt))) ?_) | ((with_reducible intro hb0); revert hb0; with_reducible first | exact zB0 | refine zB fun hb => ?_ | fail) | ((with_reducible apply q_Meet); exact zM) | exact zC | refine zT ?_ | fail))
      refine hK (xs.length - (k + 1)) _ (by omega) ⟨k + 1, by omega, rfl, ?_⟩
      simp only [go_sem, simprocAttr, h0, h3, h4, h7, Int.natCast_succ]
    · obtain rfl : k = xs.length := by omega
      rw [partR_all] at h7
      (have hWf := WFx.mk (And.intro @h0 <| And.intro @h3 <| And.intro @h4 <| @h7); repeat' (first | refine zS ?_ | exact zE | with_reducible apply And.intro | ((with_reducible intro hb0); revert hb0; with_reducible first | exact zB0 | refine zB fun hb => ?_ | fail) | ((with_reducible apply q_Meet); exact zM) | exact zC | refine zT ?_ | fail))
set_option maxRecDepth 100000 in
set_option maxHeartbeats 1000000 in
theorem c_szPNode (x : DPNode) (ho : x.ok) (left : Int) (h0 : 0 ≤ left) (h1 : left ≤ 1048576) : FCon Try.prog 64 [.ag x.enc, .s (.int .i64 left)] (fun r _ => RsZ left x.sm r) := by
  have hz2 := ho.2.2.1
  unfold maxLen at hz2
  refine FCon.intro PM _ Try.func64 (by kernel_rfl) rfl _ Try.ntmps64 rfl [] (by decide +kernel) (by simp) (by simp) rfl (by first | rfl | simp only [go_sem]) ?_
  (have hWf := WFx.mk @DPNode.enc_eq; repeat' (first | refine zS ?_ | exact zE | with_reducible apply And.intro | ((with_reducible apply q_CallG); refine CallG_mk (c_szIntS x.kids _ (by omega) (by omega)) ?_; rintro _ _ ⟨z1, rfl, z1a, z1b, z1c⟩) | ((with_reducible apply q_CallQ); refine CallQ_mk (c_szIntS x.kids _ (by omega) (by omega)) ?_) | ((with_reducible intro hb0); revert hb0; with_reducible first | exact zB0 | refine zB fun hb => ?_ | fail) | ((with_reducible apply q_Meet); exact zM) | exact zC | refine zT ?_ | fail))
  all_goals (first | exact ⟨_, rfl, by omega, by omega, by omega⟩ | exact ⟨_, rfl, by omega, by omega, fun _ => (show x.s.size ≤ 1048576 ∧ smS (fun _ : Int => True) x.kids from ⟨by omega, z1c (by omega)⟩)⟩)
set_option maxRecDepth 100000 in
set_option maxHeartbeats 1000000 in
theorem c_szPNodeS (xs : List DPNode) (ho : ∀ x ∈ xs, x.ok) (left : Int) (h0 : 0 ≤ left) (h1 : left ≤ 1048576) : FCon Try.prog 47 [.sl 4 (xs.map DPNode.enc), .s (.int .i64 left)] (fun r _ => RsZ left (smS DPNode.sm xs) r) := by
  refine FCon.intro PM _ Try.func47 (by kernel_rfl) rfl _ Try.ntmps47 rfl [] (by decide +kernel) (by simp) (by simp) rfl (by first | rfl | simp only [go_sem]) ?_
  refine AC_len 0 rfl trivial fun hlen => ?_
  simp only [List.length_map] at hlen
  by_cases hll : left < xs.length
  · (have hWf := f0; repeat' (first | refine zS ?_ | exact zE | with_reducible apply And.intro | ((with_reducible intro hb0); revert hb0; with_reducible first | exact zB0 | refine zB fun hb => ?_ | fail) | ((with_reducible apply q_Meet); exact zM) | exact zC | refine zT ?_ | fail))
    all_goals exact ⟨_, rfl, by omega, by omega, by omega⟩
  · (have hWf := f0; repeat' (first | refine zS ?_ | exact zE | with_reducible apply And.intro | ((with_reducible intro hb0); revert hb0; with_reducible first | exact zB0 | refine zB fun hb => ?_ | fail) | ((with_reducible apply q_Meet); exact zM) | exact zC | refine zT ?_ | fail))
    refine AC_loop (fun n σ => ∃ (k : Nat) (l : Int), k ≤ xs.length ∧ n = xs.length - k ∧ σ.t 0 = .sl 4 (xs.map DPNode.enc) ∧ σ.t 1 = .s (.int .i64 l) ∧ σ.t 5 = .s (.int .i64 k) ∧ 0 ≤ l ∧ l ≤ left ∧ ∀ x ∈ xs.take k, x.sm) xs.length ⟨0, left - xs.length, by omega, by omega, ?_⟩ ?_
    · simp only [go_sem, simprocAttr, Int.natCast_zero]
      first | exact ⟨by omega, by omega, by simp⟩ | omega
    · rintro n σ ⟨k, l, hk, rfl, s0, s1, s5, hl0, hl1, hsm⟩ K' hK
      by_cases hlt : k < xs.length
      · have hx := getD_map DPNode.enc xs k hlt
        have he := DPNode.enc_eq xs[k]
        (have hWf := WFx.mk (And.intro @s0 <| And.intro @s1 <| And.intro @s5 <| And.intro @hx <| @he); repeat' (first | refine zS ?_ | exact zE | with_reducible apply And.intro | ((with_reducible apply q_CallG); refine CallG_mk (c_szPNode xs[k] (ho _ (List.getElem_mem hlt)) l hl0 (by omega)) ?_; rintro _ _ ⟨z, rfl, za, zb, zc⟩) | ((with_reducible apply q_CallQ); refine CallQ_mk (c_szPNode xs[k] (ho _ (List.getElem_mem hlt)) l hl0 (by omega)) ?_) | ((with_reducible intro hb0); revert hb0; with_reducible first | exact zB0 | refine zB fun hb => ?_ | fail) | ((with_reducible apply q_Meet); exact zM) | exact zC | refine zT ?_ | fail))
        · exact ⟨_, rfl, by omega, by omega, by omega⟩
        · refine hK (xs.length - (k + 1)) _ (by omega) ⟨k + 1, z, by omega, rfl, ?_⟩
          simp only [go_sem, simprocAttr, s0, s1, s5, Int.natCast_succ]
          refine ⟨by omega, by omega, fun x hx => ?_⟩
          rw [List.take_succ_eq_append_getElem hlt] at hx
          rcases List.mem_append.1 hx with hx | hx
          · exact hsm x hx
          · simp at hx; rw [hx]; exact zc (by omega)
      · obtain rfl : k = xs.length := by omega
        (have hWf := WFx.mk (And.intro @s0 <| And.intro @s1 <| @s5); repeat' (first | refine zS ?_ | exact zE | with_reducible apply And.intro | ((with_reducible intro hb0); revert hb0; with_reducible first | exact zB0 | refine zB fun hb => ?_ | fail) | ((with_reducible apply q_Meet); exact zM) | exact zC | refine zT ?_ | fail))
        exact ⟨_, rfl, by omega, by omega, fun _ => ⟨by omega, by simpa using hsm⟩⟩
set_option maxRecDepth 100000 in
set_option maxHeartbeats 1000000 in
theorem c_eqPNode (x : DPNode) : FCon Try.prog 72 [.ag x.enc, .ag x.enc] (fun r _ => r = .s (.bool true)) := by
  refine FCon.intro PM _ Try.func72 (by kernel_rfl) rfl _ Try.ntmps72 rfl [] (by decide +kernel) (by simp) (by simp) rfl (by first | rfl | simp only [go_sem]) ?_
  (have hWf := WFx.mk @DPNode.enc_eq; repeat' (first | refine zS ?_ | exact zE | with_reducible apply And.intro | refine zK (c_eqIntS x.kids) ?_ | ((with_reducible intro hb0); revert hb0; with_reducible first | exact zB0 | refine zB fun hb => ?_ | fail) | ((with_reducible apply q_Meet); exact zM) | exact zC | refine zT ?_ | fail))
set_option maxRecDepth 100000 in
set_option maxHeartbeats 1000000 in
theorem c_eqPNodeS (xs : List DPNode) : FCon Try.prog 63 [.sl 4 (xs.map DPNode.enc), .sl 4 (xs.map DPNode.enc)] (fun r _ => r = .s (.bool true)) := by
  refine FCon.intro PM _ Try.func63 (by kernel_rfl) rfl _ Try.ntmps63 rfl [(6, 8, [], [], (lin [] [0, 1, 2, 3, 4, 5, 6, 7]))] (by decide +kernel) (by simp) (by simp) rfl (by first | rfl | simp only [go_sem]) ?_
  refine AC_len 0 rfl trivial fun hlen => ?_
  simp only [List.length_map] at hlen
  (have hWf := f0; repeat' (first | refine zS ?_ | exact zE | with_reducible apply And.intro | ((with_reducible intro hb0); revert hb0; with_reducible first | exact zB0 | refine zB fun hb => ?_ | fail) | ((with_reducible apply q_Meet); exact zM) | exact zC | refine zT ?_ | fail))
  refine AC_loop (fun n σ => ∃ k : Nat, k ≤ xs.length ∧ n = xs.length - k ∧ σ.t 0 = .sl 4 (xs.map DPNode.enc) ∧ σ.t 1 = .sl 4 (xs.map DPNode.enc) ∧ σ.t 5 = .s (.int .i64 k)) xs.length ⟨0, by omega, by omega, ?_⟩ ?_
  · simp only [go_sem, simprocAttr, Int.natCast_zero]
  · rintro n σ ⟨k, hk, rfl, h0, h1, h5⟩ K' hK
    by_cases hlt : k < xs.length
    · have hx := getD_map DPNode.enc xs k hlt
      have he := DPNode.enc_eq xs[k]
      (have hWf := WFx.mk (And.intro @h0 <| And.intro @h1 <| And.intro @h5 <| And.intro @hx <| @he); repeat' (first | refine zS ?_ | exact zE | with_reducible apply And.intro | refine zK (c_eqPNode xs[k]) ?_ | ((with_reducible intro hb0); revert hb0; with_reducible first | exact zB0 | refine zB fun hb => ?_ | fail) | ((with_reducible apply q_Meet); exact zM) | exact zC | refine zT ?_ | fail))
      all_goals
        refine hK (xs.length - (k + 1)) _ (by omega) ⟨k + 1, by omega, rfl, ?_⟩
        simp only [go_sem, simprocAttr, h0, h1, h5, Int.natCast_succ]
    · (have hWf := WFx.mk (And.intro @h0 <| And.intro @h1 <| @h5); repeat' (first | refine zS ?_ | exact zE | with_reducible apply And.intro | ((with_reducible intro hb0); revert hb0; with_reducible first | exact zB0 | refine zB fun hb => ?_ | fail) | ((with_reducible apply q_Meet); exact zM) | exact zC | refine zT ?_ | fail))
end Go.Proofs.Ythkgncddilkmbaa
