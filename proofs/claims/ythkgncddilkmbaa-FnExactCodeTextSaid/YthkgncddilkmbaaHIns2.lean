import Derived.Test.YthkgncddilkmbaaHaB
/- Data Ins over the second engine: how they lie, own and lent; copies, sizes, comparisons, marks. Printed by gen2.py. -/
namespace Go.Proofs.Ythkgncddilkmbaa
set_option linter.unusedVariables false
set_option linter.unusedSimpArgs false
open Go.RowKit Go.ChangeShapes Go.WideShapes
structure MIns where
  op : Int
  a : Int
  b : Int
  s : ByteArray
def MIns.enc (x : MIns) : List D := [.s (.int .i64 x.op), .s (.int .i64 x.a), .s (.int .i64 x.b), .s (.string x.s)]
theorem MIns.enc_eq (x : MIns) : x.enc = [.s (.int .i64 x.op), .s (.int .i64 x.a), .s (.int .i64 x.b), .s (.string x.s)] := rfl
abbrev MIns.own (x : MIns) : List D := x.enc
theorem MIns.own_eq (x : MIns) : x.own = [.s (.int .i64 x.op), .s (.int .i64 x.a), .s (.int .i64 x.b), .s (.string x.s)] := rfl
theorem MIns.frz_eq (x : MIns) : frzL x.own = x.enc := by
  simp only [MIns.own_eq, MIns.enc_eq, frzL, frz]
def MIns.ok (x : MIns) : Prop := I64 x.op ∧ I64 x.a ∧ I64 x.b ∧ x.s.size ≤ maxLen
def MIns.sm (x : MIns) : Prop := x.s.size ≤ 1048576
def MIns.cnt (x : MIns) : Nat := 4
def MIns.mark (k : Int) (x : MIns) : MIns := ⟨k, (k + 1), ((k + 1) + 1), mkB (((k + 1) + 1) + 1)⟩
theorem MIns.cnt_eq (x : MIns) : x.cnt = 4 := rfl
theorem MIns.mark_eq (k : Int) (x : MIns) : MIns.mark k x = ⟨k, (k + 1), ((k + 1) + 1), mkB (((k + 1) + 1) + 1)⟩ := rfl
theorem MIns.pure (x : MIns) : ∀ d ∈ x.own, Pure d := by
  simp only [MIns.own_eq, List.forall_mem_cons, List.not_mem_nil, false_imp_iff, implies_true, and_true]
  exact ⟨.s _, .s _, .s _, .s _⟩
theorem MIns.pureS (e k : Nat) (xs : List MIns) : Pure (.osl e k (xs.map MIns.own)) = True := eq_true (pure_rows MIns.pure e k xs)
attribute [go_sem] MIns.pureS
theorem MIns.frzS (xs : List MIns) : frzLL (xs.map MIns.own) = xs.map MIns.enc := frz_rows MIns.frz_eq xs
attribute [go_sem] MIns.frzS
set_option maxRecDepth 100000 in
set_option maxHeartbeats 1000000 in
theorem c_toIns (x : MIns) (hs : x.sm) : FCon Try.prog 33 [.ag x.enc] (fun r _ => r = .ag x.own) := by
  refine FCon.intro PM _ Try.func33 (by kernel_rfl) rfl _ Try.ntmps33 rfl [] (by decide +kernel) (by simp) (by simp) rfl (by first | rfl | simp only [go_sem]) ?_
  (have hWf := WFx.mk (And.intro @MIns.enc_eq <| @MIns.own_eq); repeat' (first | refine zS ?_ | exact zE | with_reducible apply And.intro | ((with_reducible intro hb0); revert hb0; with_reducible first | exact zB0 | refine zB fun hb => ?_ | fail) | ((with_reducible apply q_Meet); exact zM) | exact zC | refine zT ?_ | fail))
set_option maxRecDepth 100000 in
set_option maxHeartbeats 1000000 in
theorem c_toInsS (xs : List MIns) (hs : smS MIns.sm xs) : FCon Try.prog 15 [.sl 4 (xs.map MIns.enc)] (fun r _ => r = .osl 39 4 (xs.map MIns.own)) := by
  have hl := hs.1
  refine FCon.intro PM _ Try.func15 (by kernel_rfl) rfl _ Try.ntmps15 rfl [] (by decide +kernel) (by simp) (by simp) rfl (by first | rfl | simp only [go_sem]) ?_
  (have hWf := f0; repeat' (first | refine zS ?_ | exact zE | with_reducible apply And.intro | ((with_reducible intro hb0); revert hb0; with_reducible first | exact zB0 | refine zB fun hb => ?_ | fail) | ((with_reducible apply q_Meet); exact zM) | exact zC | refine zT ?_ | fail))
  refine AC_loop (fun n σ => ∃ k : Nat, k ≤ xs.length ∧ n = xs.length - k ∧ σ.t 0 = .sl 4 (xs.map MIns.enc) ∧ σ.t 3 = .bs 7 4 xs.length ∧ σ.t 4 = .s (.int .i64 k) ∧ σ.b 7 = some (.arr 39 4 (partR MIns.own [.s (.int .i64 0), .s (.int .i64 0), .s (.int .i64 0), .s (.string ⟨#[]⟩)] xs k))) xs.length ⟨0, by omega, by omega, ?_⟩ ?_
  · simp only [go_sem, simprocAttr, partR_zero, Int.natCast_zero]
  · rintro n σ ⟨k, hk, rfl, h0, h3, h4, h7⟩ K' hK
    by_cases hlt : k < xs.length
    · have hx := getD_map MIns.enc xs k hlt
      have he := MIns.enc_eq xs[k]
      have hpl := partR_len (f := MIns.own) (z := [.s (.int .i64 0), .s (.int .i64 0), .s (.int .i64 0), .s (.string ⟨#[]⟩)]) (Nat.le_of_lt hlt)
      have hg := partR_get (f := MIns.own) (z := [.s (.int .i64 0), .s (.int .i64 0), .s (.int .i64 0), .s (.string ⟨#[]⟩)]) hlt
      have hst := partR_set (f := MIns.own) (z := [.s (.int .i64 0), .s (.int .i64 0), .s (.int .i64 0), .s (.string ⟨#[]⟩)]) hlt
      rw [MIns.own_eq] at hst
      (have hWf := WFx.mk (And.intro @h0 <| And.intro @h3 <| And.intro @h4 <| And.intro @h7 <| And.intro @hx <| And.intro @he <| And.intro @MIns.own_eq <| And.intro @hpl <| And.intro @hg <| @hst); repeat' (first | refine zS ?_ | exact zE | with_reducible apply And.intro | ((with_reducible apply q_CallG); refine zG (c_toIns xs[k] (hs.2 _ (List.getElem_mem hlt))) ?_) | ((with_reducible apply q_CallQ); refine CallQ_mk (c_toIns xs[k] (hs.2 _ (List.getElem_mem hlt))) ?_) | ((with_reducible intro hb0); revert hb0; with_reducible first | exact zB0 | refine zB fun hb => ?_ | fail) | ((with_reducible apply q_Meet); exact zM) | exact zC | refine zT ?_ | fail))
      refine hK (xs.length - (k + 1)) _ (by omega) ⟨k + 1, by omega, rfl, ?_⟩
      simp only [go_sem, simprocAttr, h0, h3, h4, h7, Int.natCast_succ]
    · obtain rfl : k = xs.length := by omega
      rw [partR_all] at h7
      (have hWf := WFx.mk (And.intro @h0 <| And.intro @h3 <| And.intro @h4 <| @h7); repeat' (first | refine zS ?_ | exact zE | with_reducible apply And.intro | ((with_reducible intro hb0); revert hb0; with_reducible first | exact zB0 | refine zB fun hb => ?_ | fail) | ((with_reducible apply q_Meet); exact zM) | exact zC | refine zT ?_ | fail))
set_option maxRecDepth 100000 in
set_option maxHeartbeats 1000000 in
theorem c_szIns (x : MIns) (ho : x.ok) (left : Int) (h0 : 0 ≤ left) (h1 : left ≤ 1048576) : FCon Try.prog 26 [.ag x.enc, .s (.int .i64 left)] (fun r _ => RsZ left x.sm r) := by
  have hz3 := ho.2.2.2
  unfold maxLen at hz3
  refine FCon.intro PM _ Try.func26 (by kernel_rfl) rfl _ Try.ntmps26 rfl [] (by decide +kernel) (by simp) (by simp) rfl (by first | rfl | simp only [go_sem]) ?_
  (have hWf := WFx.mk @MIns.enc_eq; repeat' (first | refine zS ?_ | exact zE | with_reducible apply And.intro | ((with_reducible intro hb0); revert hb0; with_reducible first | exact zB0 | refine zB fun hb => ?_ | fail) | ((with_reducible apply q_Meet); exact zM) | exact zC | refine zT ?_ | fail))
  all_goals (first | exact ⟨_, rfl, by omega, by omega, by omega⟩ | exact ⟨_, rfl, by omega, by omega, fun _ => (show x.s.size ≤ 1048576 from (by omega))⟩)
set_option maxRecDepth 100000 in
set_option maxHeartbeats 1000000 in
theorem c_szInsS (xs : List MIns) (ho : ∀ x ∈ xs, x.ok) (left : Int) (h0 : 0 ≤ left) (h1 : left ≤ 1048576) : FCon Try.prog 9 [.sl 4 (xs.map MIns.enc), .s (.int .i64 left)] (fun r _ => RsZ left (smS MIns.sm xs) r) := by
  refine FCon.intro PM _ Try.func9 (by kernel_rfl) rfl _ Try.ntmps9 rfl [] (by decide +kernel) (by simp) (by simp) rfl (by first | rfl | simp only [go_sem]) ?_
  refine AC_len 0 rfl trivial fun hlen => ?_
  simp only [List.length_map] at hlen
  by_cases hll : left < xs.length
  · (have hWf := f0; repeat' (first | refine zS ?_ | exact zE | with_reducible apply And.intro | ((with_reducible intro hb0); revert hb0; with_reducible first | exact zB0 | refine zB fun hb => ?_ | fail) | ((with_reducible apply q_Meet); exact zM) | exact zC | refine zT ?_ | fail))
    all_goals exact ⟨_, rfl, by omega, by omega, by omega⟩
  · (have hWf := f0; repeat' (first | refine zS ?_ | exact zE | with_reducible apply And.intro | ((with_reducible intro hb0); revert hb0; with_reducible first | exact zB0 | refine zB fun hb => ?_ | fail) | ((with_reducible apply q_Meet); exact zM) | exact zC | refine zT ?_ | fail))
    refine AC_loop (fun n σ => ∃ (k : Nat) (l : Int), k ≤ xs.length ∧ n = xs.length - k ∧ σ.t 0 = .sl 4 (xs.map MIns.enc) ∧ σ.t 1 = .s (.int .i64 l) ∧ σ.t 5 = .s (.int .i64 k) ∧ 0 ≤ l ∧ l ≤ left ∧ ∀ x ∈ xs.take k, x.sm) xs.length ⟨0, left - xs.length, by omega, by omega, ?_⟩ ?_
    · simp only [go_sem, simprocAttr, Int.natCast_zero]
      first | exact ⟨by omega, by omega, by simp⟩ | omega
    · rintro n σ ⟨k, l, hk, rfl, s0, s1, s5, hl0, hl1, hsm⟩ K' hK
      by_cases hlt : k < xs.length
      · have hx := getD_map MIns.enc xs k hlt
        have he := MIns.enc_eq xs[k]
        (have hWf := WFx.mk (And.intro @s0 <| And.intro @s1 <| And.intro @s5 <| And.intro @hx <| @he); repeat' (first | refine zS ?_ | exact zE | with_reducible apply And.intro | ((with_reducible apply q_CallG); refine CallG_mk (c_szIns xs[k] (ho _ (List.getElem_mem hlt)) l hl0 (by omega)) ?_; rintro _ _ ⟨z, rfl, za, zb, zc⟩) | ((with_reducible apply q_CallQ); refine CallQ_mk (c_szIns xs[k] (ho _ (List.getElem_mem hlt)) l hl0 (by omega)) ?_) | ((with_reducible intro hb0); revert hb0; with_reducible first | exact zB0 | refine zB fun hb => ?_ | fail) | ((with_reducible apply q_Meet); exact zM) | exact zC | refine zT ?_ | fail))
        · exact ⟨_, rfl, by omega, by omega, by omega⟩
        · refine hK (xs.length - (k + 1)) _ (by omega) ⟨k + 1, z, by omega, rfl, ?_⟩
          simp only [go_sem, simprocAttr, s0, s1, s5, Int.natCast_succ]
          refine ⟨by omega, by omega, fun x hx => ?_⟩
          rw [List.take_succ_eq_append_getElem hlt] at hx
          rcases List.mem_append.1 hx with hx | hx
          · exact hsm x hx
          · simp at hx; rw [hx]; exact zc (by omega)
      · obtain rfl : k = xs.length := by omega
        (have hWf := WFx.mk (And.intro @s0 <| And.intro @s1 <| @s5); repeat' (first | refine zS ?_ | exact zE | with_reducible apply And.intro | ((with_reducible intro hb0); revert hb0; with_reducible first | exact zB0 | refine zB fun hb => ?_ | fail) | ((with_reducible apply q_Meet); exact zM) | exact zC | refine zT ?_ | fail))
        exact ⟨_, rfl, by omega, by omega, fun _ => ⟨by omega, by simpa using hsm⟩⟩
set_option maxRecDepth 100000 in
set_option maxHeartbeats 1000000 in
theorem c_eqIns (x : MIns) : FCon Try.prog 45 [.ag x.enc, .ag x.enc] (fun r _ => r = .s (.bool true)) := by
  refine FCon.intro PM _ Try.func45 (by kernel_rfl) rfl _ Try.ntmps45 rfl [] (by decide +kernel) (by simp) (by simp) rfl (by first | rfl | simp only [go_sem]) ?_
  (have hWf := WFx.mk @MIns.enc_eq; repeat' (first | refine zS ?_ | exact zE | with_reducible apply And.intro | ((with_reducible intro hb0); revert hb0; with_reducible first | exact zB0 | refine zB fun hb => ?_ | fail) | ((with_reducible apply q_Meet); exact zM) | exact zC | refine zT ?_ | fail))
set_option maxRecDepth 100000 in
set_option maxHeartbeats 1000000 in
theorem c_eqInsS (xs : List MIns) : FCon Try.prog 24 [.sl 4 (xs.map MIns.enc), .sl 4 (xs.map MIns.enc)] (fun r _ => r = .s (.bool true)) := by
  refine FCon.intro PM _ Try.func24 (by kernel_rfl) rfl _ Try.ntmps24 rfl [(6, 8, [], [], (lin [] [0, 1, 2, 3, 4, 5, 6, 7]))] (by decide +kernel) (by simp) (by simp) rfl (by first | rfl | simp only [go_sem]) ?_
  refine AC_len 0 rfl trivial fun hlen => ?_
  simp only [List.length_map] at hlen
  (have hWf := f0; repeat' (first | refine zS ?_ | exact zE | with_reducible apply And.intro | ((with_reducible intro hb0); revert hb0; with_reducible first | exact zB0 | refine zB fun hb => ?_ | fail) | ((with_reducible apply q_Meet); exact zM) | exact zC | refine zT ?_ | fail))
  refine AC_loop (fun n σ => ∃ k : Nat, k ≤ xs.length ∧ n = xs.length - k ∧ σ.t 0 = .sl 4 (xs.map MIns.enc) ∧ σ.t 1 = .sl 4 (xs.map MIns.enc) ∧ σ.t 5 = .s (.int .i64 k)) xs.length ⟨0, by omega, by omega, ?_⟩ ?_
  · simp only [go_sem, simprocAttr, Int.natCast_zero]
  · rintro n σ ⟨k, hk, rfl, h0, h1, h5⟩ K' hK
    by_cases hlt : k < xs.length
    · have hx := getD_map MIns.enc xs k hlt
      have he := MIns.enc_eq xs[k]
      (have hWf := WFx.mk (And.intro @h0 <| And.intro @h1 <| And.intro @h5 <| And.intro @hx <| @he); repeat' (first | refine zS ?_ | exact zE | with_reducible apply And.intro | refine zK (c_eqIns xs[k]) ?_ | ((with_reducible intro hb0); revert hb0; with_reducible first | exact zB0 | refine zB fun hb => ?_ | fail) | ((with_reducible apply q_Meet); exact zM) | exact zC | refine zT ?_ | fail))
      all_goals
        refine hK (xs.length - (k + 1)) _ (by omega) ⟨k + 1, by omega, rfl, ?_⟩
        simp only [go_sem, simprocAttr, h0, h1, h5, Int.natCast_succ]
    · (have hWf := WFx.mk (And.intro @h0 <| And.intro @h1 <| @h5); repeat' (first | refine zS ?_ | exact zE | with_reducible apply And.intro | ((with_reducible intro hb0); revert hb0; with_reducible first | exact zB0 | refine zB fun hb => ?_ | fail) | ((with_reducible apply q_Meet); exact zM) | exact zC | refine zT ?_ | fail))
end Go.Proofs.Ythkgncddilkmbaa
