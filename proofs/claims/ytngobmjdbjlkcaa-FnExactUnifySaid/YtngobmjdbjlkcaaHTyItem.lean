import Derived.Test.YtngobmjdbjlkcaaTyM
import Derived.Test.YtngobmjdbjlkcaaHa
import Derived.Test.YtngobmjdbjlkcaaHInt
/- Data TyItem over the second engine: how they lie, own and lent; copies, sizes, comparisons, marks. Printed by gen2.py. -/
namespace Go.Proofs.Ytngobmjdbjlkcaa
set_option linter.unusedVariables false
set_option linter.unusedSimpArgs false
attribute [local go_sem] List.length_set List.set_set
open Go.RowKit Go.ChangeShapes Go.WideShapes
def TyI.enc (x : TyI) : List D := [.s (.int .i64 x.v), .s (.string x.name), .s (.int .i64 x.ar)]
theorem TyI.enc_eq (x : TyI) : x.enc = [.s (.int .i64 x.v), .s (.string x.name), .s (.int .i64 x.ar)] := rfl
abbrev TyI.own (x : TyI) : List D := x.enc
theorem TyI.own_eq (x : TyI) : x.own = [.s (.int .i64 x.v), .s (.string x.name), .s (.int .i64 x.ar)] := rfl
theorem TyI.frz_eq (x : TyI) : frzL x.own = x.enc := by
  simp only [TyI.own_eq, TyI.enc_eq, frzL, frz]
def TyI.sm (x : TyI) : Prop := x.name.size ≤ 1048576
def TyI.cnt (x : TyI) : Nat := 3
def TyI.mark (k : Int) (x : TyI) : TyI := ⟨k, mkB (k + 1), ((k + 1) + 1)⟩
theorem TyI.cnt_eq (x : TyI) : x.cnt = 3 := rfl
theorem TyI.mark_eq (k : Int) (x : TyI) : TyI.mark k x = ⟨k, mkB (k + 1), ((k + 1) + 1)⟩ := rfl
theorem TyI.pure (x : TyI) : ∀ d ∈ x.own, Pure d := by
  simp only [TyI.own_eq, List.forall_mem_cons, List.not_mem_nil, false_imp_iff, implies_true, and_true]
  exact ⟨.s _, .s _, .s _⟩
theorem TyI.pureS (e k : Nat) (xs : List TyI) : Pure (.osl e k (xs.map TyI.own)) = True := eq_true (pure_rows TyI.pure e k xs)
attribute [go_sem] TyI.pureS
theorem TyI.frzS (xs : List TyI) : frzLL (xs.map TyI.own) = xs.map TyI.enc := frz_rows TyI.frz_eq xs
attribute [go_sem] TyI.frzS
set_option maxRecDepth 100000 in
set_option maxHeartbeats 1000000 in
theorem c_toTyItem (x : TyI) (hs : x.sm) : FCon Try.prog 112 [.ag x.enc] (fun r _ => r = .ag x.own) := by
  refine FCon.intro PM _ Try.func112 (by kernel_rfl) rfl _ Try.ntmps112 rfl [] (by decide +kernel) (by simp) (by simp) rfl (by first | rfl | simp only [go_sem]) ?_
  (have hWf := WFx.mk (And.intro @TyI.enc_eq <| @TyI.own_eq); repeat' (first | refine zS ?_ | exact zE | with_reducible apply And.intro | ((with_reducible intro hb0); revert hb0; with_reducible first | exact zB0 | refine zB fun hb => ?_ | fail) | ((with_reducible apply q_Meet); exact zM) | exact zC | refine zT ?_ | fail))
set_option maxRecDepth 100000 in
set_option maxHeartbeats 1000000 in
theorem c_toTyItemS (xs : List TyI) (hs : smS TyI.sm xs) : FCon Try.prog 62 [.sl 3 (xs.map TyI.enc)] (fun r _ => r = .osl 31 3 (xs.map TyI.own)) := by
  have hl := hs.1
  refine FCon.intro PM _ Try.func62 (by kernel_rfl) rfl _ Try.ntmps62 rfl [] (by decide +kernel) (by simp) (by simp) rfl (by first | rfl | simp only [go_sem]) ?_
  (have hWf := f0; repeat' (first | refine zS ?_ | exact zE | with_reducible apply And.intro | ((with_reducible intro hb0); revert hb0; with_reducible first | exact zB0 | refine zB fun hb => ?_ | fail) | ((with_reducible apply q_Meet); exact zM) | exact zC | refine zT ?_ | fail))
  refine AC_loop (fun n σ => ∃ k : Nat, k ≤ xs.length ∧ n = xs.length - k ∧ σ.t 0 = .sl 3 (xs.map TyI.enc) ∧ σ.t 3 = .bs 7 3 xs.length ∧ σ.t 4 = .s (.int .i64 k) ∧ σ.b 7 = some (.arr 31 3 (partR TyI.own [.s (.int .i64 0), .s (.string ⟨#[]⟩), .s (.int .i64 0)] xs k))) xs.length ⟨0, by omega, by omega, ?_⟩ ?_
  · simp only [go_sem, simprocAttr, partR_zero, Int.natCast_zero]
  · rintro n σ ⟨k, hk, rfl, h0, h3, h4, h7⟩ K' hK
    by_cases hlt : k < xs.length
    · have hx := getD_map TyI.enc xs k hlt
      have he := TyI.enc_eq xs[k]
      have hpl := partR_len (f := TyI.own) (z := [.s (.int .i64 0), .s (.string ⟨#[]⟩), .s (.int .i64 0)]) (Nat.le_of_lt hlt)
      have hg := partR_get (f := TyI.own) (z := [.s (.int .i64 0), .s (.string ⟨#[]⟩), .s (.int .i64 0)]) hlt
      have hst := partR_set (f := TyI.own) (z := [.s (.int .i64 0), .s (.string ⟨#[]⟩), .s (.int .i64 0)]) hlt
      rw [TyI.own_eq] at hst
      (have hWf := WFx.mk (And.intro @h0 <| And.intro @h3 <| And.intro @h4 <| And.intro @h7 <| And.intro @hx <| And.intro @he <| And.intro @TyI.own_eq <| And.intro @hpl <| And.intro @hg <| @hst); repeat' (first | refine zS ?_ | exact zE | with_reducible apply And.intro | ((with_reducible apply q_CallG); refine zG (c_toTyItem xs[k] (hs.2 _ (List.getElem_mem hlt))) ?_) | ((with_reducible apply q_CallQ); refine CallQ_mk (c_toTyItem xs[k] (hs.2 _ (List.getElem_mem hlt))) ?_) | ((with_reducible intro hb0); revert hb0; with_reducible first | exact zB0 | refine zB fun hb => ?_ | fail) | ((with_reducible apply q_Meet); exact zM) | exact zC | refine zT ?_ | fail))
      refine hK (xs.length - (k + 1)) _ (by omega) ⟨k + 1, by omega, rfl, ?_⟩
      simp only [go_sem, simprocAttr, h0, h3, h4, h7, Int.natCast_succ]
    · obtain rfl : k = xs.length := by omega
      rw [partR_all] at h7
      (have hWf := WFx.mk (And.intro @h0 <| And.intro @h3 <| And.intro @h4 <| @h7); repeat' (first | refine zS ?_ | exact zE | with_reducible apply And.intro | ((with_reducible intro hb0); revert hb0; with_reducible first | exact zB0 | refine zB fun hb => ?_ | fail) | ((with_reducible apply q_Meet); exact zM) | exact zC | refine zT ?_ | fail))
set_option maxRecDepth 100000 in
set_option maxHeartbeats 1000000 in
theorem c_szTyItem (x : TyI) (ho : x.ok) (left : Int) (h0 : 0 ≤ left) (h1 : left ≤ 1048576) : FCon Try.prog 110 [.ag x.enc, .s (.int .i64 left)] (fun r _ => RsZ left x.sm r) := by
  have hz1 := ho.2.1
  unfold maxLen at hz1
  refine FCon.intro PM _ Try.func110 (by kernel_rfl) rfl _ Try.ntmps110 rfl [] (by decide +kernel) (by simp) (by simp) rfl (by first | rfl | simp only [go_sem]) ?_
  (have hWf := WFx.mk @TyI.enc_eq; repeat' (first | refine zS ?_ | exact zE | with_reducible apply And.intro | ((with_reducible intro hb0); revert hb0; with_reducible first | exact zB0 | refine zB fun hb => ?_ | fail) | ((with_reducible apply q_Meet); exact zM) | exact zC | refine zT ?_ | fail))
  all_goals (first | exact ⟨_, rfl, by omega, by omega, by omega⟩ | exact ⟨_, rfl, by omega, by omega, fun _ => (show x.name.size ≤ 1048576 from (by omega))⟩)
set_option maxRecDepth 100000 in
set_option maxHeartbeats 1000000 in
theorem c_szTyItemS (xs : List TyI) (ho : ∀ x ∈ xs, x.ok) (left : Int) (h0 : 0 ≤ left) (h1 : left ≤ 1048576) : FCon Try.prog 59 [.sl 3 (xs.map TyI.enc), .s (.int .i64 left)] (fun r _ => RsZ left (smS TyI.sm xs) r) := by
  refine FCon.intro PM _ Try.func59 (by kernel_rfl) rfl _ Try.ntmps59 rfl [] (by decide +kernel) (by simp) (by simp) rfl (by first | rfl | simp only [go_sem]) ?_
  refine AC_len 0 rfl trivial fun hlen => ?_
  simp only [List.length_map] at hlen
  by_cases hll : left < xs.length
  · (have hWf := f0; repeat' (first | refine zS ?_ | exact zE | with_reducible apply And.intro | ((with_reducible intro hb0); revert hb0; with_reducible first | exact zB0 | refine zB fun hb => ?_ | fail) | ((with_reducible apply q_Meet); exact zM) | exact zC | refine zT ?_ | fail))
    all_goals exact ⟨_, rfl, by omega, by omega, by omega⟩
  · (have hWf := f0; repeat' (first | refine zS ?_ | exact zE | with_reducible apply And.intro | ((with_reducible intro hb0); revert hb0; with_reducible first | exact zB0 | refine zB fun hb => ?_ | fail) | ((with_reducible apply q_Meet); exact zM) | exact zC | refine zT ?_ | fail))
    refine AC_loop (fun n σ => ∃ (k : Nat) (l : Int), k ≤ xs.length ∧ n = xs.length - k ∧ σ.t 0 = .sl 3 (xs.map TyI.enc) ∧ σ.t 1 = .s (.int .i64 l) ∧ σ.t 5 = .s (.int .i64 k) ∧ 0 ≤ l ∧ l ≤ left ∧ ∀ x ∈ xs.take k, x.sm) xs.length ⟨0, left - xs.length, by omega, by omega, ?_⟩ ?_
    · simp only [go_sem, simprocAttr, Int.natCast_zero]
      first | exact ⟨by omega, by omega, by simp⟩ | omega
    · rintro n σ ⟨k, l, hk, rfl, s0, s1, s5, hl0, hl1, hsm⟩ K' hK
      by_cases hlt : k < xs.length
      · have hx := getD_map TyI.enc xs k hlt
        have he := TyI.enc_eq xs[k]
        (have hWf := WFx.mk (And.intro @s0 <| And.intro @s1 <| And.intro @s5 <| And.intro @hx <| @he); repeat' (first | refine zS ?_ | exact zE | with_reducible apply And.intro | ((with_reducible apply q_CallG); refine CallG_mk (c_szTyItem xs[k] (ho _ (List.getElem_mem hlt)) l hl0 (by omega)) ?_; rintro _ _ ⟨z, rfl, za, zb, zc⟩) | ((with_reducible apply q_CallQ); refine CallQ_mk (c_szTyItem xs[k] (ho _ (List.getElem_mem hlt)) l hl0 (by omega)) ?_) | ((with_reducible intro hb0); revert hb0; with_reducible first | exact zB0 | refine zB fun hb => ?_ | fail) | ((with_reducible apply q_Meet); exact zM) | exact zC | refine zT ?_ | fail))
        · exact ⟨_, rfl, by omega, by omega, by omega⟩
        · refine hK (xs.length - (k + 1)) _ (by omega) ⟨k + 1, z, by omega, rfl, ?_⟩
          simp only [go_sem, simprocAttr, s0, s1, s5, Int.natCast_succ]
          refine ⟨by omega, by omega, fun x hx => ?_⟩
          rw [List.take_succ_eq_append_getElem hlt] at hx
          rcases List.mem_append.1 hx with hx | hx
          · exact hsm x hx
          · simp at hx; rw [hx]; exact zc (by omega)
      · obtain rfl : k = xs.length := by omega
        (have hWf := WFx.mk (And.intro @s0 <| And.intro @s1 <| @s5); repeat' (first | refine zS ?_ | exact zE | with_reducible apply And.intro | ((with_reducible intro hb0); revert hb0; with_reducible first | exact zB0 | refine zB fun hb => ?_ | fail) | ((with_reducible apply q_Meet); exact zM) | exact zC | refine zT ?_ | fail))
        exact ⟨_, rfl, by omega, by omega, fun _ => ⟨by omega, by simpa using hsm⟩⟩
set_option maxRecDepth 100000 in
set_option maxHeartbeats 1000000 in
theorem c_eqTyItem (x : TyI) : FCon Try.prog 113 [.ag x.enc, .ag x.enc] (fun r _ => r = .s (.bool true)) := by
  refine FCon.intro PM _ Try.func113 (by kernel_rfl) rfl _ Try.ntmps113 rfl [] (by decide +kernel) (by simp) (by simp) rfl (by first | rfl | simp only [go_sem]) ?_
  (have hWf := WFx.mk @TyI.enc_eq; repeat' (first | refine zS ?_ | exact zE | with_reducible apply And.intro | ((with_reducible intro hb0); revert hb0; with_reducible first | exact zB0 | refine zB fun hb => ?_ | fail) | ((with_reducible apply q_Meet); exact zM) | exact zC | refine zT ?_ | fail))
set_option maxRecDepth 100000 in
set_option maxHeartbeats 1000000 in
theorem c_eqTyItemS (xs : List TyI) : FCon Try.prog 65 [.sl 3 (xs.map TyI.enc), .sl 3 (xs.map TyI.enc)] (fun r _ => r = .s (.bool true)) := by
  refine FCon.intro PM _ Try.func65 (by kernel_rfl) rfl _ Try.ntmps65 rfl [(6, 8, [], [], (lin [] [0, 1, 2, 3, 4, 5, 6, 7]))] (by decide +kernel) (by simp) (by simp) rfl (by first | rfl | simp only [go_sem]) ?_
  refine AC_len 0 rfl trivial fun hlen => ?_
  simp only [List.length_map] at hlen
  (have hWf := f0; repeat' (first | refine zS ?_ | exact zE | with_reducible apply And.intro | ((with_reducible intro hb0); revert hb0; with_reducible first | exact zB0 | refine zB fun hb => ?_ | fail) | ((with_reducible apply q_Meet); exact zM) | exact zC | refine zT ?_ | fail))
  refine AC_loop (fun n σ => ∃ k : Nat, k ≤ xs.length ∧ n = xs.length - k ∧ σ.t 0 = .sl 3 (xs.map TyI.enc) ∧ σ.t 1 = .sl 3 (xs.map TyI.enc) ∧ σ.t 5 = .s (.int .i64 k)) xs.length ⟨0, by omega, by omega, ?_⟩ ?_
  · simp only [go_sem, simprocAttr, Int.natCast_zero]
  · rintro n σ ⟨k, hk, rfl, h0, h1, h5⟩ K' hK
    by_cases hlt : k < xs.length
    · have hx := getD_map TyI.enc xs k hlt
      have he := TyI.enc_eq xs[k]
      (have hWf := WFx.mk (And.intro @h0 <| And.intro @h1 <| And.intro @h5 <| And.intro @hx <| @he); repeat' (first | refine zS ?_ | exact zE | with_reducible apply And.intro | refine zK (c_eqTyItem xs[k]) ?_ | ((with_reducible intro hb0); revert hb0; with_reducible first | exact zB0 | refine zB fun hb => ?_ | fail) | ((with_reducible apply q_Meet); exact zM) | exact zC | refine zT ?_ | fail))
      all_goals
        refine hK (xs.length - (k + 1)) _ (by omega) ⟨k + 1, by omega, rfl, ?_⟩
        simp only [go_sem, simprocAttr, h0, h1, h5, Int.natCast_succ]
    · (have hWf := WFx.mk (And.intro @h0 <| And.intro @h1 <| @h5); repeat' (first | refine zS ?_ | exact zE | with_reducible apply And.intro | ((with_reducible intro hb0); revert hb0; with_reducible first | exact zB0 | refine zB fun hb => ?_ | fail) | ((with_reducible apply q_Meet); exact zM) | exact zC | refine zT ?_ | fail))
set_option maxRecDepth 100000 in
set_option maxHeartbeats 1000000 in
theorem c_markTyItemS (xs : List TyI) (hl : xs.length ≤ 1048576) (k : Int) (h0 : 0 ≤ k) (hk : k + cnts TyI.cnt xs ≤ 4611686018427387904) : FCon Try.prog 67 [.osl 31 3 (xs.map TyI.own), .s (.int .i64 k)] (fun r o => r = .s (.int .i64 (k + cnts TyI.cnt xs)) ∧ o = [.osl 31 3 ((marks TyI.cnt TyI.mark k xs).map TyI.own), .un]) := by
  refine FCon.intro PM _ Try.func67 (by kernel_rfl) rfl _ Try.ntmps67 rfl [] (by decide +kernel) (by simp) (by simp) rfl (by first | rfl | simp only [go_sem]) ?_
  (have hWf := f0; repeat' (first | refine zS ?_ | exact zE | with_reducible apply And.intro | ((with_reducible intro hb0); revert hb0; with_reducible first | exact zB0 | refine zB fun hb => ?_ | fail) | ((with_reducible apply q_Meet); exact zM) | exact zC | refine zT ?_ | fail))
  refine AC_loop (fun n σ => ∃ i : Nat, i ≤ xs.length ∧ n = xs.length - i ∧ σ.t 0 = .bs 900000 3 xs.length ∧ σ.t 1 = .s (.int .i64 (k + cnts TyI.cnt (xs.take i))) ∧ σ.t 5 = .s (.int .i64 i) ∧ σ.b 900000 = some (.arr 31 3 ((stM TyI.cnt TyI.mark k xs i).map TyI.own))) xs.length ⟨0, by omega, by omega, ?_⟩ ?_
  · simp only [go_sem, simprocAttr, Int.natCast_zero, stM_zero, List.take_zero, cnts, Int.add_zero]
  · rintro n σ ⟨i, hi, rfl, h0, h1, h5, h9⟩ K' hK
    by_cases hlt : i < xs.length
    · have hc := cnts_step (c := TyI.cnt) hlt
      have hc' := cnts_le (c := TyI.cnt) xs (i + 1)
      have hx := stM_get (c := TyI.cnt) (m := TyI.mark) k hlt TyI.own
      have hpl := stM_len (c := TyI.cnt) (m := TyI.mark) k (Nat.le_of_lt hlt)
      have hst := stM_set (c := TyI.cnt) (m := TyI.mark) k hlt TyI.own
      have hgs : ∀ r, (((stM TyI.cnt TyI.mark k xs i).map TyI.own).set i r).getD i [] = r := fun r => by rw [List.getD_eq_getElem?_getD, List.getElem?_set_self (by rw [List.length_map, hpl]; exact hlt)]; rfl
      simp only [TyI.own_eq, TyI.mark] at hx hst
      simp only [TyI.cnt] at hc
      (have hWf := WFx.mk (And.intro @h0 <| And.intro @h1 <| And.intro @h5 <| And.intro @h9 <| And.intro @hx <| And.intro @hpl <| And.intro @hgs <| And.intro @hst <| @TyI.own_eq); repeat' (first | refine zS ?_ | exact zE | with_reducible apply And.intro | ((with_reducible apply q_CallG); refine zG (c_markText ((k + (cnts TyI.cnt (xs.take i) : Nat)) + 1) (by omega)) ?_) | ((with_reducible apply q_CallQ); refine CallQ_mk (c_markText ((k + (cnts TyI.cnt (xs.take i) : Nat)) + 1) (by omega)) ?_) | ((with_reducible intro hb0); revert hb0; with_reducible first | exact zB0 | refine zB fun hb => ?_ | fail) | ((with_reducible apply q_Meet); exact zM) | exact zC | refine zT ?_ | fail))
      refine hK (xs.length - (i + 1)) _ (by omega) ⟨i + 1, by omega, rfl, ?_⟩
      simp only [go_sem, simprocAttr, h0, h1, h5, h9, Int.natCast_succ, hst]
      exact sI_congr (by rw [hc]; push_cast; omega)
    · obtain rfl : i = xs.length := by omega
      rw [stM_all] at h9
      rw [List.take_length] at h1
      (have hWf := WFx.mk (And.intro @h0 <| And.intro @h1 <| And.intro @h5 <| And.intro @h9 <| @marks_len); repeat' (first | refine zS ?_ | exact zE | with_reducible apply And.intro | ((with_reducible intro hb0); revert hb0; with_reducible first | exact zB0 | refine zB fun hb => ?_ | fail) | ((with_reducible apply q_Meet); exact zM) | exact zC | refine zT ?_ | fail))
set_option maxRecDepth 100000 in
set_option maxHeartbeats 1000000 in
theorem c_heldTyItemS (xs : List TyI) (hl : xs.length ≤ 1048576) (k : Int) (h0 : 0 ≤ k) (hk : k + cnts TyI.cnt xs ≤ 4611686018427387904) : FCon Try.prog 68 [.sl 3 ((marks TyI.cnt TyI.mark k xs).map TyI.enc), .s (.int .i64 k)] (fun r _ => r = .s (.int .i64 (k + cnts TyI.cnt xs))) := by
  refine FCon.intro PM _ Try.func68 (by kernel_rfl) rfl _ Try.ntmps68 rfl [(7, 7, [], [], (lin [] [0, 1, 2, 3, 4, 5, 6]))] (by decide +kernel) (by simp) (by simp) rfl (by first | rfl | simp only [go_sem]) ?_
  have hml := marks_len (c := TyI.cnt) (m := TyI.mark) k xs
  (have hWf := f0; repeat' (first | refine zS ?_ | exact zE | with_reducible apply And.intro | ((with_reducible intro hb0); revert hb0; with_reducible first | exact zB0 | refine zB fun hb => ?_ | fail) | ((with_reducible apply q_Meet); exact zM) | exact zC | refine zT ?_ | fail))
  refine AC_loop (fun n σ => ∃ i : Nat, i ≤ xs.length ∧ n = xs.length - i ∧ σ.t 0 = .sl 3 ((marks TyI.cnt TyI.mark k xs).map TyI.enc) ∧ σ.t 1 = .s (.int .i64 (k + cnts TyI.cnt (xs.take i))) ∧ σ.t 5 = .s (.int .i64 i)) xs.length ⟨0, by omega, by omega, ?_⟩ ?_
  · simp only [go_sem, simprocAttr, Int.natCast_zero, List.take_zero, cnts, Int.add_zero]
  · rintro n σ ⟨i, hi, rfl, h0, h1, h5⟩ K' hK
    by_cases hlt : i < xs.length
    · have hc := cnts_step (c := TyI.cnt) hlt
      have hc' := cnts_le (c := TyI.cnt) xs (i + 1)
      have hx := marks_get (c := TyI.cnt) (m := TyI.mark) k hlt TyI.enc
      simp only [TyI.enc_eq, TyI.mark] at hx
      simp only [TyI.cnt] at hc
      (have hWf := WFx.mk (And.intro @h0 <| And.intro @h1 <| And.intro @h5 <| And.intro @hx <| @hml); repeat' (first | refine zS ?_ | exact zE | with_reducible apply And.intro | ((with_reducible apply q_CallG); refine zG (c_markText ((k + (cnts TyI.cnt (xs.take i) : Nat)) + 1) (by omega)) ?_) | ((with_reducible apply q_CallQ); refine CallQ_mk (c_markText ((k + (cnts TyI.cnt (xs.take i) : Nat)) + 1) (by omega)) ?_) | ((with_reducible intro hb0); revert hb0; with_reducible first | exact zB0 | refine zB fun hb => ?_ | fail) | ((with_reducible apply q_Meet); exact zM) | exact zC | refine zT ?_ | fail))
      all_goals
        refine hK (xs.length - (i + 1)) _ (by omega) ⟨i + 1, by omega, rfl, ?_⟩
        simp only [go_sem, simprocAttr, h0, h1, h5, Int.natCast_succ]
        exact sI_congr (by rw [hc]; push_cast; omega)
    · obtain rfl : i = xs.length := by omega
      rw [List.take_length] at h1
      (have hWf := WFx.mk (And.intro @h0 <| And.intro @h1 <| And.intro @h5 <| @hml); repeat' (first | refine zS ?_ | exact zE | with_reducible apply And.intro | ((with_reducible intro hb0); revert hb0; with_reducible first | exact zB0 | refine zB fun hb => ?_ | fail) | ((with_reducible apply q_Meet); exact zM) | exact zC | refine zT ?_ | fail))
end Go.Proofs.Ytngobmjdbjlkcaa
