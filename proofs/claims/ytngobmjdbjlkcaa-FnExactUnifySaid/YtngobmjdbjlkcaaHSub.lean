import Derived.Test.YtngobmjdbjlkcaaHTy
/- Data Sub over the second engine: how they lie, own and lent; copies, sizes, comparisons, marks. Printed by gen2.py. -/
namespace Go.Proofs.Ytngobmjdbjlkcaa
set_option linter.unusedVariables false
set_option linter.unusedSimpArgs false
attribute [local go_sem] List.length_set List.set_set
open Go.RowKit Go.ChangeShapes Go.WideShapes
structure SubM where
  v : Int
  ty : List TyI
def SubM.enc (x : SubM) : List D := [.s (.int .i64 x.v), .sl 3 (x.ty.map TyI.enc)]
theorem SubM.enc_eq (x : SubM) : x.enc = [.s (.int .i64 x.v), .sl 3 (x.ty.map TyI.enc)] := rfl
def SubM.own (x : SubM) : List D := [.s (.int .i64 x.v), .osl 31 3 (x.ty.map TyI.own)]
theorem SubM.own_eq (x : SubM) : x.own = [.s (.int .i64 x.v), .osl 31 3 (x.ty.map TyI.own)] := rfl
theorem SubM.frz_eq (x : SubM) : frzL x.own = x.enc := by
  simp only [SubM.own_eq, SubM.enc_eq, frzL, frz, frz_rows TyI.frz_eq]
def SubM.ok (x : SubM) : Prop := I64 x.v ∧ (∀ y ∈ x.ty, y.ok)
def SubM.sm (x : SubM) : Prop := smS TyI.sm x.ty
def SubM.cnt (x : SubM) : Nat := 1 + cnts TyI.cnt x.ty
def SubM.mark (k : Int) (x : SubM) : SubM := ⟨k, marks TyI.cnt TyI.mark (k + 1) x.ty⟩
theorem SubM.cnt_eq (x : SubM) : x.cnt = 1 + cnts TyI.cnt x.ty := rfl
theorem SubM.mark_eq (k : Int) (x : SubM) : SubM.mark k x = ⟨k, marks TyI.cnt TyI.mark (k + 1) x.ty⟩ := rfl
theorem SubM.pure (x : SubM) : ∀ d ∈ x.own, Pure d := by
  simp only [SubM.own_eq, List.forall_mem_cons, List.not_mem_nil, false_imp_iff, implies_true, and_true]
  exact ⟨.s _, pure_rows TyI.pure _ _ _⟩
theorem SubM.pureS (e k : Nat) (xs : List SubM) : Pure (.osl e k (xs.map SubM.own)) = True := eq_true (pure_rows SubM.pure e k xs)
attribute [go_sem] SubM.pureS
theorem SubM.frzS (xs : List SubM) : frzLL (xs.map SubM.own) = xs.map SubM.enc := frz_rows SubM.frz_eq xs
attribute [go_sem] SubM.frzS
set_option maxRecDepth 100000 in
set_option maxHeartbeats 1000000 in
theorem c_toSub (x : SubM) (hs : x.sm) : FCon Try.prog 63 [.ag x.enc] (fun r _ => r = .ag x.own) := by
  refine FCon.intro PM _ Try.func63 (by kernel_rfl) rfl _ Try.ntmps63 rfl [] (by decide +kernel) (by simp) (by simp) rfl (by first | rfl | simp only [go_sem]) ?_
  (have hWf := WFx.mk (And.intro @SubM.enc_eq <| And.intro @SubM.own_eq <| And.intro @MTy.enc_eq <| @MTy.own_eq); repeat' (first | refine zS ?_ | exact zE | with_reducible apply And.intro | refine zK (c_toTy ⟨x.ty⟩ (hs)) ?_ | ((with_reducible intro hb0); revert hb0; with_reducible first | exact zB0 | refine zB fun hb => ?_ | fail) | ((with_reducible apply q_Meet); exact zM) | exact zC | refine zT ?_ | fail))
set_option maxRecDepth 100000 in
set_option maxHeartbeats 1000000 in
theorem c_toSubS (xs : List SubM) (hs : smS SubM.sm xs) : FCon Try.prog 19 [.sl 2 (xs.map SubM.enc)] (fun r _ => r = .osl 77 2 (xs.map SubM.own)) := by
  have hl := hs.1
  refine FCon.intro PM _ Try.func19 (by kernel_rfl) rfl _ Try.ntmps19 rfl [] (by decide +kernel) (by simp) (by simp) rfl (by first | rfl | simp only [go_sem]) ?_
  (have hWf := f0; repeat' (first | refine zS ?_ | exact zE | with_reducible apply And.intro | ((with_reducible intro hb0); revert hb0; with_reducible first | exact zB0 | refine zB fun hb => ?_ | fail) | ((with_reducible apply q_Meet); exact zM) | exact zC | refine zT ?_ | fail))
  refine AC_loop (fun n σ => ∃ k : Nat, k ≤ xs.length ∧ n = xs.length - k ∧ σ.t 0 = .sl 2 (xs.map SubM.enc) ∧ σ.t 3 = .bs 7 2 xs.length ∧ σ.t 4 = .s (.int .i64 k) ∧ σ.b 7 = some (.arr 77 2 (partR SubM.own [.s (.int .i64 0), .nil] xs k))) xs.length ⟨0, by omega, by omega, ?_⟩ ?_
  · simp only [go_sem, simprocAttr, partR_zero, Int.natCast_zero]
  · rintro n σ ⟨k, hk, rfl, h0, h3, h4, h7⟩ K' hK
    by_cases hlt : k < xs.length
    · have hx := getD_map SubM.enc xs k hlt
      have he := SubM.enc_eq xs[k]
      have hpl := partR_len (f := SubM.own) (z := [.s (.int .i64 0), .nil]) (Nat.le_of_lt hlt)
      have hg := partR_get (f := SubM.own) (z := [.s (.int .i64 0), .nil]) hlt
      have hst := partR_set (f := SubM.own) (z := [.s (.int .i64 0), .nil]) hlt
      rw [SubM.own_eq] at hst
      (have hWf := WFx.mk (And.intro @h0 <| And.intro @h3 <| And.intro @h4 <| And.intro @h7 <| And.intro @hx <| And.intro @he <| And.intro @SubM.own_eq <| And.intro @hpl <| And.intro @hg <| @hst); repeat' (first | refine zS ?_ | exact zE | with_reducible apply And.intro | ((with_reducible apply q_CallG); refine zG (c_toSub xs[k] (hs.2 _ (List.getElem_mem hlt))) ?_) | ((with_reducible apply q_CallQ); refine CallQ_mk (c_toSub xs[k] (hs.2 _ (List.getElem_mem hlt))) ?_) | ((with_reducible intro hb0); revert hb0; with_reducible first | exact zB0 | refine zB fun hb => ?_ | fail) | ((with_reducible apply q_Meet); exact zM) | exact zC | refine zT ?_ | fail))
      refine hK (xs.length - (k + 1)) _ (by omega) ⟨k + 1, by omega, rfl, ?_⟩
      simp only [go_sem, simprocAttr, h0, h3, h4, h7, Int.natCast_succ]
    · obtain rfl : k = xs.length := by omega
      rw [partR_all] at h7
      (have hWf := WFx.mk (And.intro @h0 <| And.intro @h3 <| And.intro @h4 <| @h7); repeat' (first | refine zS ?_ | exact zE | with_reducible apply And.intro | ((with_reducible intro hb0); revert hb0; with_reducible first | exact zB0 | refine zB fun hb => ?_ | fail) | ((with_reducible apply q_Meet); exact zM) | exact zC | refine zT ?_ | fail))
set_option maxRecDepth 100000 in
set_option maxHeartbeats 1000000 in
theorem c_szSub (x : SubM) (ho : x.ok) (left : Int) (h0 : 0 ≤ left) (h1 : left ≤ 1048576) : FCon Try.prog 60 [.ag x.enc, .s (.int .i64 left)] (fun r _ => RsZ left x.sm r) := by
  refine FCon.intro PM _ Try.func60 (by kernel_rfl) rfl _ Try.ntmps60 rfl [] (by decide +kernel) (by simp) (by simp) rfl (by first | rfl | simp only [go_sem]) ?_
  (have hWf := WFx.mk (And.intro @SubM.enc_eq <| @MTy.enc_eq); repeat' (first | refine zS ?_ | exact zE | with_reducible apply And.intro | ((with_reducible apply q_CallG); refine CallG_mk (c_szTy ⟨x.ty⟩ (ho.2) _ (by omega) (by omega)) ?_; rintro _ _ ⟨z0, rfl, z0a, z0b, z0c⟩) | ((with_reducible apply q_CallQ); refine CallQ_mk (c_szTy ⟨x.ty⟩ (ho.2) _ (by omega) (by omega)) ?_) | ((with_reducible intro hb0); revert hb0; with_reducible first | exact zB0 | refine zB fun hb => ?_ | fail) | ((with_reducible apply q_Meet); exact zM) | exact zC | refine zT ?_ | fail))
  all_goals (first | exact ⟨_, rfl, by omega, by omega, by omega⟩ | exact ⟨_, rfl, by omega, by omega, fun _ => (show smS TyI.sm x.ty from (z0c (by omega)))⟩)
set_option maxRecDepth 100000 in
set_option maxHeartbeats 1000000 in
theorem c_szSubS (xs : List SubM) (ho : ∀ x ∈ xs, x.ok) (left : Int) (h0 : 0 ≤ left) (h1 : left ≤ 1048576) : FCon Try.prog 16 [.sl 2 (xs.map SubM.enc), .s (.int .i64 left)] (fun r _ => RsZ left (smS SubM.sm xs) r) := by
  refine FCon.intro PM _ Try.func16 (by kernel_rfl) rfl _ Try.ntmps16 rfl [] (by decide +kernel) (by simp) (by simp) rfl (by first | rfl | simp only [go_sem]) ?_
  refine AC_len 0 rfl trivial fun hlen => ?_
  simp only [List.length_map] at hlen
  by_cases hll : left < xs.length
  · (have hWf := f0; repeat' (first | refine zS ?_ | exact zE | with_reducible apply And.intro | ((with_reducible intro hb0); revert hb0; with_reducible first | exact zB0 | refine zB fun hb => ?_ | fail) | ((with_reducible apply q_Meet); exact zM) | exact zC | refine zT ?_ | fail))
    all_goals exact ⟨_, rfl, by omega, by omega, by omega⟩
  · (have hWf := f0; repeat' (first | refine zS ?_ | exact zE | with_reducible apply And.intro | ((with_reducible intro hb0); revert hb0; with_reducible first | exact zB0 | refine zB fun hb => ?_ | fail) | ((with_reducible apply q_Meet); exact zM) | exact zC | refine zT ?_ | fail))
    refine AC_loop (fun n σ => ∃ (k : Nat) (l : Int), k ≤ xs.length ∧ n = xs.length - k ∧ σ.t 0 = .sl 2 (xs.map SubM.enc) ∧ σ.t 1 = .s (.int .i64 l) ∧ σ.t 5 = .s (.int .i64 k) ∧ 0 ≤ l ∧ l ≤ left ∧ ∀ x ∈ xs.take k, x.sm) xs.length ⟨0, left - xs.length, by omega, by omega, ?_⟩ ?_
    · simp only [go_sem, simprocAttr, Int.natCast_zero]
      first | exact ⟨by omega, by omega, by simp⟩ | omega
    · rintro n σ ⟨k, l, hk, rfl, s0, s1, s5, hl0, hl1, hsm⟩ K' hK
      by_cases hlt : k < xs.length
      · have hx := getD_map SubM.enc xs k hlt
        have he := SubM.enc_eq xs[k]
        (have hWf := WFx.mk (And.intro @s0 <| And.intro @s1 <| And.intro @s5 <| And.intro @hx <| @he); repeat' (first | refine zS ?_ | exact zE | with_reducible apply And.intro | ((with_reducible apply q_CallG); refine CallG_mk (c_szSub xs[k] (ho _ (List.getElem_mem hlt)) l hl0 (by omega)) ?_; rintro _ _ ⟨z, rfl, za, zb, zc⟩) | ((with_reducible apply q_CallQ); refine CallQ_mk (c_szSub xs[k] (ho _ (List.getElem_mem hlt)) l hl0 (by omega)) ?_) | ((with_reducible intro hb0); revert hb0; with_reducible first | exact zB0 | refine zB fun hb => ?_ | fail) | ((with_reducible apply q_Meet); exact zM) | exact zC | refine zT ?_ | fail))
        · exact ⟨_, rfl, by omega, by omega, by omega⟩
        · refine hK (xs.length - (k + 1)) _ (by omega) ⟨k + 1, z, by omega, rfl, ?_⟩
          simp only [go_sem, simprocAttr, s0, s1, s5, Int.natCast_succ]
          refine ⟨by omega, by omega, fun x hx => ?_⟩
          rw [List.take_succ_eq_append_getElem hlt] at hx
          rcases List.mem_append.1 hx with hx | hx
          · exact hsm x hx
          · simp at hx; rw [hx]; exact zc (by omega)
      · obtain rfl : k = xs.length := by omega
        (have hWf := WFx.mk (And.intro @s0 <| And.intro @s1 <| @s5); repeat' (first | refine zS ?_ | exact zE | with_reducible apply And.intro | ((with_reducible intro hb0); revert hb0; with_reducible first | exact zB0 | refine zB fun hb => ?_ | fail) | ((with_reducible apply q_Meet); exact zM) | exact zC | refine zT ?_ | fail))
        exact ⟨_, rfl, by omega, by omega, fun _ => ⟨by omega, by simpa using hsm⟩⟩
set_option maxRecDepth 100000 in
set_option maxHeartbeats 1000000 in
theorem c_eqSub (x : SubM) : FCon Try.prog 66 [.ag x.enc, .ag x.enc] (fun r _ => r = .s (.bool true)) := by
  refine FCon.intro PM _ Try.func66 (by kernel_rfl) rfl _ Try.ntmps66 rfl [] (by decide +kernel) (by simp) (by simp) rfl (by first | rfl | simp only [go_sem]) ?_
  (have hWf := WFx.mk (And.intro @SubM.enc_eq <| @MTy.enc_eq); repeat' (first | refine zS ?_ | exact zE | with_reducible apply And.intro | refine zK (c_eqTy ⟨x.ty⟩) ?_ | ((with_reducible intro hb0); revert hb0; with_reducible first | exact zB0 | refine zB fun hb => ?_ | fail) | ((with_reducible apply q_Meet); exact zM) | exact zC | refine zT ?_ | fail))
set_option maxRecDepth 100000 in
set_option maxHeartbeats 1000000 in
theorem c_eqSubS (xs : List SubM) : FCon Try.prog 22 [.sl 2 (xs.map SubM.enc), .sl 2 (xs.map SubM.enc)] (fun r _ => r = .s (.bool true)) := by
  refine FCon.intro PM _ Try.func22 (by kernel_rfl) rfl _ Try.ntmps22 rfl [(6, 8, [], [], (lin [] [0, 1, 2, 3, 4, 5, 6, 7]))] (by decide +kernel) (by simp) (by simp) rfl (by first | rfl | simp only [go_sem]) ?_
  refine AC_len 0 rfl trivial fun hlen => ?_
  simp only [List.length_map] at hlen
  (have hWf := f0; repeat' (first | refine zS ?_ | exact zE | with_reducible apply And.intro | ((with_reducible intro hb0); revert hb0; with_reducible first | exact zB0 | refine zB fun hb => ?_ | fail) | ((with_reducible apply q_Meet); exact zM) | exact zC | refine zT ?_ | fail))
  refine AC_loop (fun n σ => ∃ k : Nat, k ≤ xs.length ∧ n = xs.length - k ∧ σ.t 0 = .sl 2 (xs.map SubM.enc) ∧ σ.t 1 = .sl 2 (xs.map SubM.enc) ∧ σ.t 5 = .s (.int .i64 k)) xs.length ⟨0, by omega, by omega, ?_⟩ ?_
  · simp only [go_sem, simprocAttr, Int.natCast_zero]
  · rintro n σ ⟨k, hk, rfl, h0, h1, h5⟩ K' hK
    by_cases hlt : k < xs.length
    · have hx := getD_map SubM.enc xs k hlt
      have he := SubM.enc_eq xs[k]
      (have hWf := WFx.mk (And.intro @h0 <| And.intro @h1 <| And.intro @h5 <| And.intro @hx <| @he); repeat' (first | refine zS ?_ | exact zE | with_reducible apply And.intro | refine zK (c_eqSub xs[k]) ?_ | ((with_reducible intro hb0); revert hb0; with_reducible first | exact zB0 | refine zB fun hb => ?_ | fail) | ((with_reducible apply q_Meet); exact zM) | exact zC | refine zT ?_ | fail))
      all_goals
        refine hK (xs.length - (k + 1)) _ (by omega) ⟨k + 1, by omega, rfl, ?_⟩
        simp only [go_sem, simprocAttr, h0, h1, h5, Int.natCast_succ]
    · (have hWf := WFx.mk (And.intro @h0 <| And.intro @h1 <| @h5); repeat' (first | refine zS ?_ | exact zE | with_reducible apply And.intro | ((with_reducible intro hb0); revert hb0; with_reducible first | exact zB0 | refine zB fun hb => ?_ | fail) | ((with_reducible apply q_Meet); exact zM) | exact zC | refine zT ?_ | fail))
set_option maxRecDepth 100000 in
set_option maxHeartbeats 1000000 in
theorem c_markSubS (xs : List SubM) (hs : smS SubM.sm xs) (k : Int) (h0 : 0 ≤ k) (hk : k + cnts SubM.cnt xs ≤ 4611686018427387904) : FCon Try.prog 24 [.osl 77 2 (xs.map SubM.own), .s (.int .i64 k)] (fun r o => r = .s (.int .i64 (k + cnts SubM.cnt xs)) ∧ o = [.osl 77 2 ((marks SubM.cnt SubM.mark k xs).map SubM.own), .un]) := by
  refine FCon.intro PM _ Try.func24 (by kernel_rfl) rfl _ Try.ntmps24 rfl [] (by decide +kernel) (by simp) (by simp) rfl (by first | rfl | simp only [go_sem]) ?_
  (have hWf := f0; repeat' (first | refine zS ?_ | exact zE | with_reducible apply And.intro | ((with_reducible intro hb0); revert hb0; with_reducible first | exact zB0 | refine zB fun hb => ?_ | fail) | ((with_reducible apply q_Meet); exact zM) | exact zC | refine zT ?_ | fail))
  refine AC_loopW (fun n σ => ∃ i : Nat, i ≤ xs.length ∧ n = xs.length - i ∧ σ.t 0 = .bs 900000 2 xs.length ∧ σ.t 1 = .s (.int .i64 (k + cnts SubM.cnt (xs.take i))) ∧ σ.t 5 = .s (.int .i64 i) ∧ σ.b 900000 = some (.arr 77 2 ((stM SubM.cnt SubM.mark k xs i).map SubM.own))) xs.length ⟨0, by omega, by omega, ?_⟩ ?_
  · simp only [go_sem, simprocAttr, Int.natCast_zero, stM_zero, List.take_zero, cnts, Int.add_zero]
  · rintro n σ ⟨i, hi, rfl, h0, h1, h5, h9⟩ K' hK
    by_cases hlt : i < xs.length
    · have hc := cnts_step (c := SubM.cnt) hlt
      have hc' := cnts_le (c := SubM.cnt) xs (i + 1)
      have hx := stM_get (c := SubM.cnt) (m := SubM.mark) k hlt SubM.own
      have hpl := stM_len (c := SubM.cnt) (m := SubM.mark) k (Nat.le_of_lt hlt)
      have hst := stM_set (c := SubM.cnt) (m := SubM.mark) k hlt SubM.own
      have hgs : ∀ r, (((stM SubM.cnt SubM.mark k xs i).map SubM.own).set i r).getD i [] = r := fun r => by rw [List.getD_eq_getElem?_getD, List.getElem?_set_self (by rw [List.length_map, hpl]; exact hlt)]; rfl
      simp only [SubM.own_eq, SubM.mark] at hx hst
      simp only [SubM.cnt] at hc
      have hrow : ((stM SubM.cnt SubM.mark k xs i).map SubM.own)[i]? = some (SubM.own xs[i]) := by
        have h1 : i < ((stM SubM.cnt SubM.mark k xs i).map SubM.own).length := by simpa [hpl] using hlt
        rw [List.getElem?_eq_getElem h1, ← getD_of (List.getElem?_eq_getElem h1), hx]
        rfl
      have hsx := hs.2 _ (List.getElem_mem hlt)
      have hl := hs.1
      (refine AC_go ?_; simp only [go_sem, simprocAttr, h0, h1, h5]; (have hWf := WFx.mk (And.intro @h0 <| And.intro @h1 <| @h5); repeat' (first | refine zY ?_ | with_reducible apply And.intro | ((with_reducible intro hb0); revert hb0; with_reducible first | exact zB0 | refine zB fun hb => ?_ | fail) | ((with_reducible apply q_Meet); exact zM) | exact zC | refine zT ?_ | fail)))
      (refine AC_go ?_; simp only [go_sem, simprocAttr, h0, h1, h5]; (have hWf := WFx.mk (And.intro @h0 <| And.intro @h1 <| @h5); repeat' (first | refine zY ?_ | with_reducible apply And.intro | ((with_reducible intro hb0); revert hb0; with_reducible first | exact zB0 | refine zB fun hb => ?_ | fail) | ((with_reducible apply q_Meet); exact zM) | exact zC | refine zT ?_ | fail)))
      (refine AC_go ?_; simp only [go_sem, simprocAttr, h0, h1, h5]; (have hWf := WFx.mk (And.intro @h0 <| And.intro @h1 <| @h5); repeat' (first | refine zY ?_ | with_reducible apply And.intro | ((with_reducible intro hb0); revert hb0; with_reducible first | exact zB0 | refine zB fun hb => ?_ | fail) | ((with_reducible apply q_Meet); exact zM) | exact zC | refine zT ?_ | fail)))
      (refine AC_go ?_; simp only [go_sem, simprocAttr, h0, h1, h5, h9, hx, hpl, hgs, List.set_set, List.length_set, SubM.own_eq]; (have hWf := WFx.mk (And.intro @h0 <| And.intro @h1 <| And.intro @h5 <| And.intro @h9 <| And.intro @hx <| And.intro @hpl <| And.intro @hgs <| @SubM.own_eq); repeat' (first | refine zY ?_ | with_reducible apply And.intro | ((with_reducible intro hb0); revert hb0; with_reducible first | exact zB0 | refine zB fun hb => ?_ | fail) | ((with_reducible apply q_Meet); exact zM) | exact zC | refine zT ?_ | fail)))
      (refine AC_go ?_; simp only [go_sem, simprocAttr, h0, h1, h5, h9, hx, hpl, hgs, List.set_set, List.length_set, SubM.own_eq]; (have hWf := WFx.mk (And.intro @h0 <| And.intro @h1 <| And.intro @h5 <| And.intro @h9 <| And.intro @hx <| And.intro @hpl <| And.intro @hgs <| @SubM.own_eq); repeat' (first | refine zY ?_ | with_reducible apply And.intro | ((with_reducible intro hb0); revert hb0; with_reducible first | exact zB0 | refine zB fun hb => ?_ | fail) | ((with_reducible apply q_Meet); exact zM) | exact zC | refine zT ?_ | fail)))
      refine AC_open 900000 i 1 1000000001 (e := 77) (k := 2) (rows := ((stM SubM.cnt SubM.mark k xs i).map SubM.own).set i [.s (.int .i64 (k + (cnts SubM.cnt (xs.take i) : Nat))), .osl 31 3 (xs[i].ty.map TyI.own)]) (row := [.s (.int .i64 (k + (cnts SubM.cnt (xs.take i) : Nat))), .osl 31 3 (xs[i].ty.map TyI.own)]) (d := .osl 31 3 (xs[i].ty.map TyI.own)) (by simp only [go_sem, simprocAttr, h9]) (List.getElem?_set_self (by rw [List.length_map, hpl]; exact hlt)) rfl rfl (by decide) (by decide) ?_
      (have hWf := WFx.mk (And.intro @h0 <| And.intro @h1 <| And.intro @h5 <| And.intro @h9 <| And.intro @hx <| And.intro @hpl <| And.intro @hgs <| And.intro @SubM.own_eq <| @marks_len); repeat' (first | refine zS ?_ | exact zE | with_reducible apply And.intro | ((with_reducible apply q_CallG); refine CallG_mk (c_markTyItemS xs[i].ty (hsx).1 _ (by omega) (by omega)) ?_; rintro _ _ ⟨rfl, rfl⟩) | ((with_reducible apply q_CallQ); refine CallQ_mk (c_markTyItemS xs[i].ty (hsx).1 _ (by omega) (by omega)) ?_) | ((with_reducible intro hb0); revert hb0; with_reducible first | exact zB0 | refine zB fun hb => ?_ | fail) | ((with_reducible apply q_Meet); exact zM) | exact zC | refine zT ?_ | fail))
      refine hK (xs.length - (i + 1)) _ _ (by omega) (Wk_close 900000 1000000001 (e := 77) (k := 2) (i := i) (j := 1) (rows := ((stM SubM.cnt SubM.mark k xs i).map SubM.own).set i [.s (.int .i64 (k + (cnts SubM.cnt (xs.take i) : Nat))), .osl 31 3 (xs[i].ty.map TyI.own)]) (r := .bs 1000000001 3 xs[i].ty.length) (d := .osl 31 3 ((marks TyI.cnt TyI.mark ((k + (cnts SubM.cnt (xs.take i) : Nat)) + 1) xs[i].ty).map TyI.own)) (ob := 3 = 3 ∧ xs[i].ty.length ≤ ((marks TyI.cnt TyI.mark ((k + (cnts SubM.cnt (xs.take i) : Nat)) + 1) xs[i].ty).map TyI.own).length) ?_ ?_ ⟨rfl, by rw [List.length_map, marks_len]; exact Nat.le_refl _⟩ rfl (by decide)) ⟨i + 1, by omega, rfl, ?_⟩
      · simp only [go_sem, simprocAttr, h9, hgs]
      · simp only [go_sem, simprocAttr, marks_len]
      · simp only [go_sem, simprocAttr, h0, h1, h5, h9, Int.natCast_succ, hst, hgs, List.set_set, List.set_cons_succ, List.set_cons_zero]
        exact sI_congr (by rw [hc]; push_cast; omega)
    · obtain rfl : i = xs.length := by omega
      rw [stM_all] at h9
      rw [List.take_length] at h1
      (have hWf := WFx.mk (And.intro @h0 <| And.intro @h1 <| And.intro @h5 <| And.intro @h9 <| @marks_len); repeat' (first | refine zS ?_ | exact zE | with_reducible apply And.intro | ((with_reducible intro hb0); revert hb0; with_reducible first | exact zB0 | refine zB fun hb => ?_ | fail) | ((with_reducible apply q_Meet); exact zM) | exact zC | refine zT ?_ | fail))
set_option maxRecDepth 100000 in
set_option maxHeartbeats 1000000 in
theorem c_heldSubS (xs : List SubM) (hs : smS SubM.sm xs) (k : Int) (h0 : 0 ≤ k) (hk : k + cnts SubM.cnt xs ≤ 4611686018427387904) : FCon Try.prog 37 [.sl 2 ((marks SubM.cnt SubM.mark k xs).map SubM.enc), .s (.int .i64 k)] (fun r _ => r = .s (.int .i64 (k + cnts SubM.cnt xs))) := by
  have hl := hs.1
  refine FCon.intro PM _ Try.func37 (by kernel_rfl) rfl _ Try.ntmps37 rfl [] (by decide +kernel) (by simp) (by simp) rfl (by first | rfl | simp only [go_sem]) ?_
  have hml := marks_len (c := SubM.cnt) (m := SubM.mark) k xs
  (have hWf := f0; repeat' (first | refine zS ?_ | exact zE | with_reducible apply And.intro | ((with_reducible intro hb0); revert hb0; with_reducible first | exact zB0 | refine zB fun hb => ?_ | fail) | ((with_reducible apply q_Meet); exact zM) | exact zC | refine zT ?_ | fail))
  refine AC_loop (fun n σ => ∃ i : Nat, i ≤ xs.length ∧ n = xs.length - i ∧ σ.t 0 = .sl 2 ((marks SubM.cnt SubM.mark k xs).map SubM.enc) ∧ σ.t 1 = .s (.int .i64 (k + cnts SubM.cnt (xs.take i))) ∧ σ.t 5 = .s (.int .i64 i)) xs.length ⟨0, by omega, by omega, ?_⟩ ?_
  · simp only [go_sem, simprocAttr, Int.natCast_zero, List.take_zero, cnts, Int.add_zero]
  · rintro n σ ⟨i, hi, rfl, h0, h1, h5⟩ K' hK
    by_cases hlt : i < xs.length
    · have hc := cnts_step (c := SubM.cnt) hlt
      have hc' := cnts_le (c := SubM.cnt) xs (i + 1)
      have hx := marks_get (c := SubM.cnt) (m := SubM.mark) k hlt SubM.enc
      simp only [SubM.enc_eq, SubM.mark] at hx
      simp only [SubM.cnt] at hc
      have hsx := hs.2 _ (List.getElem_mem hlt)
      (have hWf := WFx.mk (And.intro @h0 <| And.intro @h1 <| And.intro @h5 <| And.intro @hx <| @hml); repeat' (first | refine zS ?_ | exact zE | with_reducible apply And.intro | ((with_reducible apply q_CallG); refine zG (c_heldTyItemS xs[i].ty (hsx).1 _ (by omega) (by omega)) ?_) | ((with_reducible apply q_CallQ); refine CallQ_mk (c_heldTyItemS xs[i].ty (hsx).1 _ (by omega) (by omega)) ?_) | ((with_reducible intro hb0); revert hb0; with_reducible first | exact zB0 | refine zB fun hb => ?_ | fail) | ((with_reducible apply q_Meet); exact zM) | exact zC | refine zT ?_ | fail))
      all_goals
        refine hK (xs.length - (i + 1)) _ (by omega) ⟨i + 1, by omega, rfl, ?_⟩
        simp only [go_sem, simprocAttr, h0, h1, h5, Int.natCast_succ]
        exact sI_congr (by rw [hc]; push_cast; omega)
    · obtain rfl : i = xs.length := by omega
      rw [List.take_length] at h1
      (have hWf := WFx.mk (And.intro @h0 <| And.intro @h1 <| And.intro @h5 <| @hml); repeat' (first | refine zS ?_ | exact zE | with_reducible apply And.intro | ((with_reducible intro hb0); revert hb0; with_reducible first | exact zB0 | refine zB fun hb => ?_ | fail) | ((with_reducible apply q_Meet); exact zM) | exact zC | refine zT ?_ | fail))
end Go.Proofs.Ytngobmjdbjlkcaa
