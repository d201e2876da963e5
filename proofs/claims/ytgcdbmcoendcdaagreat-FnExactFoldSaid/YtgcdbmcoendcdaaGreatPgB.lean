import Derived.Test.YtgcdbmcoendcdaaGreatHaB
import Derived.Test.YtgcdbmcoendcdaaGreatPaB
import Derived.Test.YtgcdbmcoendcdaaGreatNmB
/- Data Node over the second engine: how they lie, own and lent; copies, sizes, comparisons, marks. Printed by gen2.py. -/
set_option maxRecDepth 100000
set_option maxHeartbeats 1000000
namespace Go.Proofs.YtgcdbmcoendcdaaGreat
set_option linter.unusedVariables false
set_option linter.unusedSimpArgs false
attribute [local go_sem] List.length_set List.set_set
open Go.RowKit Go.ChangeShapes Go.WideShapes
structure MNode where
  kind : Int
  at_ : Int
  n : Int
  s : ByteArray
  kids : List Int
  pats : List MPat
def MNode.enc (x : MNode) : List D := [.s (.int .i64 x.kind), .s (.int .i64 x.at_), .s (.int .i64 x.n), .s (.string x.s), .sl 1 (x.kids.map iE), .sl 1 (x.pats.map MPat.enc)]
theorem MNode.enc_eq (x : MNode) : x.enc = [.s (.int .i64 x.kind), .s (.int .i64 x.at_), .s (.int .i64 x.n), .s (.string x.s), .sl 1 (x.kids.map iE), .sl 1 (x.pats.map MPat.enc)] := rfl
def MNode.own (x : MNode) : List D := [.s (.int .i64 x.kind), .s (.int .i64 x.at_), .s (.int .i64 x.n), .s (.string x.s), .osl 3 1 (x.kids.map iE), .osl 89 1 (x.pats.map MPat.own)]
theorem MNode.own_eq (x : MNode) : x.own = [.s (.int .i64 x.kind), .s (.int .i64 x.at_), .s (.int .i64 x.n), .s (.string x.s), .osl 3 1 (x.kids.map iE), .osl 89 1 (x.pats.map MPat.own)] := rfl
theorem MNode.frz_eq (x : MNode) : frzL x.own = x.enc := by
  simp only [MNode.own_eq, MNode.enc_eq, frzL, frz, frz_rows iE_frz, frz_rows MPat.frz_eq]
def MNode.ok (x : MNode) : Prop := I64 x.kind ∧ I64 x.at_ ∧ I64 x.n ∧ x.s.size ≤ maxLen ∧ (∀ y ∈ x.kids, I64 y) ∧ (∀ y ∈ x.pats, y.ok)
def MNode.sm (x : MNode) : Prop := x.s.size ≤ 1048576 ∧ smS (fun _ : Int => True) x.kids ∧ smS MPat.sm x.pats
def MNode.cnt (x : MNode) : Nat := 1 + 1 + 1 + 1 + cnts (fun _ : Int => 1) x.kids + cnts MPat.cnt x.pats
def MNode.mark (k : Int) (x : MNode) : MNode := ⟨k, (k + 1), ((k + 1) + 1), mkB (((k + 1) + 1) + 1), marks (fun _ : Int => 1) (fun k _ => k) ((((k + 1) + 1) + 1) + 1) x.kids, marks MPat.cnt MPat.mark (((((k + 1) + 1) + 1) + 1) + (cnts (fun _ : Int => 1) x.kids : Nat)) x.pats⟩
theorem MNode.cnt_eq (x : MNode) : x.cnt = 1 + 1 + 1 + 1 + cnts (fun _ : Int => 1) x.kids + cnts MPat.cnt x.pats := rfl
theorem MNode.mark_eq (k : Int) (x : MNode) : MNode.mark k x = ⟨k, (k + 1), ((k + 1) + 1), mkB (((k + 1) + 1) + 1), marks (fun _ : Int => 1) (fun k _ => k) ((((k + 1) + 1) + 1) + 1) x.kids, marks MPat.cnt MPat.mark (((((k + 1) + 1) + 1) + 1) + (cnts (fun _ : Int => 1) x.kids : Nat)) x.pats⟩ := rfl
theorem MNode.pure (x : MNode) : ∀ d ∈ x.own, Pure d := by
  simp only [MNode.own_eq, List.forall_mem_cons, List.not_mem_nil, false_imp_iff, implies_true, and_true]
  exact ⟨.s _, .s _, .s _, .s _, pure_rows iE_pure _ _ _, pure_rows MPat.pure _ _ _⟩
theorem MNode.pureS (e k : Nat) (xs : List MNode) : Pure (.osl e k (xs.map MNode.own)) = True := eq_true (pure_rows MNode.pure e k xs)
attribute [go_sem] MNode.pureS
theorem MNode.frzS (xs : List MNode) : frzLL (xs.map MNode.own) = xs.map MNode.enc := frz_rows MNode.frz_eq xs
attribute [go_sem] MNode.frzS
theorem c_toNode (x : MNode) (hs : x.sm) : FCon Tryz.prog 76 [.ag x.enc] (fun r _ => r = .ag x.own) := by
  refine FCon.intro PM _ Tryz.func76 (by kernel_rfl) rfl _ Tryz.ntmps76 rfl [] (by decide +kernel) (by simp) (by simp) rfl (by first | rfl | simp only [go_sem]) ?_
  (have hWf := WFx.mk (ai @MNode.enc_eq <| @MNode.own_eq); repeat' (first | refine zS ?_ | exact zE | with_reducible apply And.intro | refine zK (c_toIntS x.kids (hs.2.1)) ?_ | refine zK (c_toPatS x.pats (hs.2.2)) ?_ | with_reducible exact zB0 | with_reducible refine zB fun hb => ?_ | exact zC | refine zT ?_ | fail))
theorem c_toNodeS (xs : List MNode) (hs : smS MNode.sm xs) : FCon Tryz.prog 28 [.sl 6 (xs.map MNode.enc)] (fun r _ => r = .osl 55 6 (xs.map MNode.own)) := by
  have hl := hs.1
  refine FCon.intro PM _ Tryz.func28 (by kernel_rfl) rfl _ Tryz.ntmps28 rfl [] (by decide +kernel) (by simp) (by simp) rfl (by first | rfl | simp only [go_sem]) ?_
  (have hWf := f0; repeat' (first | refine zS ?_ | exact zE | with_reducible apply And.intro | with_reducible exact zB0 | with_reducible refine zB fun hb => ?_ | exact zC | refine zT ?_ | fail))
  refine AC_loop (fun n σ => ∃ k : Nat, k ≤ xs.length ∧ n = xs.length - k ∧ σ.t 0 = .sl 6 (xs.map MNode.enc) ∧ σ.t 3 = .bs 7 6 xs.length ∧ σ.t 4 = .s (.int .i64 k) ∧ σ.b 7 = some (.arr 55 6 (partR MNode.own [.s (.int .i64 0), .s (.int .i64 0), .s (.int .i64 0), .s (.string ⟨#[]⟩), .nil, .nil] xs k))) xs.length ⟨0, by omega, by omega, ?_⟩ ?_
  · simp only [go_sem, simprocAttr, partR_zero, Int.natCast_zero]
  · rintro n σ ⟨k, hk, rfl, h0, h3, h4, h7⟩ K' hK
    by_cases hlt : k < xs.length
    · have hx := getD_map MNode.enc xs k hlt
      have he := MNode.enc_eq xs[k]
      have hpl := partR_len (f := MNode.own) (z := [.s (.int .i64 0), .s (.int .i64 0), .s (.int .i64 0), .s (.string ⟨#[]⟩), .nil, .nil]) (Nat.le_of_lt hlt)
      have hg := partR_get (f := MNode.own) (z := [.s (.int .i64 0), .s (.int .i64 0), .s (.int .i64 0), .s (.string ⟨#[]⟩), .nil, .nil]) hlt
      have hst := partR_set (f := MNode.own) (z := [.s (.int .i64 0), .s (.int .i64 0), .s (.int .i64 0), .s (.string ⟨#[]⟩), .nil, .nil]) hlt
      rw [MNode.own_eq] at hst
      (have hWf := WFx.mk (ai @h0 <| ai @h3 <| ai @h4 <| ai @h7 <| ai @hx <| ai @he <| ai @MNode.own_eq <| ai @hpl <| ai @hg <| @hst); repeat' (first | refine zS ?_ | exact zE | with_reducible apply And.intro | ((with_reducible apply q_CallG); refine zG (c_toNode xs[k] (hs.2 _ (List.getElem_mem hlt))) ?_) | ((with_reducible apply q_CallQ); refine CallQ_mk (c_toNode xs[k] (hs.2 _ (List.getElem_mem hlt))) ?_) | with_reducible exact zB0 | with_reducible refine zB fun hb => ?_ | exact zC | refine zT ?_ | fail))
      refine hK (xs.length - (k + 1)) _ (by omega) ⟨k + 1, by omega, rfl, ?_⟩
      simp only [go_sem, simprocAttr, h0, h3, h4, h7, Int.natCast_succ]
    · obtain rfl : k = xs.length := by omega
      rw [partR_all] at h7
      (have hWf := WFx.mk (ai @h0 <| ai @h3 <| ai @h4 <| @h7); repeat' (first | refine zS ?_ | exact zE | with_reducible apply And.intro | with_reducible exact zB0 | with_reducible refine zB fun hb => ?_ | exact zC | refine zT ?_ | fail))
theorem c_eqNode (x : MNode) : FCon Tryz.prog 85 [.ag x.enc, .ag x.enc] (fun r _ => r = .s (.bool true)) := by
  refine FCon.intro PM _ Tryz.func85 (by kernel_rfl) rfl _ Tryz.ntmps85 rfl [] (by decide +kernel) (by simp) (by simp) rfl (by first | rfl | simp only [go_sem]) ?_
  (have hWf := WFx.mk @MNode.enc_eq; repeat' (first | refine zS ?_ | exact zE | with_reducible apply And.intro | refine zK (c_eqIntS x.kids) ?_ | refine zK (c_eqPatS x.pats) ?_ | with_reducible exact zB0 | with_reducible refine zB fun hb => ?_ | exact zC | refine zT ?_ | fail))
theorem c_eqNodeS (xs : List MNode) : FCon Tryz.prog 34 [.sl 6 (xs.map MNode.enc), .sl 6 (xs.map MNode.enc)] (fun r _ => r = .s (.bool true)) := by
  refine FCon.intro PM _ Tryz.func34 (by kernel_rfl) rfl _ Tryz.ntmps34 rfl [(6, 8, [], [], (lin [] [0, 1, 2, 3, 4, 5, 6, 7]))] (by decide +kernel) (by simp) (by simp) rfl (by first | rfl | simp only [go_sem]) ?_
  refine AC_len 0 rfl trivial fun hlen => ?_
  simp only [List.length_map] at hlen
  (have hWf := f0; repeat' (first | refine zS ?_ | exact zE | with_reducible apply And.intro | with_reducible exact zB0 | with_reducible refine zB fun hb => ?_ | exact zC | refine zT ?_ | fail))
  refine AC_loop (fun n σ => ∃ k : Nat, k ≤ xs.length ∧ n = xs.length - k ∧ σ.t 0 = .sl 6 (xs.map MNode.enc) ∧ σ.t 1 = .sl 6 (xs.map MNode.enc) ∧ σ.t 5 = .s (.int .i64 k)) xs.length ⟨0, by omega, by omega, ?_⟩ ?_
  · simp only [go_sem, simprocAttr, Int.natCast_zero]
  · rintro n σ ⟨k, hk, rfl, h0, h1, h5⟩ K' hK
    by_cases hlt : k < xs.length
    · have hx := getD_map MNode.enc xs k hlt
      have he := MNode.enc_eq xs[k]
      (have hWf := WFx.mk (ai @h0 <| ai @h1 <| ai @h5 <| ai @hx <| @he); repeat' (first | refine zS ?_ | exact zE | with_reducible apply And.intro | refine zK (c_eqNode xs[k]) ?_ | with_reducible exact zB0 | with_reducible refine zB fun hb => ?_ | exact zC | refine zT ?_ | fail))
      all_goals
        refine hK (xs.length - (k + 1)) _ (by omega) ⟨k + 1, by omega, rfl, ?_⟩
        simp only [go_sem, simprocAttr, h0, h1, h5, Int.natCast_succ]
    · (have hWf := WFx.mk (ai @h0 <| ai @h1 <| @h5); repeat' (first | refine zS ?_ | exact zE | with_reducible apply And.intro | with_reducible exact zB0 | with_reducible refine zB fun hb => ?_ | exact zC | refine zT ?_ | fail))
theorem c_markNodeS (xs : List MNode) (hs : smS MNode.sm xs) (k : Int) (h0 : 0 ≤ k) (hk : k + cnts MNode.cnt xs ≤ 4611686018427387904) : FCon Tryz.prog 36 [.osl 55 6 (xs.map MNode.own), .s (.int .i64 k)] (fun r o => r = .s (.int .i64 (k + cnts MNode.cnt xs)) ∧ o = [.osl 55 6 ((marks MNode.cnt MNode.mark k xs).map MNode.own), .un]) := by
  refine FCon.intro PM _ Tryz.func36 (by kernel_rfl) rfl _ Tryz.ntmps36 rfl [] (by decide +kernel) (by simp) (by simp) rfl (by first | rfl | simp only [go_sem]) ?_
  (have hWf := f0; repeat' (first | refine zS ?_ | exact zE | with_reducible apply And.intro | with_reducible exact zB0 | with_reducible refine zB fun hb => ?_ | exact zC | refine zT ?_ | fail))
  refine AC_loopW (fun n σ => ∃ i : Nat, i ≤ xs.length ∧ n = xs.length - i ∧ σ.t 0 = .bs 900000 6 xs.length ∧ σ.t 1 = .s (.int .i64 (k + cnts MNode.cnt (xs.take i))) ∧ σ.t 5 = .s (.int .i64 i) ∧ σ.b 900000 = some (.arr 55 6 ((stM MNode.cnt MNode.mark k xs i).map MNode.own))) xs.length ⟨0, by omega, by omega, ?_⟩ ?_
  · simp only [go_sem, simprocAttr, Int.natCast_zero, stM_zero, List.take_zero, cnts, Int.add_zero]
  · rintro n σ ⟨i, hi, rfl, h0, h1, h5, h9⟩ K' hK
    by_cases hlt : i < xs.length
    · have hc := cnts_step (c := MNode.cnt) hlt
      have hc' := cnts_le (c := MNode.cnt) xs (i + 1)
      have hx := stM_get (c := MNode.cnt) (m := MNode.mark) k hlt MNode.own
      have hpl := stM_len (c := MNode.cnt) (m := MNode.mark) k (Nat.le_of_lt hlt)
      have hst := stM_set (c := MNode.cnt) (m := MNode.mark) k hlt MNode.own
      have hgs : ∀ r, (((stM MNode.cnt MNode.mark k xs i).map MNode.own).set i r).getD i [] = r := fun r => by rw [List.getD_eq_getElem?_getD, List.getElem?_set_self (by rw [List.length_map, hpl]; exact hlt)]; rfl
      simp only [MNode.own_eq, MNode.mark] at hx hst
      simp only [MNode.cnt] at hc
      have hrow : ((stM MNode.cnt MNode.mark k xs i).map MNode.own)[i]? = some (MNode.own xs[i]) := by
        have h1 : i < ((stM MNode.cnt MNode.mark k xs i).map MNode.own).length := by simpa [hpl] using hlt
        rw [List.getElem?_eq_getElem h1, ← getD_of (List.getElem?_eq_getElem h1), hx]
        rfl
      have hsx := hs.2 _ (List.getElem_mem hlt)
      have hl := hs.1
      (refine AC_go ?_; simp only [go_sem, simprocAttr, h0, h1, h5]; (have hWf := WFx.mk (ai @h0 <| ai @h1 <| @h5); repeat' (first | refine zY ?_ | with_reducible apply And.intro | with_reducible exact zB0 | with_reducible refine zB fun hb => ?_ | exact zC | refine zT ?_ | fail)))
      (refine AC_go ?_; simp only [go_sem, simprocAttr, h0, h1, h5]; (have hWf := WFx.mk (ai @h0 <| ai @h1 <| @h5); repeat' (first | refine zY ?_ | with_reducible apply And.intro | with_reducible exact zB0 | with_reducible refine zB fun hb => ?_ | exact zC | refine zT ?_ | fail)))
      (refine AC_go ?_; simp only [go_sem, simprocAttr, h0, h1, h5]; (have hWf := WFx.mk (ai @h0 <| ai @h1 <| @h5); repeat' (first | refine zY ?_ | with_reducible apply And.intro | with_reducible exact zB0 | with_reducible refine zB fun hb => ?_ | exact zC | refine zT ?_ | fail)))
      (refine AC_go ?_; simp only [go_sem, simprocAttr, h0, h1, h5, h9, hx, hpl, hgs, List.set_set, List.length_set, MNode.own_eq]; (have hWf := WFx.mk (ai @h0 <| ai @h1 <| ai @h5 <| ai @h9 <| ai @hx <| ai @hpl <| ai @hgs <| @MNode.own_eq); repeat' (first | refine zY ?_ | with_reducible apply And.intro | with_reducible exact zB0 | with_reducible refine zB fun hb => ?_ | exact zC | refine zT ?_ | fail)))
      (refine AC_go ?_; simp only [go_sem, simprocAttr, h0, h1, h5, h9, hx, hpl, hgs, List.set_set, List.length_set, MNode.own_eq]; (have hWf := WFx.mk (ai @h0 <| ai @h1 <| ai @h5 <| ai @h9 <| ai @hx <| ai @hpl <| ai @hgs <| @MNode.own_eq); repeat' (first | refine zY ?_ | with_reducible apply And.intro | with_reducible exact zB0 | with_reducible refine zB fun hb => ?_ | exact zC | refine zT ?_ | fail)))
      (refine AC_go ?_; simp only [go_sem, simprocAttr, h0, h1, h5, h9, hx, hpl, hgs, List.set_set, List.length_set, MNode.own_eq]; (have hWf := WFx.mk (ai @h0 <| ai @h1 <| ai @h5 <| ai @h9 <| ai @hx <| ai @hpl <| ai @hgs <| @MNode.own_eq); repeat' (first | refine zY ?_ | with_reducible apply And.intro | with_reducible exact zB0 | with_reducible refine zB fun hb => ?_ | exact zC | refine zT ?_ | fail)))
      (refine AC_go ?_; simp only [go_sem, simprocAttr, h0, h1, h5, h9, hx, hpl, hgs, List.set_set, List.length_set, MNode.own_eq]; (have hWf := WFx.mk (ai @h0 <| ai @h1 <| ai @h5 <| ai @h9 <| ai @hx <| ai @hpl <| ai @hgs <| @MNode.own_eq); repeat' (first | refine zY ?_ | with_reducible apply And.intro | with_reducible exact zB0 | with_reducible refine zB fun hb => ?_ | exact zC | refine zT ?_ | fail)))
      (refine AC_go ?_; simp only [go_sem, simprocAttr, h0, h1, h5, h9, hx, hpl, hgs, List.set_set, List.length_set, MNode.own_eq]; (have hWf := WFx.mk (ai @h0 <| ai @h1 <| ai @h5 <| ai @h9 <| ai @hx <| ai @hpl <| ai @hgs <| @MNode.own_eq); repeat' (first | refine zY ?_ | with_reducible apply And.intro | with_reducible exact zB0 | with_reducible refine zB fun hb => ?_ | exact zC | refine zT ?_ | fail)))
      (refine AC_go ?_; simp only [go_sem, simprocAttr, h0, h1, h5, h9, hx, hpl, hgs, List.set_set, List.length_set, MNode.own_eq]; (have hWf := WFx.mk (ai @h0 <| ai @h1 <| ai @h5 <| ai @h9 <| ai @hx <| ai @hpl <| ai @hgs <| @MNode.own_eq); repeat' (first | refine zY ?_ | with_reducible apply And.intro | with_reducible exact zB0 | with_reducible refine zB fun hb => ?_ | exact zC | refine zT ?_ | fail)))
      (refine AC_go ?_; simp only [go_sem, simprocAttr, h0, h1, h5, h9, hx, hpl, hgs, List.set_set, List.length_set, MNode.own_eq]; (have hWf := WFx.mk (ai @h0 <| ai @h1 <| ai @h5 <| ai @h9 <| ai @hx <| ai @hpl <| ai @hgs <| @MNode.own_eq); repeat' (first | refine zY ?_ | with_reducible apply And.intro | ((with_reducible apply q_CallG); refine zG (c_markText ((((k + (cnts MNode.cnt (xs.take i) : Nat)) + 1) + 1) + 1) (by omega)) ?_) | ((with_reducible apply q_CallQ); refine CallQ_mk (c_markText ((((k + (cnts MNode.cnt (xs.take i) : Nat)) + 1) + 1) + 1) (by omega)) ?_) | with_reducible exact zB0 | with_reducible refine zB fun hb => ?_ | exact zC | refine zT ?_ | fail)))
      (refine AC_go ?_; simp only [go_sem, simprocAttr, h0, h1, h5, h9, hx, hpl, hgs, List.set_set, List.length_set, MNode.own_eq]; (have hWf := WFx.mk (ai @h0 <| ai @h1 <| ai @h5 <| ai @h9 <| ai @hx <| ai @hpl <| ai @hgs <| @MNode.own_eq); repeat' (first | refine zY ?_ | with_reducible apply And.intro | with_reducible exact zB0 | with_reducible refine zB fun hb => ?_ | exact zC | refine zT ?_ | fail)))
      refine AC_open 900000 i 4 1000000004 (e := 55) (k := 6) (rows := ((stM MNode.cnt MNode.mark k xs i).map MNode.own).set i [.s (.int .i64 (k + (cnts MNode.cnt (xs.take i) : Nat))), .s (.int .i64 ((k + (cnts MNode.cnt (xs.take i) : Nat)) + 1)), .s (.int .i64 (((k + (cnts MNode.cnt (xs.take i) : Nat)) + 1) + 1)), .s (.string (mkB ((((k + (cnts MNode.cnt (xs.take i) : Nat)) + 1) + 1) + 1))), .osl 3 1 (xs[i].kids.map iE), .osl 89 1 (xs[i].pats.map MPat.own)]) (row := [.s (.int .i64 (k + (cnts MNode.cnt (xs.take i) : Nat))), .s (.int .i64 ((k + (cnts MNode.cnt (xs.take i) : Nat)) + 1)), .s (.int .i64 (((k + (cnts MNode.cnt (xs.take i) : Nat)) + 1) + 1)), .s (.string (mkB ((((k + (cnts MNode.cnt (xs.take i) : Nat)) + 1) + 1) + 1))), .osl 3 1 (xs[i].kids.map iE), .osl 89 1 (xs[i].pats.map MPat.own)]) (d := .osl 3 1 (xs[i].kids.map iE)) (by simp only [go_sem, simprocAttr, h9]) (List.getElem?_set_self (by rw [List.length_map, hpl]; exact hlt)) rfl rfl (by decide) (by decide) ?_
      (refine AC_go ?_; simp only [go_sem, simprocAttr, h0, h1, h5, h9, hx, hpl, hgs, List.set_set, List.length_set, MNode.own_eq, marks_len]; (have hWf := WFx.mk (ai @h0 <| ai @h1 <| ai @h5 <| ai @h9 <| ai @hx <| ai @hpl <| ai @hgs <| ai @MNode.own_eq <| @marks_len); repeat' (first | refine zY ?_ | with_reducible apply And.intro | ((with_reducible apply q_CallG); refine CallG_mk (c_markIntS xs[i].kids (hsx.2.1).1 _ (by omega) (by omega)) ?_; rintro _ _ ⟨rfl, rfl⟩) | ((with_reducible apply q_CallQ); refine CallQ_mk (c_markIntS xs[i].kids (hsx.2.1).1 _ (by omega) (by omega)) ?_) | with_reducible exact zB0 | with_reducible refine zB fun hb => ?_ | exact zC | refine zT ?_ | fail)))
      refine AC_close 900000 1000000004 (e := 55) (k := 6) (i := i) (j := 4) (rows := ((stM MNode.cnt MNode.mark k xs i).map MNode.own).set i [.s (.int .i64 (k + (cnts MNode.cnt (xs.take i) : Nat))), .s (.int .i64 ((k + (cnts MNode.cnt (xs.take i) : Nat)) + 1)), .s (.int .i64 (((k + (cnts MNode.cnt (xs.take i) : Nat)) + 1) + 1)), .s (.string (mkB ((((k + (cnts MNode.cnt (xs.take i) : Nat)) + 1) + 1) + 1))), .osl 3 1 (xs[i].kids.map iE), .osl 89 1 (xs[i].pats.map MPat.own)]) (r := .bs 1000000004 1 xs[i].kids.length) (d := .osl 3 1 ((marks (fun _ : Int => 1) (fun k _ => k) (((((k + (cnts MNode.cnt (xs.take i) : Nat)) + 1) + 1) + 1) + 1) xs[i].kids).map iE)) (ob := 1 = 1 ∧ xs[i].kids.length ≤ ((marks (fun _ : Int => 1) (fun k _ => k) (((((k + (cnts MNode.cnt (xs.take i) : Nat)) + 1) + 1) + 1) + 1) xs[i].kids).map iE).length) ?_ ?_ ⟨rfl, by rw [List.length_map, marks_len]; exact Nat.le_refl _⟩ rfl (by decide) ?_
      · simp only [go_sem, simprocAttr, h9, hgs]
      · simp only [go_sem, simprocAttr, marks_len]
      refine AC_open 900000 i 5 1000000005 (e := 55) (k := 6) (rows := ((stM MNode.cnt MNode.mark k xs i).map MNode.own).set i [.s (.int .i64 (k + (cnts MNode.cnt (xs.take i) : Nat))), .s (.int .i64 ((k + (cnts MNode.cnt (xs.take i) : Nat)) + 1)), .s (.int .i64 (((k + (cnts MNode.cnt (xs.take i) : Nat)) + 1) + 1)), .s (.string (mkB ((((k + (cnts MNode.cnt (xs.take i) : Nat)) + 1) + 1) + 1))), .osl 3 1 ((marks (fun _ : Int => 1) (fun k _ => k) (((((k + (cnts MNode.cnt (xs.take i) : Nat)) + 1) + 1) + 1) + 1) xs[i].kids).map iE), .osl 89 1 (xs[i].pats.map MPat.own)]) (row := [.s (.int .i64 (k + (cnts MNode.cnt (xs.take i) : Nat))), .s (.int .i64 ((k + (cnts MNode.cnt (xs.take i) : Nat)) + 1)), .s (.int .i64 (((k + (cnts MNode.cnt (xs.take i) : Nat)) + 1) + 1)), .s (.string (mkB ((((k + (cnts MNode.cnt (xs.take i) : Nat)) + 1) + 1) + 1))), .osl 3 1 ((marks (fun _ : Int => 1) (fun k _ => k) (((((k + (cnts MNode.cnt (xs.take i) : Nat)) + 1) + 1) + 1) + 1) xs[i].kids).map iE), .osl 89 1 (xs[i].pats.map MPat.own)]) (d := .osl 89 1 (xs[i].pats.map MPat.own)) (by simp only [go_sem, simprocAttr, h9, hx, hgs, List.set_set, List.set_cons_succ, List.set_cons_zero]) (List.getElem?_set_self (by rw [List.length_map, hpl]; exact hlt)) rfl rfl (by decide) (by decide) ?_
      (have hWf := WFx.mk (ai @h0 <| ai @h1 <| ai @h5 <| ai @h9 <| ai @hx <| ai @hpl <| ai @hgs <| ai @MNode.own_eq <| @marks_len); repeat' (first | refine zS ?_ | exact zE | with_reducible apply And.intro | ((with_reducible apply q_CallG); refine CallG_mk (c_markPatS xs[i].pats (hsx.2.2) _ (by omega) (by omega)) ?_; rintro _ _ ⟨rfl, rfl⟩) | ((with_reducible apply q_CallQ); refine CallQ_mk (c_markPatS xs[i].pats (hsx.2.2) _ (by omega) (by omega)) ?_) | with_reducible exact zB0 | with_reducible refine zB fun hb => ?_ | exact zC | refine zT ?_ | fail))
      refine hK (xs.length - (i + 1)) _ _ (by omega) (Wk_close 900000 1000000005 (e := 55) (k := 6) (i := i) (j := 5) (rows := ((stM MNode.cnt MNode.mark k xs i).map MNode.own).set i [.s (.int .i64 (k + (cnts MNode.cnt (xs.take i) : Nat))), .s (.int .i64 ((k + (cnts MNode.cnt (xs.take i) : Nat)) + 1)), .s (.int .i64 (((k + (cnts MNode.cnt (xs.take i) : Nat)) + 1) + 1)), .s (.string (mkB ((((k + (cnts MNode.cnt (xs.take i) : Nat)) + 1) + 1) + 1))), .osl 3 1 ((marks (fun _ : Int => 1) (fun k _ => k) (((((k + (cnts MNode.cnt (xs.take i) : Nat)) + 1) + 1) + 1) + 1) xs[i].kids).map iE), .osl 89 1 (xs[i].pats.map MPat.own)]) (r := .bs 1000000005 1 xs[i].pats.length) (d := .osl 89 1 ((marks MPat.cnt MPat.mark ((((((k + (cnts MNode.cnt (xs.take i) : Nat)) + 1) + 1) + 1) + 1) + (cnts (fun _ : Int => 1) xs[i].kids : Nat)) xs[i].pats).map MPat.own)) (ob := 1 = 1 ∧ xs[i].pats.length ≤ ((marks MPat.cnt MPat.mark ((((((k + (cnts MNode.cnt (xs.take i) : Nat)) + 1) + 1) + 1) + 1) + (cnts (fun _ : Int => 1) xs[i].kids : Nat)) xs[i].pats).map MPat.own).length) ?_ ?_ ⟨rfl, by rw [List.length_map, marks_len]; exact Nat.le_refl _⟩ rfl (by decide)) ⟨i + 1, by omega, rfl, ?_⟩
      · simp only [go_sem, simprocAttr, h9, hgs]
      · simp only [go_sem, simprocAttr, marks_len]
      · simp only [go_sem, simprocAttr, h0, h1, h5, h9, Int.natCast_succ, hx, hst, hgs, List.set_set, List.set_cons_succ, List.set_cons_zero]
        exact sI_congr (by rw [hc]; push_cast; omega)
    · obtain rfl : i = xs.length := by omega
      rw [stM_all] at h9
      rw [List.take_length] at h1
      (have hWf := WFx.mk (ai @h0 <| ai @h1 <| ai @h5 <| ai @h9 <| @marks_len); repeat' (first | refine zS ?_ | exact zE | with_reducible apply And.intro | with_reducible exact zB0 | with_reducible refine zB fun hb => ?_ | exact zC | refine zT ?_ | fail))
theorem c_heldNodeS (xs : List MNode) (hs : smS MNode.sm xs) (k : Int) (h0 : 0 ≤ k) (hk : k + cnts MNode.cnt xs ≤ 4611686018427387904) : FCon Tryz.prog 38 [.sl 6 ((marks MNode.cnt MNode.mark k xs).map MNode.enc), .s (.int .i64 k)] (fun r _ => r = .s (.int .i64 (k + cnts MNode.cnt xs))) := by
  have hl := hs.1
  refine FCon.intro PM _ Tryz.func38 (by kernel_rfl) rfl _ Tryz.ntmps38 rfl [(13, 7, [], [], (lin [] [0, 1, 2, 3, 4, 5, 6]))] (by decide +kernel) (by simp) (by simp) rfl (by first | rfl | simp only [go_sem]) ?_
  have hml := marks_len (c := MNode.cnt) (m := MNode.mark) k xs
  (have hWf := f0; repeat' (first | refine zS ?_ | exact zE | with_reducible apply And.intro | with_reducible exact zB0 | with_reducible refine zB fun hb => ?_ | exact zC | refine zT ?_ | fail))
  refine AC_loop (fun n σ => ∃ i : Nat, i ≤ xs.length ∧ n = xs.length - i ∧ σ.t 0 = .sl 6 ((marks MNode.cnt MNode.mark k xs).map MNode.enc) ∧ σ.t 1 = .s (.int .i64 (k + cnts MNode.cnt (xs.take i))) ∧ σ.t 5 = .s (.int .i64 i)) xs.length ⟨0, by omega, by omega, ?_⟩ ?_
  · simp only [go_sem, simprocAttr, Int.natCast_zero, List.take_zero, cnts, Int.add_zero]
  · rintro n σ ⟨i, hi, rfl, h0, h1, h5⟩ K' hK
    by_cases hlt : i < xs.length
    · have hc := cnts_step (c := MNode.cnt) hlt
      have hc' := cnts_le (c := MNode.cnt) xs (i + 1)
      have hx := marks_get (c := MNode.cnt) (m := MNode.mark) k hlt MNode.enc
      simp only [MNode.enc_eq, MNode.mark] at hx
      simp only [MNode.cnt] at hc
      have hsx := hs.2 _ (List.getElem_mem hlt)
      (have hWf := WFx.mk (ai @h0 <| ai @h1 <| ai @h5 <| ai @hx <| @hml); repeat' (first | refine zS ?_ | exact zE | with_reducible apply And.intro | ((with_reducible apply q_CallG); refine zG (c_markText ((((k + (cnts MNode.cnt (xs.take i) : Nat)) + 1) + 1) + 1) (by omega)) ?_) | ((with_reducible apply q_CallQ); refine CallQ_mk (c_markText ((((k + (cnts MNode.cnt (xs.take i) : Nat)) + 1) + 1) + 1) (by omega)) ?_) | ((with_reducible apply q_CallG); refine zG (c_heldIntS xs[i].kids (hsx.2.1).1 _ (by omega) (by omega)) ?_) | ((with_reducible apply q_CallQ); refine CallQ_mk (c_heldIntS xs[i].kids (hsx.2.1).1 _ (by omega) (by omega)) ?_) | ((with_reducible apply q_CallG); refine zG (c_heldPatS xs[i].pats (hsx.2.2) _ (by omega) (by omega)) ?_) | ((with_reducible apply q_CallQ); refine CallQ_mk (c_heldPatS xs[i].pats (hsx.2.2) _ (by omega) (by omega)) ?_) | with_reducible exact zB0 | with_reducible refine zB fun hb => ?_ | exact zC | refine zT ?_ | fail))
      all_goals
        refine hK (xs.length - (i + 1)) _ (by omega) ⟨i + 1, by omega, rfl, ?_⟩
        simp only [go_sem, simprocAttr, h0, h1, h5, Int.natCast_succ]
        exact sI_congr (by rw [hc]; push_cast; omega)
    · obtain rfl : i = xs.length := by omega
      rw [List.take_length] at h1
      (have hWf := WFx.mk (ai @h0 <| ai @h1 <| ai @h5 <| @hml); repeat' (first | refine zS ?_ | exact zE | with_reducible apply And.intro | with_reducible exact zB0 | with_reducible refine zB fun hb => ?_ | exact zC | refine zT ?_ | fail))
end Go.Proofs.YtgcdbmcoendcdaaGreat

namespace Go.Proofs.YtgcdbmcoendcdaaGreat
set_option linter.unusedVariables false
set_option linter.unusedSimpArgs false
attribute [local go_sem] List.length_set List.set_set
open Go.RowKit Go.ChangeShapes Go.WideShapes
structure MCon where
  name : ByteArray
  has : Bool
  arg : List TyI
def MCon.enc (x : MCon) : List D := [.s (.string x.name), .s (.bool x.has), .sl 3 (x.arg.map TyI.enc)]
theorem MCon.enc_eq (x : MCon) : x.enc = [.s (.string x.name), .s (.bool x.has), .sl 3 (x.arg.map TyI.enc)] := rfl
def MCon.own (x : MCon) : List D := [.s (.string x.name), .s (.bool x.has), .osl 159 3 (x.arg.map TyI.own)]
theorem MCon.own_eq (x : MCon) : x.own = [.s (.string x.name), .s (.bool x.has), .osl 159 3 (x.arg.map TyI.own)] := rfl
theorem MCon.frz_eq (x : MCon) : frzL x.own = x.enc := by
  simp only [MCon.own_eq, MCon.enc_eq, frzL, frz, frz_rows TyI.frz_eq]
def MCon.ok (x : MCon) : Prop := x.name.size ≤ maxLen ∧ True ∧ (∀ y ∈ x.arg, y.ok)
def MCon.sm (x : MCon) : Prop := x.name.size ≤ 1048576 ∧ smS TyI.sm x.arg
def MCon.cnt (x : MCon) : Nat := 1 + 1 + cnts TyI.cnt x.arg
def MCon.mark (k : Int) (x : MCon) : MCon := ⟨mkB k, (Int.tmod (k + 1) 3 == 0), marks TyI.cnt TyI.mark ((k + 1) + 1) x.arg⟩
theorem MCon.cnt_eq (x : MCon) : x.cnt = 1 + 1 + cnts TyI.cnt x.arg := rfl
theorem MCon.mark_eq (k : Int) (x : MCon) : MCon.mark k x = ⟨mkB k, (Int.tmod (k + 1) 3 == 0), marks TyI.cnt TyI.mark ((k + 1) + 1) x.arg⟩ := rfl
theorem MCon.pure (x : MCon) : ∀ d ∈ x.own, Pure d := by
  simp only [MCon.own_eq, List.forall_mem_cons, List.not_mem_nil, false_imp_iff, implies_true, and_true]
  exact ⟨.s _, .s _, pure_rows TyI.pure _ _ _⟩
theorem MCon.pureS (e k : Nat) (xs : List MCon) : Pure (.osl e k (xs.map MCon.own)) = True := eq_true (pure_rows MCon.pure e k xs)
attribute [go_sem] MCon.pureS
theorem MCon.frzS (xs : List MCon) : frzLL (xs.map MCon.own) = xs.map MCon.enc := frz_rows MCon.frz_eq xs
attribute [go_sem] MCon.frzS
theorem c_toCon (x : MCon) (hs : x.sm) : FCon Tryz.prog 218 [.ag x.enc] (fun r _ => r = .ag x.own) := by
  refine FCon.intro PM _ Tryz.func218 (by kernel_rfl) rfl _ Tryz.ntmps218 rfl [] (by decide +kernel) (by simp) (by simp) rfl (by first | rfl | simp only [go_sem]) ?_
  (have hWf := WFx.mk (ai @MCon.enc_eq <| ai @MCon.own_eq <| ai @MTy.enc_eq <| @MTy.own_eq); repeat' (first | refine zS ?_ | exact zE | with_reducible apply And.intro | refine zK (c_toTy ⟨x.arg⟩ (hs.2)) ?_ | with_reducible exact zB0 | with_reducible refine zB fun hb => ?_ | exact zC | refine zT ?_ | fail))
theorem c_toConS (xs : List MCon) (hs : smS MCon.sm xs) : FCon Tryz.prog 157 [.sl 3 (xs.map MCon.enc)] (fun r _ => r = .osl 68 3 (xs.map MCon.own)) := by
  have hl := hs.1
  refine FCon.intro PM _ Tryz.func157 (by kernel_rfl) rfl _ Tryz.ntmps157 rfl [] (by decide +kernel) (by simp) (by simp) rfl (by first | rfl | simp only [go_sem]) ?_
  (have hWf := f0; repeat' (first | refine zS ?_ | exact zE | with_reducible apply And.intro | with_reducible exact zB0 | with_reducible refine zB fun hb => ?_ | exact zC | refine zT ?_ | fail))
  refine AC_loop (fun n σ => ∃ k : Nat, k ≤ xs.length ∧ n = xs.length - k ∧ σ.t 0 = .sl 3 (xs.map MCon.enc) ∧ σ.t 3 = .bs 7 3 xs.length ∧ σ.t 4 = .s (.int .i64 k) ∧ σ.b 7 = some (.arr 68 3 (partR MCon.own [.s (.string ⟨#[]⟩), .s (.bool false), .nil] xs k))) xs.length ⟨0, by omega, by omega, ?_⟩ ?_
  · simp only [go_sem, simprocAttr, partR_zero, Int.natCast_zero]
  · rintro n σ ⟨k, hk, rfl, h0, h3, h4, h7⟩ K' hK
    by_cases hlt : k < xs.length
    · have hx := getD_map MCon.enc xs k hlt
      have he := MCon.enc_eq xs[k]
      have hpl := partR_len (f := MCon.own) (z := [.s (.string ⟨#[]⟩), .s (.bool false), .nil]) (Nat.le_of_lt hlt)
      have hg := partR_get (f := MCon.own) (z := [.s (.string ⟨#[]⟩), .s (.bool false), .nil]) hlt
      have hst := partR_set (f := MCon.own) (z := [.s (.string ⟨#[]⟩), .s (.bool false), .nil]) hlt
      rw [MCon.own_eq] at hst
      (have hWf := WFx.mk (ai @h0 <| ai @h3 <| ai @h4 <| ai @h7 <| ai @hx <| ai @he <| ai @MCon.own_eq <| ai @hpl <| ai @hg <| @hst); repeat' (first | refine zS ?_ | exact zE | with_reducible apply And.intro | ((with_reducible apply q_CallG); refine zG (c_toCon xs[k] (hs.2 _ (List.getElem_mem hlt))) ?_) | ((with_reducible apply q_CallQ); refine CallQ_mk (c_toCon xs[k] (hs.2 _ (List.getElem_mem hlt))) ?_) | with_reducible exact zB0 | with_reducible refine zB fun hb => ?_ | exact zC | refine zT ?_ | fail))
      refine hK (xs.length - (k + 1)) _ (by omega) ⟨k + 1, by omega, rfl, ?_⟩
      simp only [go_sem, simprocAttr, h0, h3, h4, h7, Int.natCast_succ]
    · obtain rfl : k = xs.length := by omega
      rw [partR_all] at h7
      (have hWf := WFx.mk (ai @h0 <| ai @h3 <| ai @h4 <| @h7); repeat' (first | refine zS ?_ | exact zE | with_reducible apply And.intro | with_reducible exact zB0 | with_reducible refine zB fun hb => ?_ | exact zC | refine zT ?_ | fail))
theorem c_eqCon (x : MCon) : FCon Tryz.prog 228 [.ag x.enc, .ag x.enc] (fun r _ => r = .s (.bool true)) := by
  refine FCon.intro PM _ Tryz.func228 (by kernel_rfl) rfl _ Tryz.ntmps228 rfl [] (by decide +kernel) (by simp) (by simp) rfl (by first | rfl | simp only [go_sem]) ?_
  (have hWf := WFx.mk (ai @MCon.enc_eq <| @MTy.enc_eq); repeat' (first | refine zS ?_ | exact zE | with_reducible apply And.intro | refine zK (c_eqTy ⟨x.arg⟩) ?_ | with_reducible exact zB0 | with_reducible refine zB fun hb => ?_ | exact zC | refine zT ?_ | fail))
theorem c_eqConS (xs : List MCon) : FCon Tryz.prog 166 [.sl 3 (xs.map MCon.enc), .sl 3 (xs.map MCon.enc)] (fun r _ => r = .s (.bool true)) := by
  refine FCon.intro PM _ Tryz.func166 (by kernel_rfl) rfl _ Tryz.ntmps166 rfl [(6, 8, [], [], (lin [] [0, 1, 2, 3, 4, 5, 6, 7]))] (by decide +kernel) (by simp) (by simp) rfl (by first | rfl | simp only [go_sem]) ?_
  refine AC_len 0 rfl trivial fun hlen => ?_
  simp only [List.length_map] at hlen
  (have hWf := f0; repeat' (first | refine zS ?_ | exact zE | with_reducible apply And.intro | with_reducible exact zB0 | with_reducible refine zB fun hb => ?_ | exact zC | refine zT ?_ | fail))
  refine AC_loop (fun n σ => ∃ k : Nat, k ≤ xs.length ∧ n = xs.length - k ∧ σ.t 0 = .sl 3 (xs.map MCon.enc) ∧ σ.t 1 = .sl 3 (xs.map MCon.enc) ∧ σ.t 5 = .s (.int .i64 k)) xs.length ⟨0, by omega, by omega, ?_⟩ ?_
  · simp only [go_sem, simprocAttr, Int.natCast_zero]
  · rintro n σ ⟨k, hk, rfl, h0, h1, h5⟩ K' hK
    by_cases hlt : k < xs.length
    · have hx := getD_map MCon.enc xs k hlt
      have he := MCon.enc_eq xs[k]
      (have hWf := WFx.mk (ai @h0 <| ai @h1 <| ai @h5 <| ai @hx <| @he); repeat' (first | refine zS ?_ | exact zE | with_reducible apply And.intro | refine zK (c_eqCon xs[k]) ?_ | with_reducible exact zB0 | with_reducible refine zB fun hb => ?_ | exact zC | refine zT ?_ | fail))
      all_goals
        refine hK (xs.length - (k + 1)) _ (by omega) ⟨k + 1, by omega, rfl, ?_⟩
        simp only [go_sem, simprocAttr, h0, h1, h5, Int.natCast_succ]
    · (have hWf := WFx.mk (ai @h0 <| ai @h1 <| @h5); repeat' (first | refine zS ?_ | exact zE | with_reducible apply And.intro | with_reducible exact zB0 | with_reducible refine zB fun hb => ?_ | exact zC | refine zT ?_ | fail))
theorem c_markConS (xs : List MCon) (hs : smS MCon.sm xs) (k : Int) (h0 : 0 ≤ k) (hk : k + cnts MCon.cnt xs ≤ 4611686018427387904) : FCon Tryz.prog 87 [.osl 68 3 (xs.map MCon.own), .s (.int .i64 k)] (fun r o => r = .s (.int .i64 (k + cnts MCon.cnt xs)) ∧ o = [.osl 68 3 ((marks MCon.cnt MCon.mark k xs).map MCon.own), .un]) := by
  refine FCon.intro PM _ Tryz.func87 (by kernel_rfl) rfl _ Tryz.ntmps87 rfl [] (by decide +kernel) (by simp) (by simp) rfl (by first | rfl | simp only [go_sem]) ?_
  (have hWf := f0; repeat' (first | refine zS ?_ | exact zE | with_reducible apply And.intro | with_reducible exact zB0 | with_reducible refine zB fun hb => ?_ | exact zC | refine zT ?_ | fail))
  refine AC_loopW (fun n σ => ∃ i : Nat, i ≤ xs.length ∧ n = xs.length - i ∧ σ.t 0 = .bs 900000 3 xs.length ∧ σ.t 1 = .s (.int .i64 (k + cnts MCon.cnt (xs.take i))) ∧ σ.t 5 = .s (.int .i64 i) ∧ σ.b 900000 = some (.arr 68 3 ((stM MCon.cnt MCon.mark k xs i).map MCon.own))) xs.length ⟨0, by omega, by omega, ?_⟩ ?_
  · simp only [go_sem, simprocAttr, Int.natCast_zero, stM_zero, List.take_zero, cnts, Int.add_zero]
  · rintro n σ ⟨i, hi, rfl, h0, h1, h5, h9⟩ K' hK
    by_cases hlt : i < xs.length
    · have hc := cnts_step (c := MCon.cnt) hlt
      have hc' := cnts_le (c := MCon.cnt) xs (i + 1)
      have hx := stM_get (c := MCon.cnt) (m := MCon.mark) k hlt MCon.own
      have hpl := stM_len (c := MCon.cnt) (m := MCon.mark) k (Nat.le_of_lt hlt)
      have hst := stM_set (c := MCon.cnt) (m := MCon.mark) k hlt MCon.own
      have hgs : ∀ r, (((stM MCon.cnt MCon.mark k xs i).map MCon.own).set i r).getD i [] = r := fun r => by rw [List.getD_eq_getElem?_getD, List.getElem?_set_self (by rw [List.length_map, hpl]; exact hlt)]; rfl
      simp only [MCon.own_eq, MCon.mark] at hx hst
      simp only [MCon.cnt] at hc
      have hrow : ((stM MCon.cnt MCon.mark k xs i).map MCon.own)[i]? = some (MCon.own xs[i]) := by
        have h1 : i < ((stM MCon.cnt MCon.mark k xs i).map MCon.own).length := by simpa [hpl] using hlt
        rw [List.getElem?_eq_getElem h1, ← getD_of (List.getElem?_eq_getElem h1), hx]
        rfl
      have hsx := hs.2 _ (List.getElem_mem hlt)
      have hl := hs.1
      (refine AC_go ?_; simp only [go_sem, simprocAttr, h0, h1, h5]; (have hWf := WFx.mk (ai @h0 <| ai @h1 <| @h5); repeat' (first | refine zY ?_ | with_reducible apply And.intro | with_reducible exact zB0 | with_reducible refine zB fun hb => ?_ | exact zC | refine zT ?_ | fail)))
      (refine AC_go ?_; simp only [go_sem, simprocAttr, h0, h1, h5]; (have hWf := WFx.mk (ai @h0 <| ai @h1 <| @h5); repeat' (first | refine zY ?_ | with_reducible apply And.intro | with_reducible exact zB0 | with_reducible refine zB fun hb => ?_ | exact zC | refine zT ?_ | fail)))
      (refine AC_go ?_; simp only [go_sem, simprocAttr, h0, h1, h5]; (have hWf := WFx.mk (ai @h0 <| ai @h1 <| @h5); repeat' (first | refine zY ?_ | with_reducible apply And.intro | with_reducible exact zB0 | with_reducible refine zB fun hb => ?_ | exact zC | refine zT ?_ | fail)))
      (refine AC_go ?_; simp only [go_sem, simprocAttr, h0, h1, h5, h9, hx, hpl, hgs, List.set_set, List.length_set, MCon.own_eq]; (have hWf := WFx.mk (ai @h0 <| ai @h1 <| ai @h5 <| ai @h9 <| ai @hx <| ai @hpl <| ai @hgs <| @MCon.own_eq); repeat' (first | refine zY ?_ | with_reducible apply And.intro | ((with_reducible apply q_CallG); refine zG (c_markText (k + (cnts MCon.cnt (xs.take i) : Nat)) (by omega)) ?_) | ((with_reducible apply q_CallQ); refine CallQ_mk (c_markText (k + (cnts MCon.cnt (xs.take i) : Nat)) (by omega)) ?_) | with_reducible exact zB0 | with_reducible refine zB fun hb => ?_ | exact zC | refine zT ?_ | fail)))
      (refine AC_go ?_; simp only [go_sem, simprocAttr, h0, h1, h5, h9, hx, hpl, hgs, List.set_set, List.length_set, MCon.own_eq]; (have hWf := WFx.mk (ai @h0 <| ai @h1 <| ai @h5 <| ai @h9 <| ai @hx <| ai @hpl <| ai @hgs <| @MCon.own_eq); repeat' (first | refine zY ?_ | with_reducible apply And.intro | with_reducible exact zB0 | with_reducible refine zB fun hb => ?_ | exact zC | refine zT ?_ | fail)))
      (refine AC_go ?_; simp only [go_sem, simprocAttr, h0, h1, h5, h9, hx, hpl, hgs, List.set_set, List.length_set, MCon.own_eq]; (have hWf := WFx.mk (ai @h0 <| ai @h1 <| ai @h5 <| ai @h9 <| ai @hx <| ai @hpl <| ai @hgs <| @MCon.own_eq); repeat' (first | refine zY ?_ | with_reducible apply And.intro | with_reducible exact zB0 | with_reducible refine zB fun hb => ?_ | exact zC | refine zT ?_ | fail)))
      (refine AC_go ?_; simp only [go_sem, simprocAttr, h0, h1, h5, h9, hx, hpl, hgs, List.set_set, List.length_set, MCon.own_eq]; (have hWf := WFx.mk (ai @h0 <| ai @h1 <| ai @h5 <| ai @h9 <| ai @hx <| ai @hpl <| ai @hgs <| @MCon.own_eq); repeat' (first | refine zY ?_ | with_reducible apply And.intro | with_reducible exact zB0 | with_reducible refine zB fun hb => ?_ | exact zC | refine zT ?_ | fail)))
      refine AC_open 900000 i 2 1000000002 (e := 68) (k := 3) (rows := ((stM MCon.cnt MCon.mark k xs i).map MCon.own).set i [.s (.string (mkB (k + (cnts MCon.cnt (xs.take i) : Nat)))), .s (.bool (Int.tmod ((k + (cnts MCon.cnt (xs.take i) : Nat)) + 1) 3 == 0)), .osl 159 3 (xs[i].arg.map TyI.own)]) (row := [.s (.string (mkB (k + (cnts MCon.cnt (xs.take i) : Nat)))), .s (.bool (Int.tmod ((k + (cnts MCon.cnt (xs.take i) : Nat)) + 1) 3 == 0)), .osl 159 3 (xs[i].arg.map TyI.own)]) (d := .osl 159 3 (xs[i].arg.map TyI.own)) (by simp only [go_sem, simprocAttr, h9]) (List.getElem?_set_self (by rw [List.length_map, hpl]; exact hlt)) rfl rfl (by decide) (by decide) ?_
      (have hWf := WFx.mk (ai @h0 <| ai @h1 <| ai @h5 <| ai @h9 <| ai @hx <| ai @hpl <| ai @hgs <| ai @MCon.own_eq <| @marks_len); repeat' (first | refine zS ?_ | exact zE | with_reducible apply And.intro | ((with_reducible apply q_CallG); refine CallG_mk (c_markTyItemS xs[i].arg (hsx.2).1 _ (by omega) (by omega)) ?_; rintro _ _ ⟨rfl, rfl⟩) | ((with_reducible apply q_CallQ); refine CallQ_mk (c_markTyItemS xs[i].arg (hsx.2).1 _ (by omega) (by omega)) ?_) | with_reducible exact zB0 | with_reducible refine zB fun hb => ?_ | exact zC | refine zT ?_ | fail))
      refine hK (xs.length - (i + 1)) _ _ (by omega) (Wk_close 900000 1000000002 (e := 68) (k := 3) (i := i) (j := 2) (rows := ((stM MCon.cnt MCon.mark k xs i).map MCon.own).set i [.s (.string (mkB (k + (cnts MCon.cnt (xs.take i) : Nat)))), .s (.bool (Int.tmod ((k + (cnts MCon.cnt (xs.take i) : Nat)) + 1) 3 == 0)), .osl 159 3 (xs[i].arg.map TyI.own)]) (r := .bs 1000000002 3 xs[i].arg.length) (d := .osl 159 3 ((marks TyI.cnt TyI.mark (((k + (cnts MCon.cnt (xs.take i) : Nat)) + 1) + 1) xs[i].arg).map TyI.own)) (ob := 3 = 3 ∧ xs[i].arg.length ≤ ((marks TyI.cnt TyI.mark (((k + (cnts MCon.cnt (xs.take i) : Nat)) + 1) + 1) xs[i].arg).map TyI.own).length) ?_ ?_ ⟨rfl, by rw [List.length_map, marks_len]; exact Nat.le_refl _⟩ rfl (by decide)) ⟨i + 1, by omega, rfl, ?_⟩
      · simp only [go_sem, simprocAttr, h9, hgs]
      · simp only [go_sem, simprocAttr, marks_len]
      · simp only [go_sem, simprocAttr, h0, h1, h5, h9, Int.natCast_succ, hx, hst, hgs, List.set_set, List.set_cons_succ, List.set_cons_zero]
        exact sI_congr (by rw [hc]; push_cast; omega)
    · obtain rfl : i = xs.length := by omega
      rw [stM_all] at h9
      rw [List.take_length] at h1
      (have hWf := WFx.mk (ai @h0 <| ai @h1 <| ai @h5 <| ai @h9 <| @marks_len); repeat' (first | refine zS ?_ | exact zE | with_reducible apply And.intro | with_reducible exact zB0 | with_reducible refine zB fun hb => ?_ | exact zC | refine zT ?_ | fail))
theorem c_heldConS (xs : List MCon) (hs : smS MCon.sm xs) (k : Int) (h0 : 0 ≤ k) (hk : k + cnts MCon.cnt xs ≤ 4611686018427387904) : FCon Tryz.prog 90 [.sl 3 ((marks MCon.cnt MCon.mark k xs).map MCon.enc), .s (.int .i64 k)] (fun r _ => r = .s (.int .i64 (k + cnts MCon.cnt xs))) := by
  have hl := hs.1
  refine FCon.intro PM _ Tryz.func90 (by kernel_rfl) rfl _ Tryz.ntmps90 rfl [(4, 7, [], [], (lin [] [0, 1, 2, 3, 4, 5, 6]))] (by decide +kernel) (by simp) (by simp) rfl (by first | rfl | simp only [go_sem]) ?_
  have hml := marks_len (c := MCon.cnt) (m := MCon.mark) k xs
  (have hWf := f0; repeat' (first | refine zS ?_ | exact zE | with_reducible apply And.intro | with_reducible exact zB0 | with_reducible refine zB fun hb => ?_ | exact zC | refine zT ?_ | fail))
  refine AC_loop (fun n σ => ∃ i : Nat, i ≤ xs.length ∧ n = xs.length - i ∧ σ.t 0 = .sl 3 ((marks MCon.cnt MCon.mark k xs).map MCon.enc) ∧ σ.t 1 = .s (.int .i64 (k + cnts MCon.cnt (xs.take i))) ∧ σ.t 5 = .s (.int .i64 i)) xs.length ⟨0, by omega, by omega, ?_⟩ ?_
  · simp only [go_sem, simprocAttr, Int.natCast_zero, List.take_zero, cnts, Int.add_zero]
  · rintro n σ ⟨i, hi, rfl, h0, h1, h5⟩ K' hK
    by_cases hlt : i < xs.length
    · have hc := cnts_step (c := MCon.cnt) hlt
      have hc' := cnts_le (c := MCon.cnt) xs (i + 1)
      have hx := marks_get (c := MCon.cnt) (m := MCon.mark) k hlt MCon.enc
      simp only [MCon.enc_eq, MCon.mark] at hx
      simp only [MCon.cnt] at hc
      have hsx := hs.2 _ (List.getElem_mem hlt)
      (have hWf := WFx.mk (ai @h0 <| ai @h1 <| ai @h5 <| ai @hx <| @hml); repeat' (first | refine zS ?_ | exact zE | with_reducible apply And.intro | ((with_reducible apply q_CallG); refine zG (c_markText (k + (cnts MCon.cnt (xs.take i) : Nat)) (by omega)) ?_) | ((with_reducible apply q_CallQ); refine CallQ_mk (c_markText (k + (cnts MCon.cnt (xs.take i) : Nat)) (by omega)) ?_) | ((with_reducible apply q_CallG); refine zG (c_heldTyItemS xs[i].arg (hsx.2).1 _ (by omega) (by omega)) ?_) | ((with_reducible apply q_CallQ); refine CallQ_mk (c_heldTyItemS xs[i].arg (hsx.2).1 _ (by omega) (by omega)) ?_) | with_reducible exact zB0 | with_reducible refine zB fun hb => ?_ | exact zC | refine zT ?_ | fail))
      all_goals
        refine hK (xs.length - (i + 1)) _ (by omega) ⟨i + 1, by omega, rfl, ?_⟩
        simp only [go_sem, simprocAttr, h0, h1, h5, Int.natCast_succ]
        exact sI_congr (by rw [hc]; push_cast; omega)
    · obtain rfl : i = xs.length := by omega
      rw [List.take_length] at h1
      (have hWf := WFx.mk (ai @h0 <| ai @h1 <| ai @h5 <| @hml); repeat' (first | refine zS ?_ | exact zE | with_reducible apply And.intro | with_reducible exact zB0 | with_reducible refine zB fun hb => ?_ | exact zC | refine zT ?_ | fail))
end Go.Proofs.YtgcdbmcoendcdaaGreat

namespace Go.Proofs.YtgcdbmcoendcdaaGreat
set_option linter.unusedVariables false
set_option linter.unusedSimpArgs false
attribute [local go_sem] List.length_set List.set_set
open Go.RowKit Go.ChangeShapes Go.WideShapes
structure MType where
  name : ByteArray
  params : Int
  cons : List MCon
def MType.enc (x : MType) : List D := [.s (.string x.name), .s (.int .i64 x.params), .sl 3 (x.cons.map MCon.enc)]
theorem MType.enc_eq (x : MType) : x.enc = [.s (.string x.name), .s (.int .i64 x.params), .sl 3 (x.cons.map MCon.enc)] := rfl
def MType.own (x : MType) : List D := [.s (.string x.name), .s (.int .i64 x.params), .osl 68 3 (x.cons.map MCon.own)]
theorem MType.own_eq (x : MType) : x.own = [.s (.string x.name), .s (.int .i64 x.params), .osl 68 3 (x.cons.map MCon.own)] := rfl
theorem MType.frz_eq (x : MType) : frzL x.own = x.enc := by
  simp only [MType.own_eq, MType.enc_eq, frzL, frz, frz_rows MCon.frz_eq]
def MType.ok (x : MType) : Prop := x.name.size ≤ maxLen ∧ I64 x.params ∧ (∀ y ∈ x.cons, y.ok)
def MType.sm (x : MType) : Prop := x.name.size ≤ 1048576 ∧ smS MCon.sm x.cons
def MType.cnt (x : MType) : Nat := 1 + 1 + cnts MCon.cnt x.cons
def MType.mark (k : Int) (x : MType) : MType := ⟨mkB k, (k + 1), marks MCon.cnt MCon.mark ((k + 1) + 1) x.cons⟩
theorem MType.cnt_eq (x : MType) : x.cnt = 1 + 1 + cnts MCon.cnt x.cons := rfl
theorem MType.mark_eq (k : Int) (x : MType) : MType.mark k x = ⟨mkB k, (k + 1), marks MCon.cnt MCon.mark ((k + 1) + 1) x.cons⟩ := rfl
theorem MType.pure (x : MType) : ∀ d ∈ x.own, Pure d := by
  simp only [MType.own_eq, List.forall_mem_cons, List.not_mem_nil, false_imp_iff, implies_true, and_true]
  exact ⟨.s _, .s _, pure_rows MCon.pure _ _ _⟩
theorem MType.pureS (e k : Nat) (xs : List MType) : Pure (.osl e k (xs.map MType.own)) = True := eq_true (pure_rows MType.pure e k xs)
attribute [go_sem] MType.pureS
theorem MType.frzS (xs : List MType) : frzLL (xs.map MType.own) = xs.map MType.enc := frz_rows MType.frz_eq xs
attribute [go_sem] MType.frzS
theorem c_toType (x : MType) (hs : x.sm) : FCon Tryz.prog 75 [.ag x.enc] (fun r _ => r = .ag x.own) := by
  refine FCon.intro PM _ Tryz.func75 (by kernel_rfl) rfl _ Tryz.ntmps75 rfl [] (by decide +kernel) (by simp) (by simp) rfl (by first | rfl | simp only [go_sem]) ?_
  (have hWf := WFx.mk (ai @MType.enc_eq <| @MType.own_eq); repeat' (first | refine zS ?_ | exact zE | with_reducible apply And.intro | refine zK (c_toConS x.cons (hs.2)) ?_ | with_reducible exact zB0 | with_reducible refine zB fun hb => ?_ | exact zC | refine zT ?_ | fail))
theorem c_toTypeS (xs : List MType) (hs : smS MType.sm xs) : FCon Tryz.prog 27 [.sl 3 (xs.map MType.enc)] (fun r _ => r = .osl 63 3 (xs.map MType.own)) := by
  have hl := hs.1
  refine FCon.intro PM _ Tryz.func27 (by kernel_rfl) rfl _ Tryz.ntmps27 rfl [] (by decide +kernel) (by simp) (by simp) rfl (by first | rfl | simp only [go_sem]) ?_
  (have hWf := f0; repeat' (first | refine zS ?_ | exact zE | with_reducible apply And.intro | with_reducible exact zB0 | with_reducible refine zB fun hb => ?_ | exact zC | refine zT ?_ | fail))
  refine AC_loop (fun n σ => ∃ k : Nat, k ≤ xs.length ∧ n = xs.length - k ∧ σ.t 0 = .sl 3 (xs.map MType.enc) ∧ σ.t 3 = .bs 7 3 xs.length ∧ σ.t 4 = .s (.int .i64 k) ∧ σ.b 7 = some (.arr 63 3 (partR MType.own [.s (.string ⟨#[]⟩), .s (.int .i64 0), .nil] xs k))) xs.length ⟨0, by omega, by omega, ?_⟩ ?_
  · simp only [go_sem, simprocAttr, partR_zero, Int.natCast_zero]
  · rintro n σ ⟨k, hk, rfl, h0, h3, h4, h7⟩ K' hK
    by_cases hlt : k < xs.length
    · have hx := getD_map MType.enc xs k hlt
      have he := MType.enc_eq xs[k]
      have hpl := partR_len (f := MType.own) (z := [.s (.string ⟨#[]⟩), .s (.int .i64 0), .nil]) (Nat.le_of_lt hlt)
      have hg := partR_get (f := MType.own) (z := [.s (.string ⟨#[]⟩), .s (.int .i64 0), .nil]) hlt
      have hst := partR_set (f := MType.own) (z := [.s (.string ⟨#[]⟩), .s (.int .i64 0), .nil]) hlt
      rw [MType.own_eq] at hst
      (have hWf := WFx.mk (ai @h0 <| ai @h3 <| ai @h4 <| ai @h7 <| ai @hx <| ai @he <| ai @MType.own_eq <| ai @hpl <| ai @hg <| @hst); repeat' (first | refine zS ?_ | exact zE | with_reducible apply And.intro | ((with_reducible apply q_CallG); refine zG (c_toType xs[k] (hs.2 _ (List.getElem_mem hlt))) ?_) | ((with_reducible apply q_CallQ); refine CallQ_mk (c_toType xs[k] (hs.2 _ (List.getElem_mem hlt))) ?_) | with_reducible exact zB0 | with_reducible refine zB fun hb => ?_ | exact zC | refine zT ?_ | fail))
      refine hK (xs.length - (k + 1)) _ (by omega) ⟨k + 1, by omega, rfl, ?_⟩
      simp only [go_sem, simprocAttr, h0, h3, h4, h7, Int.natCast_succ]
    · obtain rfl : k = xs.length := by omega
      rw [partR_all] at h7
      (have hWf := WFx.mk (ai @h0 <| ai @h3 <| ai @h4 <| @h7); repeat' (first | refine zS ?_ | exact zE | with_reducible apply And.intro | with_reducible exact zB0 | with_reducible refine zB fun hb => ?_ | exact zC | refine zT ?_ | fail))
theorem c_eqType (x : MType) : FCon Tryz.prog 84 [.ag x.enc, .ag x.enc] (fun r _ => r = .s (.bool true)) := by
  refine FCon.intro PM _ Tryz.func84 (by kernel_rfl) rfl _ Tryz.ntmps84 rfl [] (by decide +kernel) (by simp) (by simp) rfl (by first | rfl | simp only [go_sem]) ?_
  (have hWf := WFx.mk @MType.enc_eq; repeat' (first | refine zS ?_ | exact zE | with_reducible apply And.intro | refine zK (c_eqConS x.cons) ?_ | with_reducible exact zB0 | with_reducible refine zB fun hb => ?_ | exact zC | refine zT ?_ | fail))
theorem c_eqTypeS (xs : List MType) : FCon Tryz.prog 33 [.sl 3 (xs.map MType.enc), .sl 3 (xs.map MType.enc)] (fun r _ => r = .s (.bool true)) := by
  refine FCon.intro PM _ Tryz.func33 (by kernel_rfl) rfl _ Tryz.ntmps33 rfl [(6, 8, [], [], (lin [] [0, 1, 2, 3, 4, 5, 6, 7]))] (by decide +kernel) (by simp) (by simp) rfl (by first | rfl | simp only [go_sem]) ?_
  refine AC_len 0 rfl trivial fun hlen => ?_
  simp only [List.length_map] at hlen
  (have hWf := f0; repeat' (first | refine zS ?_ | exact zE | with_reducible apply And.intro | with_reducible exact zB0 | with_reducible refine zB fun hb => ?_ | exact zC | refine zT ?_ | fail))
  refine AC_loop (fun n σ => ∃ k : Nat, k ≤ xs.length ∧ n = xs.length - k ∧ σ.t 0 = .sl 3 (xs.map MType.enc) ∧ σ.t 1 = .sl 3 (xs.map MType.enc) ∧ σ.t 5 = .s (.int .i64 k)) xs.length ⟨0, by omega, by omega, ?_⟩ ?_
  · simp only [go_sem, simprocAttr, Int.natCast_zero]
  · rintro n σ ⟨k, hk, rfl, h0, h1, h5⟩ K' hK
    by_cases hlt : k < xs.length
    · have hx := getD_map MType.enc xs k hlt
      have he := MType.enc_eq xs[k]
      (have hWf := WFx.mk (ai @h0 <| ai @h1 <| ai @h5 <| ai @hx <| @he); repeat' (first | refine zS ?_ | exact zE | with_reducible apply And.intro | refine zK (c_eqType xs[k]) ?_ | with_reducible exact zB0 | with_reducible refine zB fun hb => ?_ | exact zC | refine zT ?_ | fail))
      all_goals
        refine hK (xs.length - (k + 1)) _ (by omega) ⟨k + 1, by omega, rfl, ?_⟩
        simp only [go_sem, simprocAttr, h0, h1, h5, Int.natCast_succ]
    · (have hWf := WFx.mk (ai @h0 <| ai @h1 <| @h5); repeat' (first | refine zS ?_ | exact zE | with_reducible apply And.intro | with_reducible exact zB0 | with_reducible refine zB fun hb => ?_ | exact zC | refine zT ?_ | fail))
theorem c_markTypeS (xs : List MType) (hs : smS MType.sm xs) (k : Int) (h0 : 0 ≤ k) (hk : k + cnts MType.cnt xs ≤ 4611686018427387904) : FCon Tryz.prog 35 [.osl 63 3 (xs.map MType.own), .s (.int .i64 k)] (fun r o => r = .s (.int .i64 (k + cnts MType.cnt xs)) ∧ o = [.osl 63 3 ((marks MType.cnt MType.mark k xs).map MType.own), .un]) := by
  refine FCon.intro PM _ Tryz.func35 (by kernel_rfl) rfl _ Tryz.ntmps35 rfl [] (by decide +kernel) (by simp) (by simp) rfl (by first | rfl | simp only [go_sem]) ?_
  (have hWf := f0; repeat' (first | refine zS ?_ | exact zE | with_reducible apply And.intro | with_reducible exact zB0 | with_reducible refine zB fun hb => ?_ | exact zC | refine zT ?_ | fail))
  refine AC_loopW (fun n σ => ∃ i : Nat, i ≤ xs.length ∧ n = xs.length - i ∧ σ.t 0 = .bs 900000 3 xs.length ∧ σ.t 1 = .s (.int .i64 (k + cnts MType.cnt (xs.take i))) ∧ σ.t 5 = .s (.int .i64 i) ∧ σ.b 900000 = some (.arr 63 3 ((stM MType.cnt MType.mark k xs i).map MType.own))) xs.length ⟨0, by omega, by omega, ?_⟩ ?_
  · simp only [go_sem, simprocAttr, Int.natCast_zero, stM_zero, List.take_zero, cnts, Int.add_zero]
  · rintro n σ ⟨i, hi, rfl, h0, h1, h5, h9⟩ K' hK
    by_cases hlt : i < xs.length
    · have hc := cnts_step (c := MType.cnt) hlt
      have hc' := cnts_le (c := MType.cnt) xs (i + 1)
      have hx := stM_get (c := MType.cnt) (m := MType.mark) k hlt MType.own
      have hpl := stM_len (c := MType.cnt) (m := MType.mark) k (Nat.le_of_lt hlt)
      have hst := stM_set (c := MType.cnt) (m := MType.mark) k hlt MType.own
      have hgs : ∀ r, (((stM MType.cnt MType.mark k xs i).map MType.own).set i r).getD i [] = r := fun r => by rw [List.getD_eq_getElem?_getD, List.getElem?_set_self (by rw [List.length_map, hpl]; exact hlt)]; rfl
      simp only [MType.own_eq, MType.mark] at hx hst
      simp only [MType.cnt] at hc
      have hrow : ((stM MType.cnt MType.mark k xs i).map MType.own)[i]? = some (MType.own xs[i]) := by
        have h1 : i < ((stM MType.cnt MType.mark k xs i).map MType.own).length := by simpa [hpl] using hlt
        rw [List.getElem?_eq_getElem h1, ← getD_of (List.getElem?_eq_getElem h1), hx]
        rfl
      have hsx := hs.2 _ (List.getElem_mem hlt)
      have hl := hs.1
      (refine AC_go ?_; simp only [go_sem, simprocAttr, h0, h1, h5]; (have hWf := WFx.mk (ai @h0 <| ai @h1 <| @h5); repeat' (first | refine zY ?_ | with_reducible apply And.intro | with_reducible exact zB0 | with_reducible refine zB fun hb => ?_ | exact zC | refine zT ?_ | fail)))
      (refine AC_go ?_; simp only [go_sem, simprocAttr, h0, h1, h5]; (have hWf := WFx.mk (ai @h0 <| ai @h1 <| @h5); repeat' (first | refine zY ?_ | with_reducible apply And.intro | with_reducible exact zB0 | with_reducible refine zB fun hb => ?_ | exact zC | refine zT ?_ | fail)))
      (refine AC_go ?_; simp only [go_sem, simprocAttr, h0, h1, h5]; (have hWf := WFx.mk (ai @h0 <| ai @h1 <| @h5); repeat' (first | refine zY ?_ | with_reducible apply And.intro | with_reducible exact zB0 | with_reducible refine zB fun hb => ?_ | exact zC | refine zT ?_ | fail)))
      (refine AC_go ?_; simp only [go_sem, simprocAttr, h0, h1, h5, h9, hx, hpl, hgs, List.set_set, List.length_set, MType.own_eq]; (have hWf := WFx.mk (ai @h0 <| ai @h1 <| ai @h5 <| ai @h9 <| ai @hx <| ai @hpl <| ai @hgs <| @MType.own_eq); repeat' (first | refine zY ?_ | with_reducible apply And.intro | ((with_reducible apply q_CallG); refine zG (c_markText (k + (cnts MType.cnt (xs.take i) : Nat)) (by omega)) ?_) | ((with_reducible apply q_CallQ); refine CallQ_mk (c_markText (k + (cnts MType.cnt (xs.take i) : Nat)) (by omega)) ?_) | with_reducible exact zB0 | with_reducible refine zB fun hb => ?_ | exact zC | refine zT ?_ | fail)))
      (refine AC_go ?_; simp only [go_sem, simprocAttr, h0, h1, h5, h9, hx, hpl, hgs, List.set_set, List.length_set, MType.own_eq]; (have hWf := WFx.mk (ai @h0 <| ai @h1 <| ai @h5 <| ai @h9 <| ai @hx <| ai @hpl <| ai @hgs <| @MType.own_eq); repeat' (first | refine zY ?_ | with_reducible apply And.intro | with_reducible exact zB0 | with_reducible refine zB fun hb => ?_ | exact zC | refine zT ?_ | fail)))
      (refine AC_go ?_; simp only [go_sem, simprocAttr, h0, h1, h5, h9, hx, hpl, hgs, List.set_set, List.length_set, MType.own_eq]; (have hWf := WFx.mk (ai @h0 <| ai @h1 <| ai @h5 <| ai @h9 <| ai @hx <| ai @hpl <| ai @hgs <| @MType.own_eq); repeat' (first | refine zY ?_ | with_reducible apply And.intro | with_reducible exact zB0 | with_reducible refine zB fun hb => ?_ | exact zC | refine zT ?_ | fail)))
      (refine AC_go ?_; simp only [go_sem, simprocAttr, h0, h1, h5, h9, hx, hpl, hgs, List.set_set, List.length_set, MType.own_eq]; (have hWf := WFx.mk (ai @h0 <| ai @h1 <| ai @h5 <| ai @h9 <| ai @hx <| ai @hpl <| ai @hgs <| @MType.own_eq); repeat' (first | refine zY ?_ | with_reducible apply And.intro | with_reducible exact zB0 | with_reducible refine zB fun hb => ?_ | exact zC | refine zT ?_ | fail)))
      refine AC_open 900000 i 2 1000000002 (e := 63) (k := 3) (rows := ((stM MType.cnt MType.mark k xs i).map MType.own).set i [.s (.string (mkB (k + (cnts MType.cnt (xs.take i) : Nat)))), .s (.int .i64 ((k + (cnts MType.cnt (xs.take i) : Nat)) + 1)), .osl 68 3 (xs[i].cons.map MCon.own)]) (row := [.s (.string (mkB (k + (cnts MType.cnt (xs.take i) : Nat)))), .s (.int .i64 ((k + (cnts MType.cnt (xs.take i) : Nat)) + 1)), .osl 68 3 (xs[i].cons.map MCon.own)]) (d := .osl 68 3 (xs[i].cons.map MCon.own)) (by simp only [go_sem, simprocAttr, h9]) (List.getElem?_set_self (by rw [List.length_map, hpl]; exact hlt)) rfl rfl (by decide) (by decide) ?_
      (have hWf := WFx.mk (ai @h0 <| ai @h1 <| ai @h5 <| ai @h9 <| ai @hx <| ai @hpl <| ai @hgs <| ai @MType.own_eq <| @marks_len); repeat' (first | refine zS ?_ | exact zE | with_reducible apply And.intro | ((with_reducible apply q_CallG); refine CallG_mk (c_markConS xs[i].cons (hsx.2) _ (by omega) (by omega)) ?_; rintro _ _ ⟨rfl, rfl⟩) | ((with_reducible apply q_CallQ); refine CallQ_mk (c_markConS xs[i].cons (hsx.2) _ (by omega) (by omega)) ?_) | with_reducible exact zB0 | with_reducible refine zB fun hb => ?_ | exact zC | refine zT ?_ | fail))
      refine hK (xs.length - (i + 1)) _ _ (by omega) (Wk_close 900000 1000000002 (e := 63) (k := 3) (i := i) (j := 2) (rows := ((stM MType.cnt MType.mark k xs i).map MType.own).set i [.s (.string (mkB (k + (cnts MType.cnt (xs.take i) : Nat)))), .s (.int .i64 ((k + (cnts MType.cnt (xs.take i) : Nat)) + 1)), .osl 68 3 (xs[i].cons.map MCon.own)]) (r := .bs 1000000002 3 xs[i].cons.length) (d := .osl 68 3 ((marks MCon.cnt MCon.mark (((k + (cnts MType.cnt (xs.take i) : Nat)) + 1) + 1) xs[i].cons).map MCon.own)) (ob := 3 = 3 ∧ xs[i].cons.length ≤ ((marks MCon.cnt MCon.mark (((k + (cnts MType.cnt (xs.take i) : Nat)) + 1) + 1) xs[i].cons).map MCon.own).length) ?_ ?_ ⟨rfl, by rw [List.length_map, marks_len]; exact Nat.le_refl _⟩ rfl (by decide)) ⟨i + 1, by omega, rfl, ?_⟩
      · simp only [go_sem, simprocAttr, h9, hgs]
      · simp only [go_sem, simprocAttr, marks_len]
      · simp only [go_sem, simprocAttr, h0, h1, h5, h9, Int.natCast_succ, hx, hst, hgs, List.set_set, List.set_cons_succ, List.set_cons_zero]
        exact sI_congr (by rw [hc]; push_cast; omega)
    · obtain rfl : i = xs.length := by omega
      rw [stM_all] at h9
      rw [List.take_length] at h1
      (have hWf := WFx.mk (ai @h0 <| ai @h1 <| ai @h5 <| ai @h9 <| @marks_len); repeat' (first | refine zS ?_ | exact zE | with_reducible apply And.intro | with_reducible exact zB0 | with_reducible refine zB fun hb => ?_ | exact zC | refine zT ?_ | fail))
theorem c_heldTypeS (xs : List MType) (hs : smS MType.sm xs) (k : Int) (h0 : 0 ≤ k) (hk : k + cnts MType.cnt xs ≤ 4611686018427387904) : FCon Tryz.prog 37 [.sl 3 ((marks MType.cnt MType.mark k xs).map MType.enc), .s (.int .i64 k)] (fun r _ => r = .s (.int .i64 (k + cnts MType.cnt xs))) := by
  have hl := hs.1
  refine FCon.intro PM _ Tryz.func37 (by kernel_rfl) rfl _ Tryz.ntmps37 rfl [(4, 7, [], [], (lin [] [0, 1, 2, 3, 4, 5, 6]))] (by decide +kernel) (by simp) (by simp) rfl (by first | rfl | simp only [go_sem]) ?_
  have hml := marks_len (c := MType.cnt) (m := MType.mark) k xs
  (have hWf := f0; repeat' (first | refine zS ?_ | exact zE | with_reducible apply And.intro | with_reducible exact zB0 | with_reducible refine zB fun hb => ?_ | exact zC | refine zT ?_ | fail))
  refine AC_loop (fun n σ => ∃ i : Nat, i ≤ xs.length ∧ n = xs.length - i ∧ σ.t 0 = .sl 3 ((marks MType.cnt MType.mark k xs).map MType.enc) ∧ σ.t 1 = .s (.int .i64 (k + cnts MType.cnt (xs.take i))) ∧ σ.t 5 = .s (.int .i64 i)) xs.length ⟨0, by omega, by omega, ?_⟩ ?_
  · simp only [go_sem, simprocAttr, Int.natCast_zero, List.take_zero, cnts, Int.add_zero]
  · rintro n σ ⟨i, hi, rfl, h0, h1, h5⟩ K' hK
    by_cases hlt : i < xs.length
    · have hc := cnts_step (c := MType.cnt) hlt
      have hc' := cnts_le (c := MType.cnt) xs (i + 1)
      have hx := marks_get (c := MType.cnt) (m := MType.mark) k hlt MType.enc
      simp only [MType.enc_eq, MType.mark] at hx
      simp only [MType.cnt] at hc
      have hsx := hs.2 _ (List.getElem_mem hlt)
      (have hWf := WFx.mk (ai @h0 <| ai @h1 <| ai @h5 <| ai @hx <| @hml); repeat' (first | refine zS ?_ | exact zE | with_reducible apply And.intro | ((with_reducible apply q_CallG); refine zG (c_markText (k + (cnts MType.cnt (xs.take i) : Nat)) (by omega)) ?_) | ((with_reducible apply q_CallQ); refine CallQ_mk (c_markText (k + (cnts MType.cnt (xs.take i) : Nat)) (by omega)) ?_) | ((with_reducible apply q_CallG); refine zG (c_heldConS xs[i].cons (hsx.2) _ (by omega) (by omega)) ?_) | ((with_reducible apply q_CallQ); refine CallQ_mk (c_heldConS xs[i].cons (hsx.2) _ (by omega) (by omega)) ?_) | with_reducible exact zB0 | with_reducible refine zB fun hb => ?_ | exact zC | refine zT ?_ | fail))
      all_goals
        refine hK (xs.length - (i + 1)) _ (by omega) ⟨i + 1, by omega, rfl, ?_⟩
        simp only [go_sem, simprocAttr, h0, h1, h5, Int.natCast_succ]
        exact sI_congr (by rw [hc]; push_cast; omega)
    · obtain rfl : i = xs.length := by omega
      rw [List.take_length] at h1
      (have hWf := WFx.mk (ai @h0 <| ai @h1 <| ai @h5 <| @hml); repeat' (first | refine zS ?_ | exact zE | with_reducible apply And.intro | with_reducible exact zB0 | with_reducible refine zB fun hb => ?_ | exact zC | refine zT ?_ | fail))
end Go.Proofs.YtgcdbmcoendcdaaGreat

namespace Go.Proofs.YtgcdbmcoendcdaaGreat
set_option linter.unusedVariables false
set_option linter.unusedSimpArgs false
open Go.RowKit Go.ChangeShapes Go.WideShapes
structure MProgram where
  types : List MType
  nodes : List MNode
def MProgram.enc (x : MProgram) : List D := [.sl 3 (x.types.map MType.enc), .sl 6 (x.nodes.map MNode.enc)]
theorem MProgram.enc_eq (x : MProgram) : x.enc = [.sl 3 (x.types.map MType.enc), .sl 6 (x.nodes.map MNode.enc)] := rfl
def MProgram.own (x : MProgram) : List D := [.osl 63 3 (x.types.map MType.own), .osl 55 6 (x.nodes.map MNode.own)]
theorem MProgram.own_eq (x : MProgram) : x.own = [.osl 63 3 (x.types.map MType.own), .osl 55 6 (x.nodes.map MNode.own)] := rfl
theorem MProgram.frz_eq (x : MProgram) : frzL x.own = x.enc := by
  simp only [MProgram.own_eq, MProgram.enc_eq, frzL, frz, frz_rows MType.frz_eq, frz_rows MNode.frz_eq]
def MProgram.ok (x : MProgram) : Prop := (∀ y ∈ x.types, y.ok) ∧ (∀ y ∈ x.nodes, y.ok)
def MProgram.sm (x : MProgram) : Prop := smS MType.sm x.types ∧ smS MNode.sm x.nodes
def MProgram.cnt (x : MProgram) : Nat := cnts MType.cnt x.types + cnts MNode.cnt x.nodes
def MProgram.mark (k : Int) (x : MProgram) : MProgram := ⟨marks MType.cnt MType.mark k x.types, marks MNode.cnt MNode.mark (k + (cnts MType.cnt x.types : Nat)) x.nodes⟩
theorem MProgram.cnt_eq (x : MProgram) : x.cnt = cnts MType.cnt x.types + cnts MNode.cnt x.nodes := rfl
theorem MProgram.mark_eq (k : Int) (x : MProgram) : MProgram.mark k x = ⟨marks MType.cnt MType.mark k x.types, marks MNode.cnt MNode.mark (k + (cnts MType.cnt x.types : Nat)) x.nodes⟩ := rfl
theorem MProgram.pure (x : MProgram) : ∀ d ∈ x.own, Pure d := by
  simp only [MProgram.own_eq, List.forall_mem_cons, List.not_mem_nil, false_imp_iff, implies_true, and_true]
  exact ⟨pure_rows MType.pure _ _ _, pure_rows MNode.pure _ _ _⟩
theorem MProgram.pureS (e k : Nat) (xs : List MProgram) : Pure (.osl e k (xs.map MProgram.own)) = True := eq_true (pure_rows MProgram.pure e k xs)
attribute [go_sem] MProgram.pureS
theorem MProgram.frzS (xs : List MProgram) : frzLL (xs.map MProgram.own) = xs.map MProgram.enc := frz_rows MProgram.frz_eq xs
attribute [go_sem] MProgram.frzS
theorem c_toProgram (x : MProgram) (hs : x.sm) : FCon Tryz.prog 8 [.ag x.enc] (fun r _ => r = .ag x.own) := by
  refine FCon.intro PM _ Tryz.func8 (by kernel_rfl) rfl _ Tryz.ntmps8 rfl [] (by decide +kernel) (by simp) (by simp) rfl (by first | rfl | simp only [go_sem]) ?_
  (have hWf := WFx.mk (ai @MProgram.enc_eq <| @MProgram.own_eq); repeat' (first | refine zS ?_ | exact zE | with_reducible apply And.intro | refine zK (c_toTypeS x.types (hs.1)) ?_ | refine zK (c_toNodeS x.nodes (hs.2)) ?_ | with_reducible exact zB0 | with_reducible refine zB fun hb => ?_ | exact zC | refine zT ?_ | fail))
theorem c_eqProgram (x : MProgram) : FCon Tryz.prog 10 [.ag x.enc, .ag x.enc] (fun r _ => r = .s (.bool true)) := by
  refine FCon.intro PM _ Tryz.func10 (by kernel_rfl) rfl _ Tryz.ntmps10 rfl [] (by decide +kernel) (by simp) (by simp) rfl (by first | rfl | simp only [go_sem]) ?_
  (have hWf := WFx.mk @MProgram.enc_eq; repeat' (first | refine zS ?_ | exact zE | with_reducible apply And.intro | refine zK (c_eqTypeS x.types) ?_ | refine zK (c_eqNodeS x.nodes) ?_ | with_reducible exact zB0 | with_reducible refine zB fun hb => ?_ | exact zC | refine zT ?_ | fail))
theorem c_markProgram (x : MProgram) (hs : x.sm) (k : Int) (h0 : 0 ≤ k) (hk : k + x.cnt ≤ 4611686018427387904) : FCon Tryz.prog 11 [.ag x.own, .s (.int .i64 k)] (fun r o => r = .s (.int .i64 (k + x.cnt)) ∧ o = [.ag (MProgram.mark k x).own, .un]) := by
  simp only [MProgram.cnt] at hk
  refine FCon.intro PM _ Tryz.func11 (by kernel_rfl) rfl _ Tryz.ntmps11 rfl [] (by decide +kernel) (by simp) (by simp) rfl (by first | rfl | simp only [go_sem]) ?_
  (have hWf := WFx.mk (ai @MProgram.own_eq <| ai @marks_len <| ai @MProgram.cnt_eq <| @MProgram.mark_eq); repeat' (first | refine zS ?_ | exact zE | with_reducible apply And.intro | ((with_reducible apply q_CallG); refine CallG_mk (c_markTypeS x.types (hs.1) _ (by omega) (by omega)) ?_; rintro _ _ ⟨rfl, rfl⟩) | ((with_reducible apply q_CallQ); refine CallQ_mk (c_markTypeS x.types (hs.1) _ (by omega) (by omega)) ?_) | ((with_reducible apply q_CallG); refine CallG_mk (c_markNodeS x.nodes (hs.2) _ (by omega) (by omega)) ?_; rintro _ _ ⟨rfl, rfl⟩) | ((with_reducible apply q_CallQ); refine CallQ_mk (c_markNodeS x.nodes (hs.2) _ (by omega) (by omega)) ?_) | with_reducible exact zB0 | with_reducible refine zB fun hb => ?_ | exact zC | refine zT ?_ | fail))
  all_goals (first | rfl | exact sI_congr (by push_cast; omega) | exact ⟨sI_congr (by push_cast; omega), rfl⟩ | skip)
theorem c_heldProgram (x : MProgram) (hs : x.sm) (k : Int) (h0 : 0 ≤ k) (hk : k + x.cnt ≤ 4611686018427387904) : FCon Tryz.prog 12 [.ag (MProgram.mark k x).enc, .s (.int .i64 k)] (fun r _ => r = .s (.int .i64 (k + x.cnt))) := by
  simp only [MProgram.cnt] at hk
  refine FCon.intro PM _ Tryz.func12 (by kernel_rfl) rfl _ Tryz.ntmps12 rfl [] (by decide +kernel) (by simp) (by simp) rfl (by first | rfl | simp only [go_sem]) ?_
  (have hWf := WFx.mk (ai @MProgram.enc_eq <| ai @MProgram.mark_eq <| @MProgram.cnt_eq); repeat' (first | refine zS ?_ | exact zE | with_reducible apply And.intro | ((with_reducible apply q_CallG); refine zG (c_heldTypeS x.types (hs.1) _ (by omega) (by omega)) ?_) | ((with_reducible apply q_CallQ); refine CallQ_mk (c_heldTypeS x.types (hs.1) _ (by omega) (by omega)) ?_) | ((with_reducible apply q_CallG); refine zG (c_heldNodeS x.nodes (hs.2) _ (by omega) (by omega)) ?_) | ((with_reducible apply q_CallQ); refine CallQ_mk (c_heldNodeS x.nodes (hs.2) _ (by omega) (by omega)) ?_) | with_reducible exact zB0 | with_reducible refine zB fun hb => ?_ | exact zC | refine zT ?_ | fail))
  all_goals (first | rfl | exact sI_congr (by push_cast; omega) | skip)
end Go.Proofs.YtgcdbmcoendcdaaGreat

namespace Go.Proofs.YtgcdbmcoendcdaaGreat
set_option linter.unusedVariables false
set_option linter.unusedSimpArgs false
def arI (k : Int) : Int :=
  if k = 1 ∨ k = 2 ∨ k = 3 ∨ k = 12 then 0 else if k = 5 ∨ k = 14 ∨ k = 16 ∨ k = 17 then 1
  else if k = 6 ∨ k = 7 ∨ k = 8 ∨ k = 10 ∨ k = 11 ∨ k = 15 ∨ k = 18 ∨ k = 19 then 2 else if k = 9 then 3 else -1
def kidK (nodes : List MNode) (l : List Int) (kd : Int) : Bool := match l with
  | k :: _ => decide (0 ≤ k) && (match nodes[k.toNat]? with | some x => x.kind == kd | none => false)
  | [] => false
theorem kidK_at {nodes : List MNode} {l : List Int} (h : 0 < l.length) {k : Nat} (hk : k < nodes.length) (e : l[0] = (k : Int)) (kd : Int) : kidK nodes l kd = (nodes[k].kind == kd) := by
  match l, h with
  | z :: r, _ =>
    have hz : z = (k : Int) := e
    subst hz
    simp only [kidK, Int.toNat_natCast, List.getElem?_eq_getElem hk]
    rw [decide_eq_true (by omega)]; rfl
def kindI (nodes : List MNode) (n : MNode) (nb : Bool) : Bool :=
  if n.kind = 1 then decide (0 ≤ n.n) && decide (n.n ≤ 4611686018427387903) && n.s.toList.isEmpty
  else if n.kind = 2 then true
  else if n.kind = 3 ∨ n.kind = 5 ∨ n.kind = 7 ∨ n.kind = 15 then nb
  else if n.kind = 8 then nb && kidK nodes n.kids 5
  else if n.kind = 10 then primM n.s
  else if n.kind = 4 then shapeM n.s n.kids.length (decide (n.kids.length = 1) && kidK nodes n.kids 11)
  else if n.kind = 13 then n.s.toList.isEmpty && decide (1 ≤ n.pats.length) && decide (n.kids.length = n.pats.length + 1)
  else decide (1 ≤ n.kind) && decide (n.kind ≤ 19) && n.s.toList.isEmpty
def nodeI (nodes : List MNode) (n : MNode) (nb : Bool) : Bool :=
  decide (0 ≤ n.at_) && (decide (arI n.kind < 0) || decide ((n.kids.length : Int) = arI n.kind)) && (decide (n.kind = 13) || decide (n.pats.length = 0)) && (decide (n.kind = 1) || decide (n.kind = 3) || decide (n.n = 0)) && kindI nodes n nb
def nameB (n : MNode) : Bool := nameM n.s && decide (n.n = 0)
def inB (nodes : List MNode) (l : List Int) : Bool := l.all fun k => decide (0 ≤ k) && decide (k < (nodes.length : Int))
def nodeM (nodes : List MNode) (n : MNode) : Bool := inB nodes n.kids && nodeI nodes n (nameB n) && n.pats.all fun q => patM q.nodes
def conOkM (params : Int) (c : MCon) : Bool := conM c.name.data.toList && (if c.has = true then tyOkM c.arg && c.arg.all (fun x => !(x.name.toList.isEmpty && decide (params ≤ x.v))) else decide (c.arg.length = 0))
def typeM (t : MType) : Bool := nameM t.name && decide (0 ≤ t.params) && decide (t.params ≤ 2) && decide (1 ≤ t.cons.length) && decide (t.cons.length ≤ 8) && t.cons.all (conOkM t.params)
abbrev kidsN (nodes : List MNode) : List (List Int) := nodes.map fun n => n.kids
def progM (p : MProgram) : Bool := decide (1 ≤ p.nodes.length) && decide (p.nodes.length ≤ 600) && decide (p.types.length ≤ 8) && p.types.all typeM && p.nodes.all (nodeM p.nodes) && orderM (kidsN p.nodes)
end Go.Proofs.YtgcdbmcoendcdaaGreat

namespace Go.Proofs.YtgcdbmcoendcdaaGreat
set_option linter.unusedVariables false
set_option linter.unusedSimpArgs false
open Go.RowKit Go.ChangeShapes Go.WideShapes
def RsT (left : Int) (n : Nat) (r : D) : Prop := ∃ z : Int, r = .s (.int .i64 z) ∧ -1 ≤ z ∧ z ≤ left ∧ (0 ≤ z → z + n ≤ left)
theorem cnts_le2 {α : Type} {c t : α → Nat} (h : ∀ x, c x ≤ 6 + 6 * t x) : ∀ l : List α, cnts c l ≤ 6 * (l.length + cnts t l)
  | [] => by simp [cnts]
  | x :: l => by have := h x; have := cnts_le2 h l; simp only [cnts, List.length_cons]; omega
theorem cnts_mem {α : Type} {t : α → Nat} {l : List α} {x : α} (h : x ∈ l) : t x ≤ cnts t l := by
  induction l with
  | nil => cases h
  | cons y l ih =>
    rw [cnts]
    rcases List.mem_cons.1 h with rfl | h
    · omega
    · have := ih h; omega
theorem cnts_take_succ {α : Type} {c : α → Nat} {xs : List α} {i : Nat} (h : i < xs.length) : cnts c (xs.take (i + 1)) = cnts c (xs.take i) + c xs[i] := cnts_step h
theorem d_szIntS (xs : List Int) (left : Int) (h0 : 0 ≤ left) (h1 : left ≤ 1048576) : FCon Tryz.prog 152 [intsD xs, .s (.int .i64 left)] (fun r _ => RsT left (xs.length + cnts (fun _ : Int => 0) xs) r) := by
  have hz : cnts (fun _ : Int => 0) xs = 0 := by induction xs with | nil => rfl | cons _ l ih => simp [cnts, ih]
  rw [hz]
  refine FCon.intro PM _ Tryz.func152 (by kernel_rfl) rfl _ Tryz.ntmps152 rfl [] (by decide +kernel) (by simp) (by simp) rfl (by first | rfl | simp only [go_sem]) ?_
  refine AC_len 0 rfl trivial fun hlen => ?_
  simp only [List.length_map] at hlen
  (have hWf := f0; repeat' (first | refine zS ?_ | exact zE | with_reducible apply And.intro | with_reducible exact zB0 | with_reducible refine zB fun hb => ?_ | exact zC | refine zT ?_ | fail))
  all_goals exact ⟨_, rfl, by omega, by omega, by omega⟩
def TyI.tot (x : TyI) : Nat := x.name.size
theorem TyI.tot_eq (x : TyI) : x.tot = x.name.size := rfl
theorem TyI.sm_of {x : TyI} (h : x.tot ≤ 1048576) : x.sm := by
  rw [TyI.tot_eq] at h
  exact (show x.name.size ≤ 1048576 by omega)
theorem TyI.cnt_le (x : TyI) : x.cnt ≤ 6 + 6 * x.tot := by
  rw [TyI.tot_eq, TyI.cnt_eq]
  omega
theorem d_szTyItem (x : TyI) (ho : x.ok) (left : Int) (h0 : 0 ≤ left) (h1 : left ≤ 1048576) : FCon Tryz.prog 273 [.ag x.enc, .s (.int .i64 left)] (fun r _ => RsT left x.tot r) := by
  have hz1 := ho.2.1
  unfold maxLen at hz1
  rw [TyI.tot_eq]
  refine FCon.intro PM _ Tryz.func273 (by kernel_rfl) rfl _ Tryz.ntmps273 rfl [] (by decide +kernel) (by simp) (by simp) rfl (by first | rfl | simp only [go_sem]) ?_
  (have hWf := WFx.mk @TyI.enc_eq; repeat' (first | refine zS ?_ | exact zE | with_reducible apply And.intro | with_reducible exact zB0 | with_reducible refine zB fun hb => ?_ | exact zC | refine zT ?_ | fail))
  all_goals first | exact ⟨_, rfl, by omega, by omega, by omega⟩ | exact ⟨_, rfl, by omega, by omega, fun hq => by  omega⟩
theorem d_szTyItemS (xs : List TyI) (ho : ∀ x ∈ xs, x.ok) (left : Int) (h0 : 0 ≤ left) (h1 : left ≤ 1048576) : FCon Tryz.prog 266 [.sl 3 (xs.map TyI.enc), .s (.int .i64 left)] (fun r _ => RsT left (xs.length + cnts TyI.tot xs) r) := by
  refine FCon.intro PM _ Tryz.func266 (by kernel_rfl) rfl _ Tryz.ntmps266 rfl [] (by decide +kernel) (by simp) (by simp) rfl (by first | rfl | simp only [go_sem]) ?_
  refine AC_len 0 rfl trivial fun hlen => ?_
  simp only [List.length_map] at hlen
  by_cases hll : left < xs.length
  · (have hWf := f0; repeat' (first | refine zS ?_ | exact zE | with_reducible apply And.intro | with_reducible exact zB0 | with_reducible refine zB fun hb => ?_ | exact zC | refine zT ?_ | fail))
    all_goals exact ⟨_, rfl, by omega, by omega, by omega⟩
  · (have hWf := f0; repeat' (first | refine zS ?_ | exact zE | with_reducible apply And.intro | with_reducible exact zB0 | with_reducible refine zB fun hb => ?_ | exact zC | refine zT ?_ | fail))
    refine AC_loop (fun n σ => ∃ (k : Nat) (l : Int), k ≤ xs.length ∧ n = xs.length - k ∧ σ.t 0 = .sl 3 (xs.map TyI.enc) ∧ σ.t 1 = .s (.int .i64 l) ∧ σ.t 5 = .s (.int .i64 k) ∧ 0 ≤ l ∧ l + xs.length + cnts TyI.tot (xs.take k) ≤ left) xs.length ⟨0, left - xs.length, by omega, by omega, ?_⟩ ?_
    · simp only [go_sem, simprocAttr, Int.natCast_zero, List.take_zero, cnts]
      all_goals first | omega | exact ⟨by omega, by omega⟩ | exact ⟨by omega, by simp⟩
    · rintro n σ ⟨k, l, hk, rfl, s0, s1, s5, hl0, hl1⟩ K' hK
      by_cases hlt : k < xs.length
      · have hx := getD_map TyI.enc xs k hlt
        have he := TyI.enc_eq xs[k]
        have hts := cnts_take_succ (c := TyI.tot) hlt
        (have hWf := WFx.mk (ai @s0 <| ai @s1 <| ai @s5 <| ai @hx <| @he); repeat' (first | refine zS ?_ | exact zE | with_reducible apply And.intro | ((with_reducible apply q_CallG); refine CallG_mk (d_szTyItem xs[k] (ho _ (List.getElem_mem hlt)) l hl0 (by omega)) ?_; rintro _ _ ⟨z, rfl, za, zb, zc⟩) | ((with_reducible apply q_CallQ); refine CallQ_mk (d_szTyItem xs[k] (ho _ (List.getElem_mem hlt)) l hl0 (by omega)) ?_) | with_reducible exact zB0 | with_reducible refine zB fun hb => ?_ | exact zC | refine zT ?_ | fail))
        · exact ⟨_, rfl, by omega, by omega, by omega⟩
        · refine hK (xs.length - (k + 1)) _ (by omega) ⟨k + 1, z, by omega, rfl, ?_⟩
          simp only [go_sem, simprocAttr, s0, s1, s5, Int.natCast_succ]
          have := zc (by omega)
          exact ⟨by omega, by omega⟩
      · obtain rfl : k = xs.length := by omega
        rw [List.take_length] at hl1
        (have hWf := WFx.mk (ai @s0 <| ai @s1 <| @s5); repeat' (first | refine zS ?_ | exact zE | with_reducible apply And.intro | with_reducible exact zB0 | with_reducible refine zB fun hb => ?_ | exact zC | refine zT ?_ | fail))
        exact ⟨_, rfl, by omega, by omega, fun _ => by omega⟩
def MTy.tot (x : MTy) : Nat := (x.items.length + cnts TyI.tot x.items)
theorem MTy.tot_eq (x : MTy) : x.tot = (x.items.length + cnts TyI.tot x.items) := rfl
theorem MTy.sm_of {x : MTy} (h : x.tot ≤ 1048576) : x.sm := by
  rw [MTy.tot_eq] at h
  exact ⟨by omega, fun y hy => TyI.sm_of (by have := cnts_mem (t := TyI.tot) hy; omega)⟩
theorem MTy.cnt_le (x : MTy) : x.cnt ≤ 6 + 6 * x.tot := by
  rw [MTy.tot_eq, MTy.cnt_eq]
  have hitems := cnts_le2 TyI.cnt_le x.items
  omega
theorem d_szTy (x : MTy) (ho : x.ok) (left : Int) (h0 : 0 ≤ left) (h1 : left ≤ 1048576) : FCon Tryz.prog 248 [.ag x.enc, .s (.int .i64 left)] (fun r _ => RsT left x.tot r) := by
  rw [MTy.tot_eq]
  refine FCon.intro PM _ Tryz.func248 (by kernel_rfl) rfl _ Tryz.ntmps248 rfl [] (by decide +kernel) (by simp) (by simp) rfl (by first | rfl | simp only [go_sem]) ?_
  (have hWf := WFx.mk @MTy.enc_eq; repeat' (first | refine zS ?_ | exact zE | with_reducible apply And.intro | ((with_reducible apply q_CallG); refine CallG_mk (d_szTyItemS x.items (ho) _ (by omega) (by omega)) ?_; rintro _ _ ⟨z0, rfl, z0a, z0b, z0c⟩) | ((with_reducible apply q_CallQ); refine CallQ_mk (d_szTyItemS x.items (ho) _ (by omega) (by omega)) ?_) | with_reducible exact zB0 | with_reducible refine zB fun hb => ?_ | exact zC | refine zT ?_ | fail))
  all_goals first | exact ⟨_, rfl, by omega, by omega, by omega⟩ | exact ⟨_, rfl, by omega, by omega, fun hq => by have := z0c (by omega);  omega⟩
def DPNode.tot (x : DPNode) : Nat := x.s.size + (x.kids.length + cnts (fun _ : Int => 0) x.kids)
theorem DPNode.tot_eq (x : DPNode) : x.tot = x.s.size + (x.kids.length + cnts (fun _ : Int => 0) x.kids) := rfl
theorem DPNode.sm_of {x : DPNode} (h : x.tot ≤ 1048576) : x.sm := by
  rw [DPNode.tot_eq] at h
  exact ⟨(show x.s.size ≤ 1048576 by omega), ⟨by omega, fun _ _ => trivial⟩⟩
theorem DPNode.cnt_le (x : DPNode) : x.cnt ≤ 6 + 6 * x.tot := by
  rw [DPNode.tot_eq, DPNode.cnt_eq]
  have hkids : cnts (fun _ : Int => 1) x.kids = x.kids.length := by rw [cnts_const (n := 1) (fun _ => rfl)]; omega
  omega
theorem d_szPNode (x : DPNode) (ho : x.ok) (left : Int) (h0 : 0 ≤ left) (h1 : left ≤ 1048576) : FCon Tryz.prog 267 [.ag x.enc, .s (.int .i64 left)] (fun r _ => RsT left x.tot r) := by
  have hz2 := ho.2.2.1
  unfold maxLen at hz2
  rw [DPNode.tot_eq]
  refine FCon.intro PM _ Tryz.func267 (by kernel_rfl) rfl _ Tryz.ntmps267 rfl [] (by decide +kernel) (by simp) (by simp) rfl (by first | rfl | simp only [go_sem]) ?_
  (have hWf := WFx.mk @DPNode.enc_eq; repeat' (first | refine zS ?_ | exact zE | with_reducible apply And.intro | ((with_reducible apply q_CallG); refine CallG_mk (d_szIntS x.kids _ (by omega) (by omega)) ?_; rintro _ _ ⟨z0, rfl, z0a, z0b, z0c⟩) | ((with_reducible apply q_CallQ); refine CallQ_mk (d_szIntS x.kids _ (by omega) (by omega)) ?_) | with_reducible exact zB0 | with_reducible refine zB fun hb => ?_ | exact zC | refine zT ?_ | fail))
  all_goals first | exact ⟨_, rfl, by omega, by omega, by omega⟩ | exact ⟨_, rfl, by omega, by omega, fun hq => by have := z0c (by omega);  omega⟩
theorem d_szPNodeS (xs : List DPNode) (ho : ∀ x ∈ xs, x.ok) (left : Int) (h0 : 0 ≤ left) (h1 : left ≤ 1048576) : FCon Tryz.prog 249 [.sl 4 (xs.map DPNode.enc), .s (.int .i64 left)] (fun r _ => RsT left (xs.length + cnts DPNode.tot xs) r) := by
  refine FCon.intro PM _ Tryz.func249 (by kernel_rfl) rfl _ Tryz.ntmps249 rfl [] (by decide +kernel) (by simp) (by simp) rfl (by first | rfl | simp only [go_sem]) ?_
  refine AC_len 0 rfl trivial fun hlen => ?_
  simp only [List.length_map] at hlen
  by_cases hll : left < xs.length
  · (have hWf := f0; repeat' (first | refine zS ?_ | exact zE | with_reducible apply And.intro | with_reducible exact zB0 | with_reducible refine zB fun hb => ?_ | exact zC | refine zT ?_ | fail))
    all_goals exact ⟨_, rfl, by omega, by omega, by omega⟩
  · (have hWf := f0; repeat' (first | refine zS ?_ | exact zE | with_reducible apply And.intro | with_reducible exact zB0 | with_reducible refine zB fun hb => ?_ | exact zC | refine zT ?_ | fail))
    refine AC_loop (fun n σ => ∃ (k : Nat) (l : Int), k ≤ xs.length ∧ n = xs.length - k ∧ σ.t 0 = .sl 4 (xs.map DPNode.enc) ∧ σ.t 1 = .s (.int .i64 l) ∧ σ.t 5 = .s (.int .i64 k) ∧ 0 ≤ l ∧ l + xs.length + cnts DPNode.tot (xs.take k) ≤ left) xs.length ⟨0, left - xs.length, by omega, by omega, ?_⟩ ?_
    · simp only [go_sem, simprocAttr, Int.natCast_zero, List.take_zero, cnts]
      all_goals first | omega | exact ⟨by omega, by omega⟩ | exact ⟨by omega, by simp⟩
    · rintro n σ ⟨k, l, hk, rfl, s0, s1, s5, hl0, hl1⟩ K' hK
      by_cases hlt : k < xs.length
      · have hx := getD_map DPNode.enc xs k hlt
        have he := DPNode.enc_eq xs[k]
        have hts := cnts_take_succ (c := DPNode.tot) hlt
        (have hWf := WFx.mk (ai @s0 <| ai @s1 <| ai @s5 <| ai @hx <| @he); repeat' (first | refine zS ?_ | exact zE | with_reducible apply And.intro | ((with_reducible apply q_CallG); refine CallG_mk (d_szPNode xs[k] (ho _ (List.getElem_mem hlt)) l hl0 (by omega)) ?_; rintro _ _ ⟨z, rfl, za, zb, zc⟩) | ((with_reducible apply q_CallQ); refine CallQ_mk (d_szPNode xs[k] (ho _ (List.getElem_mem hlt)) l hl0 (by omega)) ?_) | with_reducible exact zB0 | with_reducible refine zB fun hb => ?_ | exact zC | refine zT ?_ | fail))
        · exact ⟨_, rfl, by omega, by omega, by omega⟩
        · refine hK (xs.length - (k + 1)) _ (by omega) ⟨k + 1, z, by omega, rfl, ?_⟩
          simp only [go_sem, simprocAttr, s0, s1, s5, Int.natCast_succ]
          have := zc (by omega)
          exact ⟨by omega, by omega⟩
      · obtain rfl : k = xs.length := by omega
        rw [List.take_length] at hl1
        (have hWf := WFx.mk (ai @s0 <| ai @s1 <| @s5); repeat' (first | refine zS ?_ | exact zE | with_reducible apply And.intro | with_reducible exact zB0 | with_reducible refine zB fun hb => ?_ | exact zC | refine zT ?_ | fail))
        exact ⟨_, rfl, by omega, by omega, fun _ => by omega⟩
def MPat.tot (x : MPat) : Nat := (x.nodes.length + cnts DPNode.tot x.nodes)
theorem MPat.tot_eq (x : MPat) : x.tot = (x.nodes.length + cnts DPNode.tot x.nodes) := rfl
theorem MPat.sm_of {x : MPat} (h : x.tot ≤ 1048576) : x.sm := by
  rw [MPat.tot_eq] at h
  exact ⟨by omega, fun y hy => DPNode.sm_of (by have := cnts_mem (t := DPNode.tot) hy; omega)⟩
theorem MPat.cnt_le (x : MPat) : x.cnt ≤ 6 + 6 * x.tot := by
  rw [MPat.tot_eq, MPat.cnt_eq]
  have hnodes := cnts_le2 DPNode.cnt_le x.nodes
  omega
theorem d_szPat (x : MPat) (ho : x.ok) (left : Int) (h0 : 0 ≤ left) (h1 : left ≤ 1048576) : FCon Tryz.prog 210 [.ag x.enc, .s (.int .i64 left)] (fun r _ => RsT left x.tot r) := by
  rw [MPat.tot_eq]
  refine FCon.intro PM _ Tryz.func210 (by kernel_rfl) rfl _ Tryz.ntmps210 rfl [] (by decide +kernel) (by simp) (by simp) rfl (by first | rfl | simp only [go_sem]) ?_
  (have hWf := WFx.mk @MPat.enc_eq; repeat' (first | refine zS ?_ | exact zE | with_reducible apply And.intro | ((with_reducible apply q_CallG); refine CallG_mk (d_szPNodeS x.nodes (ho) _ (by omega) (by omega)) ?_; rintro _ _ ⟨z0, rfl, z0a, z0b, z0c⟩) | ((with_reducible apply q_CallQ); refine CallQ_mk (d_szPNodeS x.nodes (ho) _ (by omega) (by omega)) ?_) | with_reducible exact zB0 | with_reducible refine zB fun hb => ?_ | exact zC | refine zT ?_ | fail))
  all_goals first | exact ⟨_, rfl, by omega, by omega, by omega⟩ | exact ⟨_, rfl, by omega, by omega, fun hq => by have := z0c (by omega);  omega⟩
theorem d_szPatS (xs : List MPat) (ho : ∀ x ∈ xs, x.ok) (left : Int) (h0 : 0 ≤ left) (h1 : left ≤ 1048576) : FCon Tryz.prog 153 [.sl 1 (xs.map MPat.enc), .s (.int .i64 left)] (fun r _ => RsT left (xs.length + cnts MPat.tot xs) r) := by
  refine FCon.intro PM _ Tryz.func153 (by kernel_rfl) rfl _ Tryz.ntmps153 rfl [] (by decide +kernel) (by simp) (by simp) rfl (by first | rfl | simp only [go_sem]) ?_
  refine AC_len 0 rfl trivial fun hlen => ?_
  simp only [List.length_map] at hlen
  by_cases hll : left < xs.length
  · (have hWf := f0; repeat' (first | refine zS ?_ | exact zE | with_reducible apply And.intro | with_reducible exact zB0 | with_reducible refine zB fun hb => ?_ | exact zC | refine zT ?_ | fail))
    all_goals exact ⟨_, rfl, by omega, by omega, by omega⟩
  · (have hWf := f0; repeat' (first | refine zS ?_ | exact zE | with_reducible apply And.intro | with_reducible exact zB0 | with_reducible refine zB fun hb => ?_ | exact zC | refine zT ?_ | fail))
    refine AC_loop (fun n σ => ∃ (k : Nat) (l : Int), k ≤ xs.length ∧ n = xs.length - k ∧ σ.t 0 = .sl 1 (xs.map MPat.enc) ∧ σ.t 1 = .s (.int .i64 l) ∧ σ.t 5 = .s (.int .i64 k) ∧ 0 ≤ l ∧ l + xs.length + cnts MPat.tot (xs.take k) ≤ left) xs.length ⟨0, left - xs.length, by omega, by omega, ?_⟩ ?_
    · simp only [go_sem, simprocAttr, Int.natCast_zero, List.take_zero, cnts]
      all_goals first | omega | exact ⟨by omega, by omega⟩ | exact ⟨by omega, by simp⟩
    · rintro n σ ⟨k, l, hk, rfl, s0, s1, s5, hl0, hl1⟩ K' hK
      by_cases hlt : k < xs.length
      · have hx := getD_map MPat.enc xs k hlt
        have he := MPat.enc_eq xs[k]
        have hts := cnts_take_succ (c := MPat.tot) hlt
        (have hWf := WFx.mk (ai @s0 <| ai @s1 <| ai @s5 <| ai @hx <| @he); repeat' (first | refine zS ?_ | exact zE | with_reducible apply And.intro | ((with_reducible apply q_CallG); refine CallG_mk (d_szPat xs[k] (ho _ (List.getElem_mem hlt)) l hl0 (by omega)) ?_; rintro _ _ ⟨z, rfl, za, zb, zc⟩) | ((with_reducible apply q_CallQ); refine CallQ_mk (d_szPat xs[k] (ho _ (List.getElem_mem hlt)) l hl0 (by omega)) ?_) | with_reducible exact zB0 | with_reducible refine zB fun hb => ?_ | exact zC | refine zT ?_ | fail))
        · exact ⟨_, rfl, by omega, by omega, by omega⟩
        · refine hK (xs.length - (k + 1)) _ (by omega) ⟨k + 1, z, by omega, rfl, ?_⟩
          simp only [go_sem, simprocAttr, s0, s1, s5, Int.natCast_succ]
          have := zc (by omega)
          exact ⟨by omega, by omega⟩
      · obtain rfl : k = xs.length := by omega
        rw [List.take_length] at hl1
        (have hWf := WFx.mk (ai @s0 <| ai @s1 <| @s5); repeat' (first | refine zS ?_ | exact zE | with_reducible apply And.intro | with_reducible exact zB0 | with_reducible refine zB fun hb => ?_ | exact zC | refine zT ?_ | fail))
        exact ⟨_, rfl, by omega, by omega, fun _ => by omega⟩
def MNode.tot (x : MNode) : Nat := x.s.size + (x.kids.length + cnts (fun _ : Int => 0) x.kids) + (x.pats.length + cnts MPat.tot x.pats)
theorem MNode.tot_eq (x : MNode) : x.tot = x.s.size + (x.kids.length + cnts (fun _ : Int => 0) x.kids) + (x.pats.length + cnts MPat.tot x.pats) := rfl
theorem MNode.sm_of {x : MNode} (h : x.tot ≤ 1048576) : x.sm := by
  rw [MNode.tot_eq] at h
  exact ⟨(show x.s.size ≤ 1048576 by omega), ⟨by omega, fun _ _ => trivial⟩, ⟨by omega, fun y hy => MPat.sm_of (by have := cnts_mem (t := MPat.tot) hy; omega)⟩⟩
theorem MNode.cnt_le (x : MNode) : x.cnt ≤ 6 + 6 * x.tot := by
  rw [MNode.tot_eq, MNode.cnt_eq]
  have hkids : cnts (fun _ : Int => 1) x.kids = x.kids.length := by rw [cnts_const (n := 1) (fun _ => rfl)]; omega
  have hpats := cnts_le2 MPat.cnt_le x.pats
  omega
theorem d_szNode (x : MNode) (ho : x.ok) (left : Int) (h0 : 0 ≤ left) (h1 : left ≤ 1048576) : FCon Tryz.prog 71 [.ag x.enc, .s (.int .i64 left)] (fun r _ => RsT left x.tot r) := by
  have hz3 := ho.2.2.2.1
  unfold maxLen at hz3
  rw [MNode.tot_eq]
  refine FCon.intro PM _ Tryz.func71 (by kernel_rfl) rfl _ Tryz.ntmps71 rfl [] (by decide +kernel) (by simp) (by simp) rfl (by first | rfl | simp only [go_sem]) ?_
  (have hWf := WFx.mk @MNode.enc_eq; repeat' (first | refine zS ?_ | exact zE | with_reducible apply And.intro | ((with_reducible apply q_CallG); refine CallG_mk (d_szIntS x.kids _ (by omega) (by omega)) ?_; rintro _ _ ⟨z0, rfl, z0a, z0b, z0c⟩) | ((with_reducible apply q_CallQ); refine CallQ_mk (d_szIntS x.kids _ (by omega) (by omega)) ?_) | ((with_reducible apply q_CallG); refine CallG_mk (d_szPatS x.pats (ho.2.2.2.2.2) _ (by omega) (by omega)) ?_; rintro _ _ ⟨z1, rfl, z1a, z1b, z1c⟩) | ((with_reducible apply q_CallQ); refine CallQ_mk (d_szPatS x.pats (ho.2.2.2.2.2) _ (by omega) (by omega)) ?_) | with_reducible exact zB0 | with_reducible refine zB fun hb => ?_ | exact zC | refine zT ?_ | fail))
  all_goals first | exact ⟨_, rfl, by omega, by omega, by omega⟩ | exact ⟨_, rfl, by omega, by omega, fun hq => by have := z0c (by omega); have := z1c (by omega);  omega⟩
theorem d_szNodeS (xs : List MNode) (ho : ∀ x ∈ xs, x.ok) (left : Int) (h0 : 0 ≤ left) (h1 : left ≤ 1048576) : FCon Tryz.prog 23 [.sl 6 (xs.map MNode.enc), .s (.int .i64 left)] (fun r _ => RsT left (xs.length + cnts MNode.tot xs) r) := by
  refine FCon.intro PM _ Tryz.func23 (by kernel_rfl) rfl _ Tryz.ntmps23 rfl [] (by decide +kernel) (by simp) (by simp) rfl (by first | rfl | simp only [go_sem]) ?_
  refine AC_len 0 rfl trivial fun hlen => ?_
  simp only [List.length_map] at hlen
  by_cases hll : left < xs.length
  · (have hWf := f0; repeat' (first | refine zS ?_ | exact zE | with_reducible apply And.intro | with_reducible exact zB0 | with_reducible refine zB fun hb => ?_ | exact zC | refine zT ?_ | fail))
    all_goals exact ⟨_, rfl, by omega, by omega, by omega⟩
  · (have hWf := f0; repeat' (first | refine zS ?_ | exact zE | with_reducible apply And.intro | with_reducible exact zB0 | with_reducible refine zB fun hb => ?_ | exact zC | refine zT ?_ | fail))
    refine AC_loop (fun n σ => ∃ (k : Nat) (l : Int), k ≤ xs.length ∧ n = xs.length - k ∧ σ.t 0 = .sl 6 (xs.map MNode.enc) ∧ σ.t 1 = .s (.int .i64 l) ∧ σ.t 5 = .s (.int .i64 k) ∧ 0 ≤ l ∧ l + xs.length + cnts MNode.tot (xs.take k) ≤ left) xs.length ⟨0, left - xs.length, by omega, by omega, ?_⟩ ?_
    · simp only [go_sem, simprocAttr, Int.natCast_zero, List.take_zero, cnts]
      all_goals first | omega | exact ⟨by omega, by omega⟩ | exact ⟨by omega, by simp⟩
    · rintro n σ ⟨k, l, hk, rfl, s0, s1, s5, hl0, hl1⟩ K' hK
      by_cases hlt : k < xs.length
      · have hx := getD_map MNode.enc xs k hlt
        have he := MNode.enc_eq xs[k]
        have hts := cnts_take_succ (c := MNode.tot) hlt
        (have hWf := WFx.mk (ai @s0 <| ai @s1 <| ai @s5 <| ai @hx <| @he); repeat' (first | refine zS ?_ | exact zE | with_reducible apply And.intro | ((with_reducible apply q_CallG); refine CallG_mk (d_szNode xs[k] (ho _ (List.getElem_mem hlt)) l hl0 (by omega)) ?_; rintro _ _ ⟨z, rfl, za, zb, zc⟩) | ((with_reducible apply q_CallQ); refine CallQ_mk (d_szNode xs[k] (ho _ (List.getElem_mem hlt)) l hl0 (by omega)) ?_) | with_reducible exact zB0 | with_reducible refine zB fun hb => ?_ | exact zC | refine zT ?_ | fail))
        · exact ⟨_, rfl, by omega, by omega, by omega⟩
        · refine hK (xs.length - (k + 1)) _ (by omega) ⟨k + 1, z, by omega, rfl, ?_⟩
          simp only [go_sem, simprocAttr, s0, s1, s5, Int.natCast_succ]
          have := zc (by omega)
          exact ⟨by omega, by omega⟩
      · obtain rfl : k = xs.length := by omega
        rw [List.take_length] at hl1
        (have hWf := WFx.mk (ai @s0 <| ai @s1 <| @s5); repeat' (first | refine zS ?_ | exact zE | with_reducible apply And.intro | with_reducible exact zB0 | with_reducible refine zB fun hb => ?_ | exact zC | refine zT ?_ | fail))
        exact ⟨_, rfl, by omega, by omega, fun _ => by omega⟩
def MCon.tot (x : MCon) : Nat := x.name.size + (x.arg.length + cnts TyI.tot x.arg)
theorem MCon.tot_eq (x : MCon) : x.tot = x.name.size + (x.arg.length + cnts TyI.tot x.arg) := rfl
theorem MCon.sm_of {x : MCon} (h : x.tot ≤ 1048576) : x.sm := by
  rw [MCon.tot_eq] at h
  exact ⟨(show x.name.size ≤ 1048576 by omega), ⟨by omega, fun y hy => TyI.sm_of (by have := cnts_mem (t := TyI.tot) hy; omega)⟩⟩
theorem MCon.cnt_le (x : MCon) : x.cnt ≤ 6 + 6 * x.tot := by
  rw [MCon.tot_eq, MCon.cnt_eq]
  have harg := cnts_le2 TyI.cnt_le x.arg
  omega
theorem d_szCon (x : MCon) (ho : x.ok) (left : Int) (h0 : 0 ≤ left) (h1 : left ≤ 1048576) : FCon Tryz.prog 209 [.ag x.enc, .s (.int .i64 left)] (fun r _ => RsT left x.tot r) := by
  have hz0 := ho.1
  unfold maxLen at hz0
  have ht_arg : (MTy.tot ⟨x.arg⟩) = x.arg.length + cnts TyI.tot x.arg := rfl
  rw [MCon.tot_eq]
  refine FCon.intro PM _ Tryz.func209 (by kernel_rfl) rfl _ Tryz.ntmps209 rfl [] (by decide +kernel) (by simp) (by simp) rfl (by first | rfl | simp only [go_sem]) ?_
  (have hWf := WFx.mk (ai @MCon.enc_eq <| @MTy.enc_eq); repeat' (first | refine zS ?_ | exact zE | with_reducible apply And.intro | ((with_reducible apply q_CallG); refine CallG_mk (d_szTy ⟨x.arg⟩ (ho.2.2) _ (by omega) (by omega)) ?_; rintro _ _ ⟨z0, rfl, z0a, z0b, z0c⟩) | ((with_reducible apply q_CallQ); refine CallQ_mk (d_szTy ⟨x.arg⟩ (ho.2.2) _ (by omega) (by omega)) ?_) | with_reducible exact zB0 | with_reducible refine zB fun hb => ?_ | exact zC | refine zT ?_ | fail))
  all_goals first | exact ⟨_, rfl, by omega, by omega, by omega⟩ | exact ⟨_, rfl, by omega, by omega, fun hq => by have := z0c (by omega);  omega⟩
theorem d_szConS (xs : List MCon) (ho : ∀ x ∈ xs, x.ok) (left : Int) (h0 : 0 ≤ left) (h1 : left ≤ 1048576) : FCon Tryz.prog 151 [.sl 3 (xs.map MCon.enc), .s (.int .i64 left)] (fun r _ => RsT left (xs.length + cnts MCon.tot xs) r) := by
  refine FCon.intro PM _ Tryz.func151 (by kernel_rfl) rfl _ Tryz.ntmps151 rfl [] (by decide +kernel) (by simp) (by simp) rfl (by first | rfl | simp only [go_sem]) ?_
  refine AC_len 0 rfl trivial fun hlen => ?_
  simp only [List.length_map] at hlen
  by_cases hll : left < xs.length
  · (have hWf := f0; repeat' (first | refine zS ?_ | exact zE | with_reducible apply And.intro | with_reducible exact zB0 | with_reducible refine zB fun hb => ?_ | exact zC | refine zT ?_ | fail))
    all_goals exact ⟨_, rfl, by omega, by omega, by omega⟩
  · (have hWf := f0; repeat' (first | refine zS ?_ | exact zE | with_reducible apply And.intro | with_reducible exact zB0 | with_reducible refine zB fun hb => ?_ | exact zC | refine zT ?_ | fail))
    refine AC_loop (fun n σ => ∃ (k : Nat) (l : Int), k ≤ xs.length ∧ n = xs.length - k ∧ σ.t 0 = .sl 3 (xs.map MCon.enc) ∧ σ.t 1 = .s (.int .i64 l) ∧ σ.t 5 = .s (.int .i64 k) ∧ 0 ≤ l ∧ l + xs.length + cnts MCon.tot (xs.take k) ≤ left) xs.length ⟨0, left - xs.length, by omega, by omega, ?_⟩ ?_
    · simp only [go_sem, simprocAttr, Int.natCast_zero, List.take_zero, cnts]
      all_goals first | omega | exact ⟨by omega, by omega⟩ | exact ⟨by omega, by simp⟩
    · rintro n σ ⟨k, l, hk, rfl, s0, s1, s5, hl0, hl1⟩ K' hK
      by_cases hlt : k < xs.length
      · have hx := getD_map MCon.enc xs k hlt
        have he := MCon.enc_eq xs[k]
        have hts := cnts_take_succ (c := MCon.tot) hlt
        (have hWf := WFx.mk (ai @s0 <| ai @s1 <| ai @s5 <| ai @hx <| @he); repeat' (first | refine zS ?_ | exact zE | with_reducible apply And.intro | ((with_reducible apply q_CallG); refine CallG_mk (d_szCon xs[k] (ho _ (List.getElem_mem hlt)) l hl0 (by omega)) ?_; rintro _ _ ⟨z, rfl, za, zb, zc⟩) | ((with_reducible apply q_CallQ); refine CallQ_mk (d_szCon xs[k] (ho _ (List.getElem_mem hlt)) l hl0 (by omega)) ?_) | with_reducible exact zB0 | with_reducible refine zB fun hb => ?_ | exact zC | refine zT ?_ | fail))
        · exact ⟨_, rfl, by omega, by omega, by omega⟩
        · refine hK (xs.length - (k + 1)) _ (by omega) ⟨k + 1, z, by omega, rfl, ?_⟩
          simp only [go_sem, simprocAttr, s0, s1, s5, Int.natCast_succ]
          have := zc (by omega)
          exact ⟨by omega, by omega⟩
      · obtain rfl : k = xs.length := by omega
        rw [List.take_length] at hl1
        (have hWf := WFx.mk (ai @s0 <| ai @s1 <| @s5); repeat' (first | refine zS ?_ | exact zE | with_reducible apply And.intro | with_reducible exact zB0 | with_reducible refine zB fun hb => ?_ | exact zC | refine zT ?_ | fail))
        exact ⟨_, rfl, by omega, by omega, fun _ => by omega⟩
def MType.tot (x : MType) : Nat := x.name.size + (x.cons.length + cnts MCon.tot x.cons)
theorem MType.tot_eq (x : MType) : x.tot = x.name.size + (x.cons.length + cnts MCon.tot x.cons) := rfl
theorem MType.sm_of {x : MType} (h : x.tot ≤ 1048576) : x.sm := by
  rw [MType.tot_eq] at h
  exact ⟨(show x.name.size ≤ 1048576 by omega), ⟨by omega, fun y hy => MCon.sm_of (by have := cnts_mem (t := MCon.tot) hy; omega)⟩⟩
theorem MType.cnt_le (x : MType) : x.cnt ≤ 6 + 6 * x.tot := by
  rw [MType.tot_eq, MType.cnt_eq]
  have hcons := cnts_le2 MCon.cnt_le x.cons
  omega
theorem d_szType (x : MType) (ho : x.ok) (left : Int) (h0 : 0 ≤ left) (h1 : left ≤ 1048576) : FCon Tryz.prog 70 [.ag x.enc, .s (.int .i64 left)] (fun r _ => RsT left x.tot r) := by
  have hz0 := ho.1
  unfold maxLen at hz0
  rw [MType.tot_eq]
  refine FCon.intro PM _ Tryz.func70 (by kernel_rfl) rfl _ Tryz.ntmps70 rfl [] (by decide +kernel) (by simp) (by simp) rfl (by first | rfl | simp only [go_sem]) ?_
  (have hWf := WFx.mk @MType.enc_eq; repeat' (first | refine zS ?_ | exact zE | with_reducible apply And.intro | ((with_reducible apply q_CallG); refine CallG_mk (d_szConS x.cons (ho.2.2) _ (by omega) (by omega)) ?_; rintro _ _ ⟨z0, rfl, z0a, z0b, z0c⟩) | ((with_reducible apply q_CallQ); refine CallQ_mk (d_szConS x.cons (ho.2.2) _ (by omega) (by omega)) ?_) | with_reducible exact zB0 | with_reducible refine zB fun hb => ?_ | exact zC | refine zT ?_ | fail))
  all_goals first | exact ⟨_, rfl, by omega, by omega, by omega⟩ | exact ⟨_, rfl, by omega, by omega, fun hq => by have := z0c (by omega);  omega⟩
theorem d_szTypeS (xs : List MType) (ho : ∀ x ∈ xs, x.ok) (left : Int) (h0 : 0 ≤ left) (h1 : left ≤ 1048576) : FCon Tryz.prog 22 [.sl 3 (xs.map MType.enc), .s (.int .i64 left)] (fun r _ => RsT left (xs.length + cnts MType.tot xs) r) := by
  refine FCon.intro PM _ Tryz.func22 (by kernel_rfl) rfl _ Tryz.ntmps22 rfl [] (by decide +kernel) (by simp) (by simp) rfl (by first | rfl | simp only [go_sem]) ?_
  refine AC_len 0 rfl trivial fun hlen => ?_
  simp only [List.length_map] at hlen
  by_cases hll : left < xs.length
  · (have hWf := f0; repeat' (first | refine zS ?_ | exact zE | with_reducible apply And.intro | with_reducible exact zB0 | with_reducible refine zB fun hb => ?_ | exact zC | refine zT ?_ | fail))
    all_goals exact ⟨_, rfl, by omega, by omega, by omega⟩
  · (have hWf := f0; repeat' (first | refine zS ?_ | exact zE | with_reducible apply And.intro | with_reducible exact zB0 | with_reducible refine zB fun hb => ?_ | exact zC | refine zT ?_ | fail))
    refine AC_loop (fun n σ => ∃ (k : Nat) (l : Int), k ≤ xs.length ∧ n = xs.length - k ∧ σ.t 0 = .sl 3 (xs.map MType.enc) ∧ σ.t 1 = .s (.int .i64 l) ∧ σ.t 5 = .s (.int .i64 k) ∧ 0 ≤ l ∧ l + xs.length + cnts MType.tot (xs.take k) ≤ left) xs.length ⟨0, left - xs.length, by omega, by omega, ?_⟩ ?_
    · simp only [go_sem, simprocAttr, Int.natCast_zero, List.take_zero, cnts]
      all_goals first | omega | exact ⟨by omega, by omega⟩ | exact ⟨by omega, by simp⟩
    · rintro n σ ⟨k, l, hk, rfl, s0, s1, s5, hl0, hl1⟩ K' hK
      by_cases hlt : k < xs.length
      · have hx := getD_map MType.enc xs k hlt
        have he := MType.enc_eq xs[k]
        have hts := cnts_take_succ (c := MType.tot) hlt
        (have hWf := WFx.mk (ai @s0 <| ai @s1 <| ai @s5 <| ai @hx <| @he); repeat' (first | refine zS ?_ | exact zE | with_reducible apply And.intro | ((with_reducible apply q_CallG); refine CallG_mk (d_szType xs[k] (ho _ (List.getElem_mem hlt)) l hl0 (by omega)) ?_; rintro _ _ ⟨z, rfl, za, zb, zc⟩) | ((with_reducible apply q_CallQ); refine CallQ_mk (d_szType xs[k] (ho _ (List.getElem_mem hlt)) l hl0 (by omega)) ?_) | with_reducible exact zB0 | with_reducible refine zB fun hb => ?_ | exact zC | refine zT ?_ | fail))
        · exact ⟨_, rfl, by omega, by omega, by omega⟩
        · refine hK (xs.length - (k + 1)) _ (by omega) ⟨k + 1, z, by omega, rfl, ?_⟩
          simp only [go_sem, simprocAttr, s0, s1, s5, Int.natCast_succ]
          have := zc (by omega)
          exact ⟨by omega, by omega⟩
      · obtain rfl : k = xs.length := by omega
        rw [List.take_length] at hl1
        (have hWf := WFx.mk (ai @s0 <| ai @s1 <| @s5); repeat' (first | refine zS ?_ | exact zE | with_reducible apply And.intro | with_reducible exact zB0 | with_reducible refine zB fun hb => ?_ | exact zC | refine zT ?_ | fail))
        exact ⟨_, rfl, by omega, by omega, fun _ => by omega⟩
def MProgram.tot (x : MProgram) : Nat := (x.types.length + cnts MType.tot x.types) + (x.nodes.length + cnts MNode.tot x.nodes)
theorem MProgram.tot_eq (x : MProgram) : x.tot = (x.types.length + cnts MType.tot x.types) + (x.nodes.length + cnts MNode.tot x.nodes) := rfl
theorem MProgram.sm_of {x : MProgram} (h : x.tot ≤ 1048576) : x.sm := by
  rw [MProgram.tot_eq] at h
  exact ⟨⟨by omega, fun y hy => MType.sm_of (by have := cnts_mem (t := MType.tot) hy; omega)⟩, ⟨by omega, fun y hy => MNode.sm_of (by have := cnts_mem (t := MNode.tot) hy; omega)⟩⟩
theorem MProgram.cnt_le (x : MProgram) : x.cnt ≤ 6 + 6 * x.tot := by
  rw [MProgram.tot_eq, MProgram.cnt_eq]
  have htypes := cnts_le2 MType.cnt_le x.types
  have hnodes := cnts_le2 MNode.cnt_le x.nodes
  omega
theorem d_szProgram (x : MProgram) (ho : x.ok) (left : Int) (h0 : 0 ≤ left) (h1 : left ≤ 1048576) : FCon Tryz.prog 6 [.ag x.enc, .s (.int .i64 left)] (fun r _ => RsT left x.tot r) := by
  rw [MProgram.tot_eq]
  refine FCon.intro PM _ Tryz.func6 (by kernel_rfl) rfl _ Tryz.ntmps6 rfl [] (by decide +kernel) (by simp) (by simp) rfl (by first | rfl | simp only [go_sem]) ?_
  (have hWf := WFx.mk @MProgram.enc_eq; repeat' (first | refine zS ?_ | exact zE | with_reducible apply And.intro | ((with_reducible apply q_CallG); refine CallG_mk (d_szTypeS x.types (ho.1) _ (by omega) (by omega)) ?_; rintro _ _ ⟨z0, rfl, z0a, z0b, z0c⟩) | ((with_reducible apply q_CallQ); refine CallQ_mk (d_szTypeS x.types (ho.1) _ (by omega) (by omega)) ?_) | ((with_reducible apply q_CallG); refine CallG_mk (d_szNodeS x.nodes (ho.2) _ (by omega) (by omega)) ?_; rintro _ _ ⟨z1, rfl, z1a, z1b, z1c⟩) | ((with_reducible apply q_CallQ); refine CallQ_mk (d_szNodeS x.nodes (ho.2) _ (by omega) (by omega)) ?_) | with_reducible exact zB0 | with_reducible refine zB fun hb => ?_ | exact zC | refine zT ?_ | fail))
  all_goals first | exact ⟨_, rfl, by omega, by omega, by omega⟩ | exact ⟨_, rfl, by omega, by omega, fun hq => by have := z0c (by omega); have := z1c (by omega);  omega⟩
end Go.Proofs.YtgcdbmcoendcdaaGreat

namespace Go.Proofs.YtgcdbmcoendcdaaGreat
set_option linter.unusedVariables false
set_option linter.unusedSimpArgs false
open Go.RowKit
theorem node_kids (w : World) (h : Hp) (hs : Sub h w) (v : Value) (ks : List (List Int)) (hv : KidsAt 6 4 h v ks) (hl : ks.length ≤ 1000000000) (Bd Od : Nat) (hB : w.cell? ⟨Bd, Od + 1, none⟩ = some v) (i : Nat) (hi : i < ks.length) :
    Calls Tryz.prog 96 #[.int .i64 i, .pointer (some ⟨Bd, Od, none⟩)] w fun e w' => KidQ h w ks[i] e w' := by
  have HV := Lib.hid hv
  obtain ⟨a, c, rfl, hc1, hc2, -⟩ := hv
  unfold maxLen at hc2
  obtain ⟨b, off, rfl, hcell⟩ := HV.out.cell hi
  obtain ⟨v1, hrel, hcs⟩ := hcell i hi
  have c3 := hcs w hs
  have HR := Lib.hid hrel
  clear hcell hcs hrel
  go_enter Tryz.func96, Tryz.ntmps96
  go_wp2_with fail
  go_ret
  exact ⟨_, rfl, HR.out, (by repeat (first | with_reducible exact Below.refl _ _ | with_reducible assumption | with_reducible refine Below.setCell ?_ ?_ _ | with_reducible refine Below.alloc ?_ ?_ _ | with_reducible refine Below.drew ?_ | (with_reducible apply below_chain; with_reducible assumption) | exact Nat.le_refl _ | omega | (simp <;> omega)))⟩
theorem c_inOrderN (p : MProgram) (ho : ∀ x ∈ p.nodes, x.ok) (hl : p.nodes.length ≤ 1000000000) (hks : ∀ x ∈ p.nodes, x.kids.length ≤ 1000000000) :
    FCon Tryz.prog 95 [.s (.int .i64 p.nodes.length), .fn 96 [.pt p.enc]] (fun r _ => r = .s (.bool (orderM (p.nodes.map MNode.kids)))) := by
  have hlen : (p.nodes.map MNode.kids).length = p.nodes.length := List.length_map _
  have := c_inOrder 96 (ent_of Tryz.func96 rfl rfl) (p.nodes.map MNode.kids) p.enc (by rw [hlen]; exact hl) (fun k h => by obtain ⟨x, hx, rfl⟩ := List.mem_map.1 h; exact hks x hx) fun w S up v hv w1 hb m hm => by
    cases hv with
    | @pt _ _ b off ws hc hr =>
      have c1 := (hc 1 _ rfl).2
      have hk := kidsAt_of (enc := MNode.enc) (kids := MNode.kids) (k := 6) (c := 4) (by decide) (fun _ _ => rfl) (fun _ _ => rfl) (hr 1 _ rfl) (fun x hx => (ho x hx).2.2.2.2.1)
      exact node_kids w1 (hp w) ((Sub.self w).below hb) _ _ hk (by rw [hlen]; exact hl) b off (cell_kept hb c1) m hm
  rw [hlen] at this
  exact this
end Go.Proofs.YtgcdbmcoendcdaaGreat
