import Derived.Test.YtgcdbmcoendcdaaGreatHaB
import Derived.Test.YtgcdbmcoendcdaaGreatOrB
import Derived.Test.YtgcdbmcoendcdaaGreatBase
import Derived.Test.YtgcdbmcoendcdaaGreatNmB
/- Data PNode over the second engine: how they lie, own and lent; copies, sizes, comparisons, marks. Printed by gen2.py. -/
set_option maxRecDepth 100000
set_option maxHeartbeats 8000000
namespace Go.Proofs.YtgcdbmcoendcdaaGreat
set_option linter.unusedVariables false
set_option linter.unusedSimpArgs false
attribute [local go_sem] List.length_set List.set_set
open Go.RowKit Go.ChangeShapes Go.WideShapes
structure DPNode where
  kind : Int
  n : Int
  s : ByteArray
  kids : List Int
def DPNode.enc (x : DPNode) : List D := [.s (.int .i64 x.kind), .s (.int .i64 x.n), .s (.string x.s), .sl 1 (x.kids.map iE)]
theorem DPNode.enc_eq (x : DPNode) : x.enc = [.s (.int .i64 x.kind), .s (.int .i64 x.n), .s (.string x.s), .sl 1 (x.kids.map iE)] := rfl
def DPNode.own (x : DPNode) : List D := [.s (.int .i64 x.kind), .s (.int .i64 x.n), .s (.string x.s), .osl 3 1 (x.kids.map iE)]
theorem DPNode.own_eq (x : DPNode) : x.own = [.s (.int .i64 x.kind), .s (.int .i64 x.n), .s (.string x.s), .osl 3 1 (x.kids.map iE)] := rfl
theorem DPNode.frz_eq (x : DPNode) : frzL x.own = x.enc := by
  simp only [DPNode.own_eq, DPNode.enc_eq, frzL, frz, frz_rows iE_frz]
def DPNode.ok (x : DPNode) : Prop := I64 x.kind ∧ I64 x.n ∧ x.s.size ≤ maxLen ∧ (∀ y ∈ x.kids, I64 y)
def DPNode.sm (x : DPNode) : Prop := x.s.size ≤ 1048576 ∧ smS (fun _ : Int => True) x.kids
def DPNode.cnt (x : DPNode) : Nat := 1 + 1 + 1 + cnts (fun _ : Int => 1) x.kids
def DPNode.mark (k : Int) (x : DPNode) : DPNode := ⟨k, (k + 1), mkB ((k + 1) + 1), marks (fun _ : Int => 1) (fun k _ => k) (((k + 1) + 1) + 1) x.kids⟩
theorem DPNode.cnt_eq (x : DPNode) : x.cnt = 1 + 1 + 1 + cnts (fun _ : Int => 1) x.kids := rfl
theorem DPNode.mark_eq (k : Int) (x : DPNode) : DPNode.mark k x = ⟨k, (k + 1), mkB ((k + 1) + 1), marks (fun _ : Int => 1) (fun k _ => k) (((k + 1) + 1) + 1) x.kids⟩ := rfl
theorem DPNode.pure (x : DPNode) : ∀ d ∈ x.own, Pure d := by
  simp only [DPNode.own_eq, List.forall_mem_cons, List.not_mem_nil, false_imp_iff, implies_true, and_true]
  exact ⟨.s _, .s _, .s _, pure_rows iE_pure _ _ _⟩
theorem DPNode.pureS (e k : Nat) (xs : List DPNode) : Pure (.osl e k (xs.map DPNode.own)) = True := eq_true (pure_rows DPNode.pure e k xs)
attribute [go_sem] DPNode.pureS
theorem DPNode.frzS (xs : List DPNode) : frzLL (xs.map DPNode.own) = xs.map DPNode.enc := frz_rows DPNode.frz_eq xs
attribute [go_sem] DPNode.frzS
theorem c_toPNode (x : DPNode) (hs : x.sm) : FCon Tryz.prog 269 [.ag x.enc] (fun r _ => r = .ag x.own) := by
  refine FCon.intro PM _ Tryz.func269 (by kernel_rfl) rfl _ Tryz.ntmps269 rfl [] (by decide +kernel) (by simp) (by simp) rfl (by first | rfl | simp only [go_sem]) ?_
  (have hWf := WFx.mk (ai @DPNode.enc_eq <| @DPNode.own_eq); repeat' (first | refine zS ?_ | exact zE | with_reducible apply And.intro | refine zK (c_toIntS x.kids (hs.2)) ?_ | with_reducible exact zB0 | with_reducible refine zB fun hb => ?_ | exact zC | refine zT ?_ | fail))
theorem c_toPNodeS (xs : List DPNode) (hs : smS DPNode.sm xs) : FCon Tryz.prog 252 [.sl 4 (xs.map DPNode.enc)] (fun r _ => r = .osl 126 4 (xs.map DPNode.own)) := by
  have hl := hs.1
  refine FCon.intro PM _ Tryz.func252 (by kernel_rfl) rfl _ Tryz.ntmps252 rfl [] (by decide +kernel) (by simp) (by simp) rfl (by first | rfl | simp only [go_sem]) ?_
  (have hWf := f0; repeat' (first | refine zS ?_ | exact zE | with_reducible apply And.intro | with_reducible exact zB0 | with_reducible refine zB fun hb => ?_ | exact zC | refine zT ?_ | fail))
  refine AC_loop (fun n σ => ∃ k : Nat, k ≤ xs.length ∧ n = xs.length - k ∧ σ.t 0 = .sl 4 (xs.map DPNode.enc) ∧ σ.t 3 = .bs 7 4 xs.length ∧ σ.t 4 = .s (.int .i64 k) ∧ σ.b 7 = some (.arr 126 4 (partR DPNode.own [.s (.int .i64 0), .s (.int .i64 0), .s (.string ⟨#[]⟩), .nil] xs k))) xs.length ⟨0, by omega, by omega, ?_⟩ ?_
  · simp only [go_sem, simprocAttr, partR_zero, Int.natCast_zero]
  · rintro n σ ⟨k, hk, rfl, h0, h3, h4, h7⟩ K' hK
    by_cases hlt : k < xs.length
    · have hx := getD_map DPNode.enc xs k hlt
      have he := DPNode.enc_eq xs[k]
      have hpl := partR_len (f := DPNode.own) (z := [.s (.int .i64 0), .s (.int .i64 0), .s (.string ⟨#[]⟩), .nil]) (Nat.le_of_lt hlt)
      have hg := partR_get (f := DPNode.own) (z := [.s (.int .i64 0), .s (.int .i64 0), .s (.string ⟨#[]⟩), .nil]) hlt
      have hst := partR_set (f := DPNode.own) (z := [.s (.int .i64 0), .s (.int .i64 0), .s (.string ⟨#[]⟩), .nil]) hlt
      rw [DPNode.own_eq] at hst
      (have hWf := WFx.mk (ai @h0 <| ai @h3 <| ai @h4 <| ai @h7 <| ai @hx <| ai @he <| ai @DPNode.own_eq <| ai @hpl <| ai @hg <| @hst); repeat' (first | refine zS ?_ | exact zE | with_reducible apply And.intro | ((with_reducible apply q_CallG); refine zG (c_toPNode xs[k] (hs.2 _ (List.getElem_mem hlt))) ?_) | ((with_reducible apply q_CallQ); refine CallQ_mk (c_toPNode xs[k] (hs.2 _ (List.getElem_mem hlt))) ?_) | with_reducible exact zB0 | with_reducible refine zB fun hb => ?_ | exact zC | refine zT ?_ | fail))
      refine hK (xs.length - (k + 1)) _ (by omega) ⟨k + 1, by omega, rfl, ?_⟩
      simp only [go_sem, simprocAttr, h0, h3, h4, h7, Int.natCast_succ]
    · obtain rfl : k = xs.length := by omega
      rw [partR_all] at h7
      (have hWf := WFx.mk (ai @h0 <| ai @h3 <| ai @h4 <| @h7); repeat' (first | refine zS ?_ | exact zE | with_reducible apply And.intro | with_reducible exact zB0 | with_reducible refine zB fun hb => ?_ | exact zC | refine zT ?_ | fail))
theorem c_eqPNode (x : DPNode) : FCon Tryz.prog 271 [.ag x.enc, .ag x.enc] (fun r _ => r = .s (.bool true)) := by
  refine FCon.intro PM _ Tryz.func271 (by kernel_rfl) rfl _ Tryz.ntmps271 rfl [] (by decide +kernel) (by simp) (by simp) rfl (by first | rfl | simp only [go_sem]) ?_
  (have hWf := WFx.mk @DPNode.enc_eq; repeat' (first | refine zS ?_ | exact zE | with_reducible apply And.intro | refine zK (c_eqIntS x.kids) ?_ | with_reducible exact zB0 | with_reducible refine zB fun hb => ?_ | exact zC | refine zT ?_ | fail))
theorem c_eqPNodeS (xs : List DPNode) : FCon Tryz.prog 255 [.sl 4 (xs.map DPNode.enc), .sl 4 (xs.map DPNode.enc)] (fun r _ => r = .s (.bool true)) := by
  refine FCon.intro PM _ Tryz.func255 (by kernel_rfl) rfl _ Tryz.ntmps255 rfl [(6, 8, [], [], (lin [] [0, 1, 2, 3, 4, 5, 6, 7]))] (by decide +kernel) (by simp) (by simp) rfl (by first | rfl | simp only [go_sem]) ?_
  refine AC_len 0 rfl trivial fun hlen => ?_
  simp only [List.length_map] at hlen
  (have hWf := f0; repeat' (first | refine zS ?_ | exact zE | with_reducible apply And.intro | with_reducible exact zB0 | with_reducible refine zB fun hb => ?_ | exact zC | refine zT ?_ | fail))
  refine AC_loop (fun n σ => ∃ k : Nat, k ≤ xs.length ∧ n = xs.length - k ∧ σ.t 0 = .sl 4 (xs.map DPNode.enc) ∧ σ.t 1 = .sl 4 (xs.map DPNode.enc) ∧ σ.t 5 = .s (.int .i64 k)) xs.length ⟨0, by omega, by omega, ?_⟩ ?_
  · simp only [go_sem, simprocAttr, Int.natCast_zero]
  · rintro n σ ⟨k, hk, rfl, h0, h1, h5⟩ K' hK
    by_cases hlt : k < xs.length
    · have hx := getD_map DPNode.enc xs k hlt
      have he := DPNode.enc_eq xs[k]
      (have hWf := WFx.mk (ai @h0 <| ai @h1 <| ai @h5 <| ai @hx <| @he); repeat' (first | refine zS ?_ | exact zE | with_reducible apply And.intro | refine zK (c_eqPNode xs[k]) ?_ | with_reducible exact zB0 | with_reducible refine zB fun hb => ?_ | exact zC | refine zT ?_ | fail))
      all_goals
        refine hK (xs.length - (k + 1)) _ (by omega) ⟨k + 1, by omega, rfl, ?_⟩
        simp only [go_sem, simprocAttr, h0, h1, h5, Int.natCast_succ]
    · (have hWf := WFx.mk (ai @h0 <| ai @h1 <| @h5); repeat' (first | refine zS ?_ | exact zE | with_reducible apply And.intro | with_reducible exact zB0 | with_reducible refine zB fun hb => ?_ | exact zC | refine zT ?_ | fail))
theorem c_markPNodeS (xs : List DPNode) (hs : smS DPNode.sm xs) (k : Int) (h0 : 0 ≤ k) (hk : k + cnts DPNode.cnt xs ≤ 4611686018427387904) : FCon Tryz.prog 170 [.osl 126 4 (xs.map DPNode.own), .s (.int .i64 k)] (fun r o => r = .s (.int .i64 (k + cnts DPNode.cnt xs)) ∧ o = [.osl 126 4 ((marks DPNode.cnt DPNode.mark k xs).map DPNode.own), .un]) := by
  refine FCon.intro PM _ Tryz.func170 (by kernel_rfl) rfl _ Tryz.ntmps170 rfl [] (by decide +kernel) (by simp) (by simp) rfl (by first | rfl | simp only [go_sem]) ?_
  (have hWf := f0; repeat' (first | refine zS ?_ | exact zE | with_reducible apply And.intro | with_reducible exact zB0 | with_reducible refine zB fun hb => ?_ | exact zC | refine zT ?_ | fail))
  refine AC_loopW (fun n σ => ∃ i : Nat, i ≤ xs.length ∧ n = xs.length - i ∧ σ.t 0 = .bs 900000 4 xs.length ∧ σ.t 1 = .s (.int .i64 (k + cnts DPNode.cnt (xs.take i))) ∧ σ.t 5 = .s (.int .i64 i) ∧ σ.b 900000 = some (.arr 126 4 ((stM DPNode.cnt DPNode.mark k xs i).map DPNode.own))) xs.length ⟨0, by omega, by omega, ?_⟩ ?_
  · simp only [go_sem, simprocAttr, Int.natCast_zero, stM_zero, List.take_zero, cnts, Int.add_zero]
  · rintro n σ ⟨i, hi, rfl, h0, h1, h5, h9⟩ K' hK
    by_cases hlt : i < xs.length
    · have hc := cnts_step (c := DPNode.cnt) hlt
      have hc' := cnts_le (c := DPNode.cnt) xs (i + 1)
      have hx := stM_get (c := DPNode.cnt) (m := DPNode.mark) k hlt DPNode.own
      have hpl := stM_len (c := DPNode.cnt) (m := DPNode.mark) k (Nat.le_of_lt hlt)
      have hst := stM_set (c := DPNode.cnt) (m := DPNode.mark) k hlt DPNode.own
      have hgs : ∀ r, (((stM DPNode.cnt DPNode.mark k xs i).map DPNode.own).set i r).getD i [] = r := fun r => by rw [List.getD_eq_getElem?_getD, List.getElem?_set_self (by rw [List.length_map, hpl]; exact hlt)]; rfl
      simp only [DPNode.own_eq, DPNode.mark] at hx hst
      simp only [DPNode.cnt] at hc
      have hrow : ((stM DPNode.cnt DPNode.mark k xs i).map DPNode.own)[i]? = some (DPNode.own xs[i]) := by
        have h1 : i < ((stM DPNode.cnt DPNode.mark k xs i).map DPNode.own).length := by simpa [hpl] using hlt
        rw [List.getElem?_eq_getElem h1, ← getD_of (List.getElem?_eq_getElem h1), hx]
        rfl
      have hsx := hs.2 _ (List.getElem_mem hlt)
      have hl := hs.1
      (refine AC_go ?_; simp only [go_sem, simprocAttr, h0, h1, h5]; (have hWf := WFx.mk (ai @h0 <| ai @h1 <| @h5); repeat' (first | refine zY ?_ | with_reducible apply And.intro | with_reducible exact zB0 | with_reducible refine zB fun hb => ?_ | exact zC | refine zT ?_ | fail)))
      (refine AC_go ?_; simp only [go_sem, simprocAttr, h0, h1, h5]; (have hWf := WFx.mk (ai @h0 <| ai @h1 <| @h5); repeat' (first | refine zY ?_ | with_reducible apply And.intro | with_reducible exact zB0 | with_reducible refine zB fun hb => ?_ | exact zC | refine zT ?_ | fail)))
      (refine AC_go ?_; simp only [go_sem, simprocAttr, h0, h1, h5]; (have hWf := WFx.mk (ai @h0 <| ai @h1 <| @h5); repeat' (first | refine zY ?_ | with_reducible apply And.intro | with_reducible exact zB0 | with_reducible refine zB fun hb => ?_ | exact zC | refine zT ?_ | fail)))
      (refine AC_go ?_; simp only [go_sem, simprocAttr, h0, h1, h5, h9, hx, hpl, hgs, List.set_set, List.length_set, DPNode.own_eq]; (have hWf := WFx.mk (ai @h0 <| ai @h1 <| ai @h5 <| ai @h9 <| ai @hx <| ai @hpl <| ai @hgs <| @DPNode.own_eq); repeat' (first | refine zY ?_ | with_reducible apply And.intro | with_reducible exact zB0 | with_reducible refine zB fun hb => ?_ | exact zC | refine zT ?_ | fail)))
      (refine AC_go ?_; simp only [go_sem, simprocAttr, h0, h1, h5, h9, hx, hpl, hgs, List.set_set, List.length_set, DPNode.own_eq]; (have hWf := WFx.mk (ai @h0 <| ai @h1 <| ai @h5 <| ai @h9 <| ai @hx <| ai @hpl <| ai @hgs <| @DPNode.own_eq); repeat' (first | refine zY ?_ | with_reducible apply And.intro | with_reducible exact zB0 | with_reducible refine zB fun hb => ?_ | exact zC | refine zT ?_ | fail)))
      (refine AC_go ?_; simp only [go_sem, simprocAttr, h0, h1, h5, h9, hx, hpl, hgs, List.set_set, List.length_set, DPNode.own_eq]; (have hWf := WFx.mk (ai @h0 <| ai @h1 <| ai @h5 <| ai @h9 <| ai @hx <| ai @hpl <| ai @hgs <| @DPNode.own_eq); repeat' (first | refine zY ?_ | with_reducible apply And.intro | with_reducible exact zB0 | with_reducible refine zB fun hb => ?_ | exact zC | refine zT ?_ | fail)))
      (refine AC_go ?_; simp only [go_sem, simprocAttr, h0, h1, h5, h9, hx, hpl, hgs, List.set_set, List.length_set, DPNode.own_eq]; (have hWf := WFx.mk (ai @h0 <| ai @h1 <| ai @h5 <| ai @h9 <| ai @hx <| ai @hpl <| ai @hgs <| @DPNode.own_eq); repeat' (first | refine zY ?_ | with_reducible apply And.intro | with_reducible exact zB0 | with_reducible refine zB fun hb => ?_ | exact zC | refine zT ?_ | fail)))
      (refine AC_go ?_; simp only [go_sem, simprocAttr, h0, h1, h5, h9, hx, hpl, hgs, List.set_set, List.length_set, DPNode.own_eq]; (have hWf := WFx.mk (ai @h0 <| ai @h1 <| ai @h5 <| ai @h9 <| ai @hx <| ai @hpl <| ai @hgs <| @DPNode.own_eq); repeat' (first | refine zY ?_ | with_reducible apply And.intro | ((with_reducible apply q_CallG); refine zG (c_markText (((k + (cnts DPNode.cnt (xs.take i) : Nat)) + 1) + 1) (by omega)) ?_) | ((with_reducible apply q_CallQ); refine CallQ_mk (c_markText (((k + (cnts DPNode.cnt (xs.take i) : Nat)) + 1) + 1) (by omega)) ?_) | with_reducible exact zB0 | with_reducible refine zB fun hb => ?_ | exact zC | refine zT ?_ | fail)))
      (refine AC_go ?_; simp only [go_sem, simprocAttr, h0, h1, h5, h9, hx, hpl, hgs, List.set_set, List.length_set, DPNode.own_eq]; (have hWf := WFx.mk (ai @h0 <| ai @h1 <| ai @h5 <| ai @h9 <| ai @hx <| ai @hpl <| ai @hgs <| @DPNode.own_eq); repeat' (first | refine zY ?_ | with_reducible apply And.intro | with_reducible exact zB0 | with_reducible refine zB fun hb => ?_ | exact zC | refine zT ?_ | fail)))
      refine AC_open 900000 i 3 1000000003 (e := 126) (k := 4) (rows := ((stM DPNode.cnt DPNode.mark k xs i).map DPNode.own).set i [.s (.int .i64 (k + (cnts DPNode.cnt (xs.take i) : Nat))), .s (.int .i64 ((k + (cnts DPNode.cnt (xs.take i) : Nat)) + 1)), .s (.string (mkB (((k + (cnts DPNode.cnt (xs.take i) : Nat)) + 1) + 1))), .osl 3 1 (xs[i].kids.map iE)]) (row := [.s (.int .i64 (k + (cnts DPNode.cnt (xs.take i) : Nat))), .s (.int .i64 ((k + (cnts DPNode.cnt (xs.take i) : Nat)) + 1)), .s (.string (mkB (((k + (cnts DPNode.cnt (xs.take i) : Nat)) + 1) + 1))), .osl 3 1 (xs[i].kids.map iE)]) (d := .osl 3 1 (xs[i].kids.map iE)) (by simp only [go_sem, simprocAttr, h9]) (List.getElem?_set_self (by rw [List.length_map, hpl]; exact hlt)) rfl rfl (by decide) (by decide) ?_
      (have hWf := WFx.mk (ai @h0 <| ai @h1 <| ai @h5 <| ai @h9 <| ai @hx <| ai @hpl <| ai @hgs <| ai @DPNode.own_eq <| @marks_len); repeat' (first | refine zS ?_ | exact zE | with_reducible apply And.intro | ((with_reducible apply q_CallG); refine CallG_mk (c_markIntS xs[i].kids (hsx.2).1 _ (by omega) (by omega)) ?_; rintro _ _ ⟨rfl, rfl⟩) | ((with_reducible apply q_CallQ); refine CallQ_mk (c_markIntS xs[i].kids (hsx.2).1 _ (by omega) (by omega)) ?_) | with_reducible exact zB0 | with_reducible refine zB fun hb => ?_ | exact zC | refine zT ?_ | fail))
      refine hK (xs.length - (i + 1)) _ _ (by omega) (Wk_close 900000 1000000003 (e := 126) (k := 4) (i := i) (j := 3) (rows := ((stM DPNode.cnt DPNode.mark k xs i).map DPNode.own).set i [.s (.int .i64 (k + (cnts DPNode.cnt (xs.take i) : Nat))), .s (.int .i64 ((k + (cnts DPNode.cnt (xs.take i) : Nat)) + 1)), .s (.string (mkB (((k + (cnts DPNode.cnt (xs.take i) : Nat)) + 1) + 1))), .osl 3 1 (xs[i].kids.map iE)]) (r := .bs 1000000003 1 xs[i].kids.length) (d := .osl 3 1 ((marks (fun _ : Int => 1) (fun k _ => k) ((((k + (cnts DPNode.cnt (xs.take i) : Nat)) + 1) + 1) + 1) xs[i].kids).map iE)) (ob := 1 = 1 ∧ xs[i].kids.length ≤ ((marks (fun _ : Int => 1) (fun k _ => k) ((((k + (cnts DPNode.cnt (xs.take i) : Nat)) + 1) + 1) + 1) xs[i].kids).map iE).length) ?_ ?_ ⟨rfl, by rw [List.length_map, marks_len]; exact Nat.le_refl _⟩ rfl (by decide)) ⟨i + 1, by omega, rfl, ?_⟩
      · simp only [go_sem, simprocAttr, h9, hgs]
      · simp only [go_sem, simprocAttr, marks_len]
      · simp only [go_sem, simprocAttr, h0, h1, h5, h9, Int.natCast_succ, hx, hst, hgs, List.set_set, List.set_cons_succ, List.set_cons_zero]
        exact sI_congr (by rw [hc]; push_cast; omega)
    · obtain rfl : i = xs.length := by omega
      rw [stM_all] at h9
      rw [List.take_length] at h1
      (have hWf := WFx.mk (ai @h0 <| ai @h1 <| ai @h5 <| ai @h9 <| @marks_len); repeat' (first | refine zS ?_ | exact zE | with_reducible apply And.intro | with_reducible exact zB0 | with_reducible refine zB fun hb => ?_ | exact zC | refine zT ?_ | fail))
theorem c_heldPNodeS (xs : List DPNode) (hs : smS DPNode.sm xs) (k : Int) (h0 : 0 ≤ k) (hk : k + cnts DPNode.cnt xs ≤ 4611686018427387904) : FCon Tryz.prog 172 [.sl 4 ((marks DPNode.cnt DPNode.mark k xs).map DPNode.enc), .s (.int .i64 k)] (fun r _ => r = .s (.int .i64 (k + cnts DPNode.cnt xs))) := by
  have hl := hs.1
  refine FCon.intro PM _ Tryz.func172 (by kernel_rfl) rfl _ Tryz.ntmps172 rfl [(10, 7, [], [], (lin [] [0, 1, 2, 3, 4, 5, 6]))] (by decide +kernel) (by simp) (by simp) rfl (by first | rfl | simp only [go_sem]) ?_
  have hml := marks_len (c := DPNode.cnt) (m := DPNode.mark) k xs
  (have hWf := f0; repeat' (first | refine zS ?_ | exact zE | with_reducible apply And.intro | with_reducible exact zB0 | with_reducible refine zB fun hb => ?_ | exact zC | refine zT ?_ | fail))
  refine AC_loop (fun n σ => ∃ i : Nat, i ≤ xs.length ∧ n = xs.length - i ∧ σ.t 0 = .sl 4 ((marks DPNode.cnt DPNode.mark k xs).map DPNode.enc) ∧ σ.t 1 = .s (.int .i64 (k + cnts DPNode.cnt (xs.take i))) ∧ σ.t 5 = .s (.int .i64 i)) xs.length ⟨0, by omega, by omega, ?_⟩ ?_
  · simp only [go_sem, simprocAttr, Int.natCast_zero, List.take_zero, cnts, Int.add_zero]
  · rintro n σ ⟨i, hi, rfl, h0, h1, h5⟩ K' hK
    by_cases hlt : i < xs.length
    · have hc := cnts_step (c := DPNode.cnt) hlt
      have hc' := cnts_le (c := DPNode.cnt) xs (i + 1)
      have hx := marks_get (c := DPNode.cnt) (m := DPNode.mark) k hlt DPNode.enc
      simp only [DPNode.enc_eq, DPNode.mark] at hx
      simp only [DPNode.cnt] at hc
      have hsx := hs.2 _ (List.getElem_mem hlt)
      (have hWf := WFx.mk (ai @h0 <| ai @h1 <| ai @h5 <| ai @hx <| @hml); repeat' (first | refine zS ?_ | exact zE | with_reducible apply And.intro | ((with_reducible apply q_CallG); refine zG (c_markText (((k + (cnts DPNode.cnt (xs.take i) : Nat)) + 1) + 1) (by omega)) ?_) | ((with_reducible apply q_CallQ); refine CallQ_mk (c_markText (((k + (cnts DPNode.cnt (xs.take i) : Nat)) + 1) + 1) (by omega)) ?_) | ((with_reducible apply q_CallG); refine zG (c_heldIntS xs[i].kids (hsx.2).1 _ (by omega) (by omega)) ?_) | ((with_reducible apply q_CallQ); refine CallQ_mk (c_heldIntS xs[i].kids (hsx.2).1 _ (by omega) (by omega)) ?_) | with_reducible exact zB0 | with_reducible refine zB fun hb => ?_ | exact zC | refine zT ?_ | fail))
      all_goals
        refine hK (xs.length - (i + 1)) _ (by omega) ⟨i + 1, by omega, rfl, ?_⟩
        simp only [go_sem, simprocAttr, h0, h1, h5, Int.natCast_succ]
        exact sI_congr (by rw [hc]; push_cast; omega)
    · obtain rfl : i = xs.length := by omega
      rw [List.take_length] at h1
      (have hWf := WFx.mk (ai @h0 <| ai @h1 <| ai @h5 <| @hml); repeat' (first | refine zS ?_ | exact zE | with_reducible apply And.intro | with_reducible exact zB0 | with_reducible refine zB fun hb => ?_ | exact zC | refine zT ?_ | fail))
end Go.Proofs.YtgcdbmcoendcdaaGreat

namespace Go.Proofs.YtgcdbmcoendcdaaGreat
set_option linter.unusedVariables false
set_option linter.unusedSimpArgs false
attribute [local go_sem] List.length_set List.set_set
open Go.RowKit Go.ChangeShapes Go.WideShapes
structure MPat where
  nodes : List DPNode
def MPat.enc (x : MPat) : List D := [.sl 4 (x.nodes.map DPNode.enc)]
theorem MPat.enc_eq (x : MPat) : x.enc = [.sl 4 (x.nodes.map DPNode.enc)] := rfl
def MPat.own (x : MPat) : List D := [.osl 126 4 (x.nodes.map DPNode.own)]
theorem MPat.own_eq (x : MPat) : x.own = [.osl 126 4 (x.nodes.map DPNode.own)] := rfl
theorem MPat.frz_eq (x : MPat) : frzL x.own = x.enc := by
  simp only [MPat.own_eq, MPat.enc_eq, frzL, frz, frz_rows DPNode.frz_eq]
def MPat.ok (x : MPat) : Prop := (∀ y ∈ x.nodes, y.ok)
def MPat.sm (x : MPat) : Prop := smS DPNode.sm x.nodes
def MPat.cnt (x : MPat) : Nat := cnts DPNode.cnt x.nodes
def MPat.mark (k : Int) (x : MPat) : MPat := ⟨marks DPNode.cnt DPNode.mark k x.nodes⟩
theorem MPat.cnt_eq (x : MPat) : x.cnt = cnts DPNode.cnt x.nodes := rfl
theorem MPat.mark_eq (k : Int) (x : MPat) : MPat.mark k x = ⟨marks DPNode.cnt DPNode.mark k x.nodes⟩ := rfl
theorem MPat.pure (x : MPat) : ∀ d ∈ x.own, Pure d := by
  simp only [MPat.own_eq, List.forall_mem_cons, List.not_mem_nil, false_imp_iff, implies_true, and_true]
  exact pure_rows DPNode.pure _ _ _
theorem MPat.pureS (e k : Nat) (xs : List MPat) : Pure (.osl e k (xs.map MPat.own)) = True := eq_true (pure_rows MPat.pure e k xs)
attribute [go_sem] MPat.pureS
theorem MPat.frzS (xs : List MPat) : frzLL (xs.map MPat.own) = xs.map MPat.enc := frz_rows MPat.frz_eq xs
attribute [go_sem] MPat.frzS
theorem c_toPat (x : MPat) (hs : x.sm) : FCon Tryz.prog 219 [.ag x.enc] (fun r _ => r = .ag x.own) := by
  refine FCon.intro PM _ Tryz.func219 (by kernel_rfl) rfl _ Tryz.ntmps219 rfl [] (by decide +kernel) (by simp) (by simp) rfl (by first | rfl | simp only [go_sem]) ?_
  (have hWf := WFx.mk (ai @MPat.enc_eq <| @MPat.own_eq); repeat' (first | refine zS ?_ | exact zE | with_reducible apply And.intro | refine zK (c_toPNodeS x.nodes (hs)) ?_ | with_reducible exact zB0 | with_reducible refine zB fun hb => ?_ | exact zC | refine zT ?_ | fail))
theorem c_toPatS (xs : List MPat) (hs : smS MPat.sm xs) : FCon Tryz.prog 159 [.sl 1 (xs.map MPat.enc)] (fun r _ => r = .osl 89 1 (xs.map MPat.own)) := by
  have hl := hs.1
  refine FCon.intro PM _ Tryz.func159 (by kernel_rfl) rfl _ Tryz.ntmps159 rfl [] (by decide +kernel) (by simp) (by simp) rfl (by first | rfl | simp only [go_sem]) ?_
  (have hWf := f0; repeat' (first | refine zS ?_ | exact zE | with_reducible apply And.intro | with_reducible exact zB0 | with_reducible refine zB fun hb => ?_ | exact zC | refine zT ?_ | fail))
  refine AC_loop (fun n σ => ∃ k : Nat, k ≤ xs.length ∧ n = xs.length - k ∧ σ.t 0 = .sl 1 (xs.map MPat.enc) ∧ σ.t 3 = .bs 7 1 xs.length ∧ σ.t 4 = .s (.int .i64 k) ∧ σ.b 7 = some (.arr 89 1 (partR MPat.own [.nil] xs k))) xs.length ⟨0, by omega, by omega, ?_⟩ ?_
  · simp only [go_sem, simprocAttr, partR_zero, Int.natCast_zero]
  · rintro n σ ⟨k, hk, rfl, h0, h3, h4, h7⟩ K' hK
    by_cases hlt : k < xs.length
    · have hx := getD_map MPat.enc xs k hlt
      have he := MPat.enc_eq xs[k]
      have hpl := partR_len (f := MPat.own) (z := [.nil]) (Nat.le_of_lt hlt)
      have hg := partR_get (f := MPat.own) (z := [.nil]) hlt
      have hst := partR_set (f := MPat.own) (z := [.nil]) hlt
      rw [MPat.own_eq] at hst
      (have hWf := WFx.mk (ai @h0 <| ai @h3 <| ai @h4 <| ai @h7 <| ai @hx <| ai @he <| ai @MPat.own_eq <| ai @hpl <| ai @hg <| @hst); repeat' (first | refine zS ?_ | exact zE | with_reducible apply And.intro | ((with_reducible apply q_CallG); refine zG (c_toPat xs[k] (hs.2 _ (List.getElem_mem hlt))) ?_) | ((with_reducible apply q_CallQ); refine CallQ_mk (c_toPat xs[k] (hs.2 _ (List.getElem_mem hlt))) ?_) | with_reducible exact zB0 | with_reducible refine zB fun hb => ?_ | exact zC | refine zT ?_ | fail))
      refine hK (xs.length - (k + 1)) _ (by omega) ⟨k + 1, by omega, rfl, ?_⟩
      simp only [go_sem, simprocAttr, h0, h3, h4, h7, Int.natCast_succ]
    · obtain rfl : k = xs.length := by omega
      rw [partR_all] at h7
      (have hWf := WFx.mk (ai @h0 <| ai @h3 <| ai @h4 <| @h7); repeat' (first | refine zS ?_ | exact zE | with_reducible apply And.intro | with_reducible exact zB0 | with_reducible refine zB fun hb => ?_ | exact zC | refine zT ?_ | fail))
theorem c_eqPat (x : MPat) : FCon Tryz.prog 229 [.ag x.enc, .ag x.enc] (fun r _ => r = .s (.bool true)) := by
  refine FCon.intro PM _ Tryz.func229 (by kernel_rfl) rfl _ Tryz.ntmps229 rfl [] (by decide +kernel) (by simp) (by simp) rfl (by first | rfl | simp only [go_sem]) ?_
  (have hWf := WFx.mk @MPat.enc_eq; repeat' (first | refine zS ?_ | exact zE | with_reducible apply And.intro | refine zK (c_eqPNodeS x.nodes) ?_ | with_reducible exact zB0 | with_reducible refine zB fun hb => ?_ | exact zC | refine zT ?_ | fail))
theorem c_eqPatS (xs : List MPat) : FCon Tryz.prog 168 [.sl 1 (xs.map MPat.enc), .sl 1 (xs.map MPat.enc)] (fun r _ => r = .s (.bool true)) := by
  refine FCon.intro PM _ Tryz.func168 (by kernel_rfl) rfl _ Tryz.ntmps168 rfl [(6, 8, [], [], (lin [] [0, 1, 2, 3, 4, 5, 6, 7]))] (by decide +kernel) (by simp) (by simp) rfl (by first | rfl | simp only [go_sem]) ?_
  refine AC_len 0 rfl trivial fun hlen => ?_
  simp only [List.length_map] at hlen
  (have hWf := f0; repeat' (first | refine zS ?_ | exact zE | with_reducible apply And.intro | with_reducible exact zB0 | with_reducible refine zB fun hb => ?_ | exact zC | refine zT ?_ | fail))
  refine AC_loop (fun n σ => ∃ k : Nat, k ≤ xs.length ∧ n = xs.length - k ∧ σ.t 0 = .sl 1 (xs.map MPat.enc) ∧ σ.t 1 = .sl 1 (xs.map MPat.enc) ∧ σ.t 5 = .s (.int .i64 k)) xs.length ⟨0, by omega, by omega, ?_⟩ ?_
  · simp only [go_sem, simprocAttr, Int.natCast_zero]
  · rintro n σ ⟨k, hk, rfl, h0, h1, h5⟩ K' hK
    by_cases hlt : k < xs.length
    · have hx := getD_map MPat.enc xs k hlt
      have he := MPat.enc_eq xs[k]
      (have hWf := WFx.mk (ai @h0 <| ai @h1 <| ai @h5 <| ai @hx <| @he); repeat' (first | refine zS ?_ | exact zE | with_reducible apply And.intro | refine zK (c_eqPat xs[k]) ?_ | with_reducible exact zB0 | with_reducible refine zB fun hb => ?_ | exact zC | refine zT ?_ | fail))
      all_goals
        refine hK (xs.length - (k + 1)) _ (by omega) ⟨k + 1, by omega, rfl, ?_⟩
        simp only [go_sem, simprocAttr, h0, h1, h5, Int.natCast_succ]
    · (have hWf := WFx.mk (ai @h0 <| ai @h1 <| @h5); repeat' (first | refine zS ?_ | exact zE | with_reducible apply And.intro | with_reducible exact zB0 | with_reducible refine zB fun hb => ?_ | exact zC | refine zT ?_ | fail))
theorem c_markPatS (xs : List MPat) (hs : smS MPat.sm xs) (k : Int) (h0 : 0 ≤ k) (hk : k + cnts MPat.cnt xs ≤ 4611686018427387904) : FCon Tryz.prog 89 [.osl 89 1 (xs.map MPat.own), .s (.int .i64 k)] (fun r o => r = .s (.int .i64 (k + cnts MPat.cnt xs)) ∧ o = [.osl 89 1 ((marks MPat.cnt MPat.mark k xs).map MPat.own), .un]) := by
  refine FCon.intro PM _ Tryz.func89 (by kernel_rfl) rfl _ Tryz.ntmps89 rfl [] (by decide +kernel) (by simp) (by simp) rfl (by first | rfl | simp only [go_sem]) ?_
  (have hWf := f0; repeat' (first | refine zS ?_ | exact zE | with_reducible apply And.intro | with_reducible exact zB0 | with_reducible refine zB fun hb => ?_ | exact zC | refine zT ?_ | fail))
  refine AC_loopW (fun n σ => ∃ i : Nat, i ≤ xs.length ∧ n = xs.length - i ∧ σ.t 0 = .bs 900000 1 xs.length ∧ σ.t 1 = .s (.int .i64 (k + cnts MPat.cnt (xs.take i))) ∧ σ.t 5 = .s (.int .i64 i) ∧ σ.b 900000 = some (.arr 89 1 ((stM MPat.cnt MPat.mark k xs i).map MPat.own))) xs.length ⟨0, by omega, by omega, ?_⟩ ?_
  · simp only [go_sem, simprocAttr, Int.natCast_zero, stM_zero, List.take_zero, cnts, Int.add_zero]
  · rintro n σ ⟨i, hi, rfl, h0, h1, h5, h9⟩ K' hK
    by_cases hlt : i < xs.length
    · have hc := cnts_step (c := MPat.cnt) hlt
      have hc' := cnts_le (c := MPat.cnt) xs (i + 1)
      have hx := stM_get (c := MPat.cnt) (m := MPat.mark) k hlt MPat.own
      have hpl := stM_len (c := MPat.cnt) (m := MPat.mark) k (Nat.le_of_lt hlt)
      have hst := stM_set (c := MPat.cnt) (m := MPat.mark) k hlt MPat.own
      have hgs : ∀ r, (((stM MPat.cnt MPat.mark k xs i).map MPat.own).set i r).getD i [] = r := fun r => by rw [List.getD_eq_getElem?_getD, List.getElem?_set_self (by rw [List.length_map, hpl]; exact hlt)]; rfl
      simp only [MPat.own_eq, MPat.mark] at hx hst
      simp only [MPat.cnt] at hc
      have hrow : ((stM MPat.cnt MPat.mark k xs i).map MPat.own)[i]? = some (MPat.own xs[i]) := by
        have h1 : i < ((stM MPat.cnt MPat.mark k xs i).map MPat.own).length := by simpa [hpl] using hlt
        rw [List.getElem?_eq_getElem h1, ← getD_of (List.getElem?_eq_getElem h1), hx]
        rfl
      have hsx := hs.2 _ (List.getElem_mem hlt)
      have hl := hs.1
      (refine AC_go ?_; simp only [go_sem, simprocAttr, h0, h1, h5]; (have hWf := WFx.mk (ai @h0 <| ai @h1 <| @h5); repeat' (first | refine zY ?_ | with_reducible apply And.intro | with_reducible exact zB0 | with_reducible refine zB fun hb => ?_ | exact zC | refine zT ?_ | fail)))
      (refine AC_go ?_; simp only [go_sem, simprocAttr, h0, h1, h5]; (have hWf := WFx.mk (ai @h0 <| ai @h1 <| @h5); repeat' (first | refine zY ?_ | with_reducible apply And.intro | with_reducible exact zB0 | with_reducible refine zB fun hb => ?_ | exact zC | refine zT ?_ | fail)))
      (refine AC_go ?_; simp only [go_sem, simprocAttr, h0, h1, h5]; (have hWf := WFx.mk (ai @h0 <| ai @h1 <| @h5); repeat' (first | refine zY ?_ | with_reducible apply And.intro | with_reducible exact zB0 | with_reducible refine zB fun hb => ?_ | exact zC | refine zT ?_ | fail)))
      refine AC_open 900000 i 0 1000000000 (e := 89) (k := 1) (rows := ((stM MPat.cnt MPat.mark k xs i).map MPat.own)) (row := [.osl 126 4 (xs[i].nodes.map DPNode.own)]) (d := .osl 126 4 (xs[i].nodes.map DPNode.own)) (by simp only [go_sem, simprocAttr, h9]) (hrow) rfl rfl (by decide) (by decide) ?_
      (have hWf := WFx.mk (ai @h0 <| ai @h1 <| ai @h5 <| ai @h9 <| ai @hx <| ai @hpl <| ai @hgs <| ai @MPat.own_eq <| @marks_len); repeat' (first | refine zS ?_ | exact zE | with_reducible apply And.intro | ((with_reducible apply q_CallG); refine CallG_mk (c_markPNodeS xs[i].nodes (hsx) _ (by omega) (by omega)) ?_; rintro _ _ ⟨rfl, rfl⟩) | ((with_reducible apply q_CallQ); refine CallQ_mk (c_markPNodeS xs[i].nodes (hsx) _ (by omega) (by omega)) ?_) | with_reducible exact zB0 | with_reducible refine zB fun hb => ?_ | exact zC | refine zT ?_ | fail))
      refine hK (xs.length - (i + 1)) _ _ (by omega) (Wk_close 900000 1000000000 (e := 89) (k := 1) (i := i) (j := 0) (rows := ((stM MPat.cnt MPat.mark k xs i).map MPat.own)) (r := .bs 1000000000 4 xs[i].nodes.length) (d := .osl 126 4 ((marks DPNode.cnt DPNode.mark (k + (cnts MPat.cnt (xs.take i) : Nat)) xs[i].nodes).map DPNode.own)) (ob := 4 = 4 ∧ xs[i].nodes.length ≤ ((marks DPNode.cnt DPNode.mark (k + (cnts MPat.cnt (xs.take i) : Nat)) xs[i].nodes).map DPNode.own).length) ?_ ?_ ⟨rfl, by rw [List.length_map, marks_len]; exact Nat.le_refl _⟩ rfl (by decide)) ⟨i + 1, by omega, rfl, ?_⟩
      · simp only [go_sem, simprocAttr, h9, hgs]
      · simp only [go_sem, simprocAttr, marks_len]
      · simp only [go_sem, simprocAttr, h0, h1, h5, h9, Int.natCast_succ, hx, hst, hgs, List.set_set, List.set_cons_succ, List.set_cons_zero]
        exact sI_congr (by rw [hc]; push_cast; omega)
    · obtain rfl : i = xs.length := by omega
      rw [stM_all] at h9
      rw [List.take_length] at h1
      (have hWf := WFx.mk (ai @h0 <| ai @h1 <| ai @h5 <| ai @h9 <| @marks_len); repeat' (first | refine zS ?_ | exact zE | with_reducible apply And.intro | with_reducible exact zB0 | with_reducible refine zB fun hb => ?_ | exact zC | refine zT ?_ | fail))
theorem c_heldPatS (xs : List MPat) (hs : smS MPat.sm xs) (k : Int) (h0 : 0 ≤ k) (hk : k + cnts MPat.cnt xs ≤ 4611686018427387904) : FCon Tryz.prog 92 [.sl 1 ((marks MPat.cnt MPat.mark k xs).map MPat.enc), .s (.int .i64 k)] (fun r _ => r = .s (.int .i64 (k + cnts MPat.cnt xs))) := by
  have hl := hs.1
  refine FCon.intro PM _ Tryz.func92 (by kernel_rfl) rfl _ Tryz.ntmps92 rfl [] (by decide +kernel) (by simp) (by simp) rfl (by first | rfl | simp only [go_sem]) ?_
  have hml := marks_len (c := MPat.cnt) (m := MPat.mark) k xs
  (have hWf := f0; repeat' (first | refine zS ?_ | exact zE | with_reducible apply And.intro | with_reducible exact zB0 | with_reducible refine zB fun hb => ?_ | exact zC | refine zT ?_ | fail))
  refine AC_loop (fun n σ => ∃ i : Nat, i ≤ xs.length ∧ n = xs.length - i ∧ σ.t 0 = .sl 1 ((marks MPat.cnt MPat.mark k xs).map MPat.enc) ∧ σ.t 1 = .s (.int .i64 (k + cnts MPat.cnt (xs.take i))) ∧ σ.t 5 = .s (.int .i64 i)) xs.length ⟨0, by omega, by omega, ?_⟩ ?_
  · simp only [go_sem, simprocAttr, Int.natCast_zero, List.take_zero, cnts, Int.add_zero]
  · rintro n σ ⟨i, hi, rfl, h0, h1, h5⟩ K' hK
    by_cases hlt : i < xs.length
    · have hc := cnts_step (c := MPat.cnt) hlt
      have hc' := cnts_le (c := MPat.cnt) xs (i + 1)
      have hx := marks_get (c := MPat.cnt) (m := MPat.mark) k hlt MPat.enc
      simp only [MPat.enc_eq, MPat.mark] at hx
      simp only [MPat.cnt] at hc
      have hsx := hs.2 _ (List.getElem_mem hlt)
      (have hWf := WFx.mk (ai @h0 <| ai @h1 <| ai @h5 <| ai @hx <| @hml); repeat' (first | refine zS ?_ | exact zE | with_reducible apply And.intro | ((with_reducible apply q_CallG); refine zG (c_heldPNodeS xs[i].nodes (hsx) _ (by omega) (by omega)) ?_) | ((with_reducible apply q_CallQ); refine CallQ_mk (c_heldPNodeS xs[i].nodes (hsx) _ (by omega) (by omega)) ?_) | with_reducible exact zB0 | with_reducible refine zB fun hb => ?_ | exact zC | refine zT ?_ | fail))
      all_goals
        refine hK (xs.length - (i + 1)) _ (by omega) ⟨i + 1, by omega, rfl, ?_⟩
        simp only [go_sem, simprocAttr, h0, h1, h5, Int.natCast_succ]
        exact sI_congr (by rw [hc]; push_cast; omega)
    · obtain rfl : i = xs.length := by omega
      rw [List.take_length] at h1
      (have hWf := WFx.mk (ai @h0 <| ai @h1 <| ai @h5 <| @hml); repeat' (first | refine zS ?_ | exact zE | with_reducible apply And.intro | with_reducible exact zB0 | with_reducible refine zB fun hb => ?_ | exact zC | refine zT ?_ | fail))
end Go.Proofs.YtgcdbmcoendcdaaGreat

namespace Go.Proofs.YtgcdbmcoendcdaaGreat
set_option linter.unusedVariables false
set_option linter.unusedSimpArgs false
open Go.RowKit
def shapeM (s : ByteArray) (k : Nat) (pair : Bool) : Bool :=
  if s.toList == [116, 114, 117, 101] || s.toList == [102, 97, 108, 115, 101] || s.toList == [91, 93] then (k : Int) == 0
  else if s.toList == [58, 58] then ((k : Int) == 1) && pair
  else conM s.data.toList && decide ((k : Int) ≤ 1)
abbrev kidsP (xs : List DPNode) : List (List Int) := xs.map fun x => x.kids
theorem kidsP_len (xs : List DPNode) : (kidsP xs).length = xs.length := List.length_map ..
theorem kidsP_at (xs : List DPNode) (k : Nat) (h : k < xs.length) : (kidsP xs)[k]'(by simpa using h) = xs[k].kids := by simp
def pairP (xs : List DPNode) (l : List Int) : Bool := match l with
  | [k] => decide (0 ≤ k) && decide (k < xs.length) && (match xs[k.toNat]? with | some x => x.kind == 5 | none => false)
  | _ => false
theorem pairP_no (xs : List DPNode) (l : List Int) (h : ¬ l.length = 1) : pairP xs l = false := by
  unfold pairP
  split
  · simp at h
  · rfl
theorem pairP_at (xs : List DPNode) (l : List Int) (h : l.length = 1) (k : Nat) (hk : k < xs.length) (hl : l[0]'(by omega) = (k : Int)) : pairP xs l = (xs[k].kind == 5) := by
  match l, h with
  | [z], _ =>
    have hz : z = (k : Int) := hl
    subst hz
    have e : pairP xs [(k : Int)] = (decide (0 ≤ (k : Int)) && decide ((k : Int) < xs.length) && (match xs[(k : Int).toNat]? with | some x => x.kind == 5 | none => false)) := rfl
    rw [e, decide_eq_true (by omega), decide_eq_true (by omega), Int.toNat_natCast, List.getElem?_eq_getElem hk]
    rfl
theorem pairP_out (xs : List DPNode) (l : List Int) (h : l.length = 1) (hl : l[0]'(by omega) < 0 ∨ (xs.length : Int) ≤ l[0]'(by omega)) : pairP xs l = false := by
  match l, h with
  | [z], _ =>
    have hz : z < 0 ∨ (xs.length : Int) ≤ z := hl
    have e : pairP xs [z] = (decide (0 ≤ z) && decide (z < xs.length) && (match xs[z.toNat]? with | some x => x.kind == 5 | none => false)) := rfl
    rw [e]
    rcases hz with hz | hz
    · rw [decide_eq_false (by omega)]; rfl
    · rw [decide_eq_false (p := z < (xs.length : Int)) (by omega), Bool.and_false]; rfl
def pnodeB (p : Bool) (x : DPNode) : Bool :=
  if x.kind = 3 then ((x.kids.length : Int) == 0) && x.s.toList.isEmpty && (decide (-4611686018427387903 ≤ x.n) && decide (x.n ≤ 4611686018427387903))
  else if x.kind = 2 then ((x.kids.length : Int) == 0) && (x.n == 0) && nameM x.s
  else if x.kind = 6 ∨ x.kind = 1 then ((x.kids.length : Int) == 0) && (x.n == 0) && x.s.toList.isEmpty
  else if x.kind = 5 then ((x.kids.length : Int) == 2) && (x.n == 0) && x.s.toList.isEmpty
  else if x.kind = 4 then (x.n == 0) && shapeM x.s x.kids.length p
  else false
def pnodeM (xs : List DPNode) (x : DPNode) : Bool := pnodeB (pairP xs x.kids) x
def dupB (y x : DPNode) : Bool := (x.kind == 2) && ((y.kind == 2) && decide (y.s = x.s))
def goodAt (xs : List DPNode) (i : Nat) (h : i < xs.length) : Bool := pnodeM xs xs[i] && (xs.take i).all fun y => !dupB y xs[i]
def patM (xs : List DPNode) : Bool := decide (1 ≤ xs.length) && decide (xs.length ≤ 600) && (List.finRange xs.length).all (fun i => goodAt xs i.1 i.2) && orderM (kidsP xs)
theorem fin_all {n : Nat} {p : Fin n → Bool} : (List.finRange n).all p = true ↔ ∀ i, p i = true := by simp [List.all_eq_true]
theorem patM_bad {xs : List DPNode} {k : Nat} (h : k < xs.length) (hb : goodAt xs k h = false) : patM xs = false := by
  have : (List.finRange xs.length).all (fun i => goodAt xs i.1 i.2) = false := by
    rw [List.all_eq_false]
    exact ⟨⟨k, h⟩, List.mem_finRange _, by simp [hb]⟩
  unfold patM
  rw [this, Bool.and_false, Bool.false_and]
theorem good_false1 {xs : List DPNode} {k : Nat} (h : k < xs.length) (hb : pnodeM xs xs[k] = false) : goodAt xs k h = false := by unfold goodAt; rw [hb]; rfl
theorem good_false2 {xs : List DPNode} {k j : Nat} (h : k < xs.length) (hj : j < k) (hb : dupB (xs[j]'(by omega)) xs[k] = true) : goodAt xs k h = false := by
  unfold goodAt
  have : ((xs.take k).all fun y => !dupB y xs[k]) = false := by
    rw [List.all_eq_false]
    refine ⟨xs[j]'(by omega), ?_, by rw [hb]; simp⟩
    rw [List.mem_take_iff_getElem]
    exact ⟨j, by omega, rfl⟩
  rw [this, Bool.and_false]
theorem good_true {xs : List DPNode} {k : Nat} (h : k < xs.length) (hb : pnodeM xs xs[k] = true) (hd : ∀ j (hj : j < k), dupB (xs[j]'(by omega)) xs[k] = false) : goodAt xs k h = true := by
  unfold goodAt
  rw [hb, Bool.true_and, List.all_eq_true]
  intro y hy
  rw [List.mem_take_iff_getElem] at hy
  obtain ⟨j, hj, rfl⟩ := hy
  rw [hd j (by omega)]; rfl
theorem good_upto {xs : List DPNode} {k : Nat} (h : ∀ j (hj : j < xs.length), j < k → goodAt xs j hj = true) (hlt : k < xs.length) (hk : goodAt xs k hlt = true) : ∀ j (hj : j < xs.length), j < k + 1 → goodAt xs j hj = true := fun j hj hjk => by
  rcases Nat.lt_or_ge j k with q | q
  · exact h j hj q
  · obtain rfl : j = k := by omega
    exact hk
theorem pKids_inP (ks : List (List Int)) (n : Nat) : ∀ (l : List Int) (m e : Nat), pKids (pEnd ks n) l m = some e → ∀ z ∈ l, ∃ q : Nat, z = (q : Int) ∧ q < ks.length
  | [], m, e, h, z, hz => by cases hz
  | k :: l, m, e, h, z, hz => by
    rw [pKids_cons] at h
    cases hc : walkR ks n k m with
    | none => rw [hc] at h; cases h
    | some e1 =>
      rw [hc] at h
      have hb := walkR_bd hc
      rcases List.mem_cons.1 hz with rfl | hz
      · exact ⟨m, hb.1, by omega⟩
      · exact pKids_inP ks n l e1 e h z hz
theorem pEnd_inP (ks : List (List Int)) : ∀ (n m e : Nat), pEnd ks n m = some e → ∀ k (h : k < ks.length), m ≤ k → k < e → ∀ z ∈ ks[k], ∃ q : Nat, z = (q : Int) ∧ q < ks.length
  | 0, m, e, h => by cases h
  | n + 1, m, e, h => by
    intro k hk h1 h2 z hz
    have hm : m < ks.length := by
      rcases Nat.lt_or_ge m ks.length with q | q
      · exact q
      · rw [pEnd_out _ _ _ q] at h; cases h
    rw [pEnd_at _ _ _ hm] at h
    by_cases hkm : k = m
    · subst hkm
      exact pKids_inP ks n _ _ _ h z hz
    · have key : ∀ (l : List Int) (m e : Nat), pKids (pEnd ks n) l m = some e → m ≤ k → k < e → ∃ q : Nat, z = (q : Int) ∧ q < ks.length := by
        intro l
        induction l with
        | nil =>
          intro m e h a b
          have h' : some m = some e := h
          injection h' with h'; omega
        | cons k0 l ih =>
          intro m e h a b
          rw [pKids_cons] at h
          cases hc : walkR ks n k0 m with
          | none => rw [hc] at h; cases h
          | some e1 =>
            rw [hc] at h
            have hb := walkR_bd hc
            by_cases hke : k < e1
            · unfold walkR at hc
              rw [if_pos hb.1] at hc
              exact pEnd_inP ks n m e1 hc k hk a hke z hz
            · exact ih e1 e h (by omega) b
      exact key _ _ _ h (by omega) h2
theorem order_inP {xs : List DPNode} (h : orderM (kidsP xs) = true) (k : Nat) (hk : k < xs.length) (h1 : xs[k].kids.length = 1) : ∃ q : Nat, xs[k].kids[0]'(by omega) = (q : Int) ∧ q < xs.length := by
  unfold orderM at h
  have he : pEnd (kidsP xs) (kidsP xs).length 0 = some (kidsP xs).length := by simpa using h
  have := pEnd_inP (kidsP xs) _ _ _ he k (by rw [kidsP_len]; exact hk) (Nat.zero_le _) (by rw [kidsP_len]; exact hk) (xs[k].kids[0]'(by omega)) (by rw [kidsP_at xs k hk]; exact List.getElem_mem _)
  rw [kidsP_len] at this
  exact this
def NamesAt (xs : List DPNode) (k : Nat) (ns : List ByteArray) : Prop := ns.length ≤ k ∧ ∀ s, s ∈ ns ↔ ∃ j, ∃ h : j < xs.length, j < k ∧ xs[j].kind = 2 ∧ xs[j].s = s
theorem NamesAt.zero (xs : List DPNode) : NamesAt xs 0 [] := ⟨Nat.le_refl _, fun s => ⟨fun h => (by cases h), fun ⟨j, _, hj, _⟩ => (by omega)⟩⟩
theorem NamesAt.skip {xs : List DPNode} {k : Nat} {ns : List ByteArray} (h : NamesAt xs k ns) (hk : k < xs.length) (h2 : xs[k].kind ≠ 2) : NamesAt xs (k + 1) ns := by
  refine ⟨by have := h.1; omega, fun s => ?_⟩
  rw [h.2 s]
  constructor
  · rintro ⟨j, hj, a, b⟩
    exact ⟨j, hj, by omega, b⟩
  · rintro ⟨j, hj, a, b, c⟩
    refine ⟨j, hj, ?_, b, c⟩
    rcases Nat.lt_or_ge j k with q | q
    · exact q
    · obtain rfl : j = k := by omega
      exact absurd b h2
theorem NamesAt.add {xs : List DPNode} {k : Nat} {ns : List ByteArray} (h : NamesAt xs k ns) (hk : k < xs.length) (h2 : xs[k].kind = 2) : NamesAt xs (k + 1) (ns ++ [xs[k].s]) := by
  refine ⟨by have := h.1; simp; omega, fun s => ?_⟩
  rw [List.mem_append, h.2 s, List.mem_singleton]
  constructor
  · rintro (⟨j, hj, a, b⟩ | rfl)
    · exact ⟨j, hj, by omega, b⟩
    · exact ⟨k, hk, by omega, h2, rfl⟩
  · rintro ⟨j, hj, a, b, c⟩
    rcases Nat.lt_or_ge j k with q | q
    · exact .inl ⟨j, hj, q, b, c⟩
    · obtain rfl : j = k := by omega
      exact .inr c.symm
theorem NamesAt.dup {xs : List DPNode} {k : Nat} {ns : List ByteArray} (h : NamesAt xs k ns) (hk : k < xs.length) (h2 : xs[k].kind = 2) (hi : inL xs[k].s ns = true) : goodAt xs k hk = false := by
  obtain ⟨j, hj, a, b, c⟩ := (h.2 _).1 ((inL_iff _ _).1 hi)
  exact good_false2 hk a (by unfold dupB; rw [h2, b, decide_eq_true c]; rfl)
theorem NamesAt.none {xs : List DPNode} {k : Nat} {ns : List ByteArray} (h : NamesAt xs k ns) (hk : k < xs.length) (hp : pnodeM xs xs[k] = true) (hi : xs[k].kind = 2 → inL xs[k].s ns = false) : goodAt xs k hk = true := by
  refine good_true hk hp fun j hj => ?_
  unfold dupB
  by_cases h2 : xs[k].kind = 2
  · have hn := hi h2
    by_cases hj2 : (xs[j]'(by omega)).kind = 2
    · by_cases hs : (xs[j]'(by omega)).s = xs[k].s
      · have : inL xs[k].s ns = true := (inL_iff _ _).2 ((h.2 _).2 ⟨j, by omega, hj, hj2, hs⟩)
        rw [this] at hn; cases hn
      · rw [decide_eq_false hs]; simp
    · simp [hj2]
  · simp [h2]
end Go.Proofs.YtgcdbmcoendcdaaGreat

namespace Go.Proofs.YtgcdbmcoendcdaaGreat
set_option linter.unusedVariables false
set_option linter.unusedSimpArgs false
open Go.RowKit
theorem RepL.inv {S : Nat → Prop} {up : Nat → Option Pos} {W : World} {d : D} {ds : List D} {us : List Value} (h : RepL S up W (d :: ds) us) : ∃ u t, us = u :: t ∧ Rep S up W none d u ∧ RepL S up W ds t := by
  obtain ⟨h1, h2⟩ := h
  match us, h1 with
  | u :: t, h1 => exact ⟨u, t, rfl, h2 0 d u rfl rfl, by simpa using h1, fun j d' u' q1 q2 => h2 (j + 1) d' u' (by simpa using q1) (by simpa using q2)⟩
theorem two_args {P : Nat → D → Value → Prop} {b c : D} {vs : List Value} (hl : vs.length = [b, c].length) (h : ∀ (j : Nat) (x : D) (u : Value), [b, c][j]? = some x → vs[j]? = some u → P j x u) : ∃ v u, vs = [v, u] ∧ P 0 b v ∧ P 1 c u := by
  match vs, hl with
  | [v, u], _ => exact ⟨v, u, rfl, h 0 b v rfl rfl, h 1 c u rfl rfl⟩
theorem SlOf.mapR {α β : Type} {k : Nat} {R : Hp → List Value → α → Prop} {R' : Hp → List Value → β → Prop} {h : Hp} {v : Value} {xs : List α} (f : α → β) (hR : ∀ r x, R h r x → R' h r (f x)) (q : SlOf k R h v xs) : SlOf k R' h v (xs.map f) := by
  obtain ⟨a, c, e, h1, h2, r⟩ := q
  refine ⟨a, c, by simpa using e, by simpa using h1, h2, r.imp (fun z => by simp [z]) ?_⟩
  rintro ⟨b, off, ea, hc⟩
  refine ⟨b, off, ea, fun i hi => ?_⟩
  obtain ⟨r, r1, r2, r3⟩ := hc i (by simpa using hi)
  exact ⟨r, r1, r2, by simpa using hR _ _ r3⟩
theorem intS_of {S : Nat → Prop} {up : Nat → Option Pos} {W : World} {v : Value} {l : List Int} (h : Rep S up W none (.sl 1 (l.map iE)) v) (ho : ∀ x ∈ l, I64 x) : IntS (hp W) v l :=
  Rep.slOf (enc := iE) (fun _ _ => rfl) (by decide) (fun r x hx hr => by
    rw [iE_eq] at hr
    obtain ⟨u0, t0, rfl, h0, hr⟩ := hr.inv
    obtain rfl : t0 = [] := List.eq_nil_of_length_eq_zero (by have := hr.1; simpa using this)
    obtain rfl : u0 = .int .i64 x := Rep.s_inv h0
    exact ⟨rfl, ho x hx⟩) h
theorem kidsAt_of {α : Type} {enc : α → List D} {kids : α → List Int} {k c : Nat} (hk : 0 < k) {S : Nat → Prop} {up : Nat → Option Pos} {W : World} {v : Value} {xs : List α} (hl : ∀ x ∈ xs, (enc x).length = k) (hc : ∀ x ∈ xs, (enc x)[c]? = some (.sl 1 ((kids x).map iE))) (h : Rep S up W none (.sl k (xs.map enc)) v) (ho : ∀ x ∈ xs, ∀ z ∈ kids x, I64 z) : KidsAt k c (hp W) v (xs.map kids) := by
  refine SlOf.mapR (R := fun h r (x : α) => KidR k c h r (kids x)) kids (fun r x q => q) ?_
  refine Rep.slOf (enc := enc) hl hk (fun r x hx hr => ?_) h
  have h1 := hl x hx
  have h2 := hc x hx
  have hlt : c < r.length := by rw [hr.1]; exact (List.getElem?_eq_some_iff.1 h2).1
  exact ⟨by rw [hr.1, h1], r[c], List.getElem?_eq_getElem hlt, intS_of (hr.2 c _ _ h2 (List.getElem?_eq_getElem hlt)) (ho x hx)⟩
theorem pat_kids (w : World) (h : Hp) (hs : Sub h w) (v : Value) (ks : List (List Int)) (hv : KidsAt 4 3 h v ks) (hl : ks.length ≤ 1000000000) (Bd Od : Nat) (hB : w.cell? ⟨Bd, Od, none⟩ = some v) (i : Nat) (hi : i < ks.length) :
    Calls Tryz.prog 106 #[.int .i64 i, .pointer (some ⟨Bd, Od, none⟩)] w fun e w' => KidQ h w ks[i] e w' := by
  have HV := Lib.hid hv
  obtain ⟨a, c, rfl, hc1, hc2, -⟩ := hv
  unfold maxLen at hc2
  obtain ⟨b, off, rfl, hcell⟩ := HV.out.cell hi
  obtain ⟨v1, hrel, hcs⟩ := hcell i hi
  have c3 := hcs w hs
  have HR := Lib.hid hrel
  clear hcell hcs hrel
  go_enter Tryz.func106, Tryz.ntmps106
  go_wp2_with fail
  go_ret
  exact ⟨_, rfl, HR.out, (by repeat (first | with_reducible exact Below.refl _ _ | with_reducible assumption | with_reducible refine Below.setCell ?_ ?_ _ | with_reducible refine Below.alloc ?_ ?_ _ | with_reducible refine Below.drew ?_ | (with_reducible apply below_chain; with_reducible assumption) | exact Nat.le_refl _ | omega | (simp <;> omega)))⟩
theorem ent_of {f : FuncId} {fn : Func} {c : Code} (hf : Tryz.prog.funcs[f]? = some fn) (hname : (fn.name == "runtime.NumGoroutine") = false) (hb : fn.body = some c) (vs : Array Value) (w : World) : (callFunc f vs).run Tryz.prog w = .ok (.enter f vs) w := by
  have hname' : ¬ fn.name = "runtime.NumGoroutine" := by simpa using hname
  have hbn : ¬ fn.body = none := by rw [hb]; simp
  simp [callFunc, hf, hname', hbn]
theorem c_inOrder (K : FuncId) (hEnt : ∀ vs w, (callFunc K vs).run Tryz.prog w = .ok (.enter K vs) w) (ks : List (List Int)) (row : List D) (hl : ks.length ≤ 1000000000) (hks : ∀ k ∈ ks, k.length ≤ 1000000000)
    (hK : ∀ (w : World) (S : Nat → Prop) (up : Nat → Option Pos) (v : Value), Rep S up w none (.pt row) v → ∀ w1, Below w.heap.size w w1 → ∀ m (hm : m < ks.length), Calls Tryz.prog K #[.int .i64 m, v] w1 fun e w' => KidQ (hp w) w1 ks[m] e w') :
    FCon Tryz.prog 95 [.s (.int .i64 ks.length), .fn K [.pt row]] (fun r _ => r = .s (.bool (orderM ks))) := by
  refine FCon.ofBelow Tryz.func95 (by kernel_rfl) rfl (Rv := (· = .bool (orderM ks))) (fun v hv => by subst hv; exact ⟨rfl, rfl⟩) rfl fun w S up vs h1 h2 => ?_
  obtain ⟨v, u, rfl, hv, hu⟩ := two_args (P := fun _ b u => RB S up w b u) h1 h2
  obtain rfl : v = .int .i64 ks.length := Rep.s_inv (show Rep S up w none (.s (.int .i64 ks.length)) v from hv)
  cases (show Rep S up w none (.fn K [.pt row]) u from hu) with
  | fn us hus =>
    have hp := hus 0 _ rfl
    have e : ((List.range [D.pt row].length).map us).toArray = #[us 0] := by simp
    rw [e]
    exact (node_inOrder w ks hl (fun k h => hks _ (List.getElem_mem h)) K (us 0) hEnt fun w1 hb m hm => hK w S up _ hp w1 hb m hm).mono fun e w' ⟨q1, q2⟩ => ⟨_, q1, rfl, q2⟩
theorem c_inOrderP (xs : List DPNode) (ho : ∀ x ∈ xs, x.ok) (hl : xs.length ≤ 1000000000) (hks : ∀ x ∈ xs, x.kids.length ≤ 1000000000) :
    FCon Tryz.prog 95 [.s (.int .i64 xs.length), .fn 106 [.pt [.sl 4 (xs.map DPNode.enc)]]] (fun r _ => r = .s (.bool (orderM (kidsP xs)))) := by
  have hlen : (xs.map DPNode.kids).length = xs.length := List.length_map _
  have := c_inOrder 106 (ent_of Tryz.func106 rfl rfl) (xs.map DPNode.kids) [.sl 4 (xs.map DPNode.enc)] (by rw [hlen]; exact hl) (fun k h => by obtain ⟨x, hx, rfl⟩ := List.mem_map.1 h; exact hks x hx) fun w S up v hv w1 hb m hm => by
    cases hv with
    | @pt _ _ b off ws hc hr =>
      have c1 := (hc 0 _ rfl).2
      have hk := kidsAt_of (enc := DPNode.enc) (kids := DPNode.kids) (k := 4) (c := 3) (by decide) (fun _ _ => rfl) (fun _ _ => rfl) (hr 0 _ rfl) (fun x hx => (ho x hx).2.2.2)
      exact pat_kids w1 (hp w) ((Sub.self w).below hb) _ _ hk (by rw [hlen]; exact hl) b off (cell_kept hb c1) m hm
  rw [hlen] at this
  exact this
end Go.Proofs.YtgcdbmcoendcdaaGreat

namespace Go.Proofs.YtgcdbmcoendcdaaGreat
set_option linter.unusedVariables false
set_option linter.unusedSimpArgs false
open Go.RowKit
theorem litTrue : (⟨#[116, 114, 117, 101]⟩ : ByteArray).toList = [116, 114, 117, 101] := by kernel_rfl
theorem litFalse : (⟨#[102, 97, 108, 115, 101]⟩ : ByteArray).toList = [102, 97, 108, 115, 101] := by kernel_rfl
theorem litNil : (⟨#[91, 93]⟩ : ByteArray).toList = [91, 93] := by kernel_rfl
theorem litCons : (⟨#[58, 58]⟩ : ByteArray).toList = [58, 58] := by kernel_rfl
theorem c_conShape (s : ByteArray) (hs : s.size ≤ maxLen) (k : Nat) (p : Bool) : FCon Tryz.prog 148 [.s (.string s), .s (.int .i64 k), .s (.bool p)] (fun r _ => r = .s (.bool (shapeM s k p))) := by
  refine FCon.intro PM _ Tryz.func148 (by kernel_rfl) rfl _ Tryz.ntmps148 rfl [] (by decide +kernel) (by simp) (by simp) rfl (by first | rfl | simp only [go_sem]) ?_
  (have hWf := WFx.mk (ai @litTrue <| ai @litFalse <| ai @litNil <| @litCons); repeat' (first | refine zS ?_ | exact zE | with_reducible apply And.intro | refine zK (c_implConOk s hs) ?_ | with_reducible exact zB0 | with_reducible refine zB fun hb => ?_ | exact zC | refine zT ?_ | fail))
  all_goals exact sB (by grind [shapeM])
theorem c_l04ConOk (s : ByteArray) (hs : s.size ≤ maxLen) (k : Nat) (p : Bool) : FCon Tryz.prog 113 [.s (.string s), .s (.int .i64 k), .s (.bool p)] (fun r _ => r = .s (.bool (shapeM s k p))) := by
  refine FCon.intro PM _ Tryz.func113 (by kernel_rfl) rfl _ Tryz.ntmps113 rfl [] (by decide +kernel) (by simp) (by simp) rfl (by first | rfl | simp only [go_sem]) ?_
  (have hWf := WFx.mk (ai @litTrue <| ai @litFalse <| ai @litNil <| @litCons); repeat' (first | refine zS ?_ | exact zE | with_reducible apply And.intro | refine zK (c_specConOk s hs) ?_ | with_reducible exact zB0 | with_reducible refine zB fun hb => ?_ | exact zC | refine zT ?_ | fail))
  all_goals exact sB (by grind [shapeM])
theorem pnode_out {p : Bool} {x : DPNode} (h : x.kind < 1 ∨ 6 < x.kind) : pnodeB p x = false := by
  unfold pnodeB
  rw [if_neg (by omega), if_neg (by omega), if_neg (by omega), if_neg (by omega), if_neg (by omega)]
theorem patN_4 (xs : List DPNode) (n : Int) (s : ByteArray) (kids : List Int) (hs : s.size ≤ maxLen) (hkl : kids.length ≤ 1048576) (hin : ∀ h1 : kids.length = 1, ∃ k : Nat, kids[0]'(by omega) = (k : Int) ∧ k < xs.length) : FCon Tryz.prog 107 [.ag [.sl 4 (xs.map DPNode.enc)], .ag (DPNode.mk 4 n s kids).enc] (fun r _ => r = .s (.bool (pnodeM xs ⟨4, n, s, kids⟩))) := by
  have e : pnodeM xs ⟨4, n, s, kids⟩ = ((n == 0) && shapeM s kids.length (pairP xs kids)) := by unfold pnodeM pnodeB; simp
  rw [e]
  match kids, hkl, hin with
  | [], _, _ =>
    refine FCon.intro PM _ Tryz.func107 (by kernel_rfl) rfl _ Tryz.ntmps107 rfl [(11, 21, [], [], (lin [] [0, 1, 2, 3, 4, 5, 6, 7, 8, 9, 10, 11, 12, 13, 14, 15, 16, 17, 18, 19, 20]))] (by decide +kernel) (by simp) (by simp) rfl (by first | rfl | simp only [go_sem]) ?_
    (have hWf := WFx.mk @DPNode.enc_eq; repeat' (first | refine zS ?_ | exact zE | with_reducible apply And.intro | refine zK (c_conShape s hs 0 false) ?_ | with_reducible exact zB0 | with_reducible refine zB fun hb => ?_ | exact zC | refine zT ?_ | fail))
    all_goals rfl
  | [z], _, hin =>
    obtain ⟨k, hz, hk⟩ := hin rfl
    have hz : z = (k : Int) := hz
    subst hz
    rw [pairP_at xs [(k : Int)] rfl k hk rfl]
    have hg := getD_map DPNode.enc xs k hk
    have he := DPNode.enc_eq xs[k]
    refine FCon.intro PM _ Tryz.func107 (by kernel_rfl) rfl _ Tryz.ntmps107 rfl [(11, 21, [], [], (lin [] [0, 1, 2, 3, 4, 5, 6, 7, 8, 9, 10, 11, 12, 13, 14, 15, 16, 17, 18, 19, 20]))] (by decide +kernel) (by simp) (by simp) rfl (by first | rfl | simp only [go_sem]) ?_
    (have hWf := WFx.mk (ai @DPNode.enc_eq <| ai @hg <| ai @he <| @iE_eq); repeat' (first | refine zS ?_ | exact zE | with_reducible apply And.intro | refine zK (c_conShape s hs 1 (xs[k].kind == 5)) ?_ | with_reducible exact zB0 | with_reducible refine zB fun hb => ?_ | exact zC | refine zT ?_ | fail))
  | a :: b :: l, _, _ =>
    rw [pairP_no xs (a :: b :: l) (by simp)]
    have hl1 : (((l.length + 1 + 1 : Nat) : Int) == 1) = false := by simp; omega
    cases hn : (n == 0)
    all_goals
      refine FCon.intro (PMr [11]) _ Tryz.func107 (by kernel_rfl) rfl _ Tryz.ntmps107 rfl [(11, 21, [], [], (lin [] [0, 1, 2, 3, 4, 5, 6, 7, 8, 9, 10, 11, 12, 13, 14, 15, 16, 17, 18, 19, 20]))] (by decide +kernel) (by simp) (by simp) rfl (by first | rfl | simp only [go_sem]) ?_
      (have hWf := WFx.mk (ai @DPNode.enc_eq <| ai @iE_eq <| ai @hl1 <| @hn); repeat' (first | refine zS ?_ | exact zE | with_reducible apply And.intro | refine zK (c_conShape s hs (l.length + 1 + 1) false) ?_ | with_reducible exact zB0 | with_reducible refine zB fun hb => ?_ | exact zC | refine zT ?_ | fail))
theorem c_patNodeOk (xs : List DPNode) (x : DPNode) (hx : x.ok) (hkl : x.kids.length ≤ 1048576) (hin : ∀ h1 : x.kids.length = 1, ∃ k : Nat, x.kids[0]'(by omega) = (k : Int) ∧ k < xs.length) : FCon Tryz.prog 107 [.ag [.sl 4 (xs.map DPNode.enc)], .ag x.enc] (fun r _ => r = .s (.bool (pnodeM xs x))) := by
  obtain ⟨kind, n, s, kids⟩ := x
  obtain ⟨-, -, hs, -⟩ := hx
  dsimp only at hkl hin hs
  by_cases hr : kind < 1 ∨ 6 < kind
  · rw [show pnodeM xs ⟨kind, n, s, kids⟩ = false from pnode_out hr]
    have e1 : (kind == 1) = false := by simp; omega
    have e2 : (kind == 2) = false := by simp; omega
    have e3 : (kind == 3) = false := by simp; omega
    have e4 : (kind == 4) = false := by simp; omega
    have e5 : (kind == 5) = false := by simp; omega
    have e6 : (kind == 6) = false := by simp; omega
    refine FCon.intro PM _ Tryz.func107 (by kernel_rfl) rfl _ Tryz.ntmps107 rfl [(11, 21, [], [], (lin [] [0, 1, 2, 3, 4, 5, 6, 7, 8, 9, 10, 11, 12, 13, 14, 15, 16, 17, 18, 19, 20]))] (by decide +kernel) (by simp) (by simp) rfl (by first | rfl | simp only [go_sem]) ?_
    (have hWf := WFx.mk (ai @DPNode.enc_eq <| ai @e1 <| ai @e2 <| ai @e3 <| ai @e4 <| ai @e5 <| @e6); repeat' (first | refine zS ?_ | exact zE | with_reducible apply And.intro | with_reducible exact zB0 | with_reducible refine zB fun hb => ?_ | exact zC | refine zT ?_ | fail))
  · by_cases h4 : kind = 4
    · subst h4
      exact patN_4 xs n s kids hs hkl hin
    · rcases (show kind = 1 ∨ kind = 2 ∨ kind = 3 ∨ kind = 5 ∨ kind = 6 by omega) with rfl | rfl | rfl | rfl | rfl
      all_goals
        clear hin h4 hr
        refine FCon.intro PM _ Tryz.func107 (by kernel_rfl) rfl _ Tryz.ntmps107 rfl [(11, 21, [], [], (lin [] [0, 1, 2, 3, 4, 5, 6, 7, 8, 9, 10, 11, 12, 13, 14, 15, 16, 17, 18, 19, 20]))] (by decide +kernel) (by simp) (by simp) rfl (by first | rfl | simp only [go_sem]) ?_
        (have hWf := WFx.mk @DPNode.enc_eq; repeat' (first | refine zS ?_ | exact zE | with_reducible apply And.intro | refine zK (c_implNameOk s hs) ?_ | refine zK (c_within n (-4611686018427387903) 4611686018427387903) ?_ | with_reducible exact zB0 | with_reducible refine zB fun hb => ?_ | exact zC | refine zT ?_ | fail))
        all_goals exact sB (by unfold pnodeM pnodeB; first | (simp_all; done) | grind)
theorem geB {a b : Int} (h : a ≤ b) : decide (b ≥ a) = true := decide_eq_true h
theorem l04P_N (xs : List DPNode) (hl : xs.length ≤ 1048576) (kind n : Int) (s : ByteArray) (hs : s.size ≤ maxLen) : FCon Tryz.prog 186 [.ag [.sl 4 (xs.map DPNode.enc)], .ag (DPNode.mk kind n s []).enc] (fun r _ => r = .s (.bool (pnodeB false ⟨kind, n, s, []⟩))) := by
  rcases (show (kind < 1 ∨ 6 < kind) ∨ kind = 1 ∨ kind = 2 ∨ kind = 3 ∨ kind = 4 ∨ kind = 5 ∨ kind = 6 by omega) with hr | hin
  · have e1 : (kind == 1) = false := by simp; omega
    have e2 : (kind == 2) = false := by simp; omega
    have e3 : (kind == 3) = false := by simp; omega
    have e4 : (kind == 4) = false := by simp; omega
    have e5 : (kind == 5) = false := by simp; omega
    have e6 : (kind == 6) = false := by simp; omega
    rw [pnode_out (by exact hr)]
    refine FCon.intro (PMr [1]) _ Tryz.func186 (by kernel_rfl) rfl _ Tryz.ntmps186 rfl [(1, 28, [], [], (lin [] [0, 1, 2, 3, 4, 5, 6, 7, 8, 9, 10, 11, 12, 13, 14, 15, 16, 17, 18, 19, 20, 21, 22, 23, 24, 25, 26, 27]))] (by decide +kernel) (by simp) (by simp) rfl (by first | rfl | simp only [go_sem]) ?_
    (have hWf := WFx.mk (ai @DPNode.enc_eq <| ai @iE_eq <| ai @e1 <| ai @e2 <| ai @e3 <| ai @e4 <| ai @e5 <| @e6); repeat' (first | refine zS ?_ | exact zE | with_reducible apply And.intro | with_reducible exact zB0 | with_reducible refine zB fun hb => ?_ | exact zC | refine zT ?_ | fail))
  · rcases hin with rfl | rfl | rfl | rfl | rfl | rfl
    all_goals
      refine FCon.intro (PMr [1]) _ Tryz.func186 (by kernel_rfl) rfl _ Tryz.ntmps186 rfl [(1, 28, [], [], (lin [] [0, 1, 2, 3, 4, 5, 6, 7, 8, 9, 10, 11, 12, 13, 14, 15, 16, 17, 18, 19, 20, 21, 22, 23, 24, 25, 26, 27]))] (by decide +kernel) (by simp) (by simp) rfl (by first | rfl | simp only [go_sem]) ?_
      (have hWf := WFx.mk (ai @DPNode.enc_eq <| @iE_eq); repeat' (first | refine zS ?_ | exact zE | with_reducible apply And.intro | ((with_reducible apply q_CallG); refine zG (c_l04ConOk s hs _ _) ?_) | ((with_reducible apply q_CallQ); refine CallQ_mk (c_l04ConOk s hs _ _) ?_) | refine zK (c_specNameOk s hs) ?_ | with_reducible exact zB0 | with_reducible refine zB fun hb => ?_ | exact zC | refine zT ?_ | fail))
      all_goals exact sB (by unfold pnodeB; first | (simp_all; done) | grind)
theorem l04P_B (xs : List DPNode) (hl : xs.length ≤ 1048576) (kind n : Int) (s : ByteArray) (hs : s.size ≤ maxLen) (z : Int) (g1 : decide (z ≥ 0) = false) : FCon Tryz.prog 186 [.ag [.sl 4 (xs.map DPNode.enc)], .ag (DPNode.mk kind n s [z]).enc] (fun r _ => r = .s (.bool (pnodeB false ⟨kind, n, s, [z]⟩))) := by
  rcases (show (kind < 1 ∨ 6 < kind) ∨ kind = 1 ∨ kind = 2 ∨ kind = 3 ∨ kind = 4 ∨ kind = 5 ∨ kind = 6 by omega) with hr | hin
  · have e1 : (kind == 1) = false := by simp; omega
    have e2 : (kind == 2) = false := by simp; omega
    have e3 : (kind == 3) = false := by simp; omega
    have e4 : (kind == 4) = false := by simp; omega
    have e5 : (kind == 5) = false := by simp; omega
    have e6 : (kind == 6) = false := by simp; omega
    rw [pnode_out (by exact hr)]
    refine FCon.intro (PMr [1]) _ Tryz.func186 (by kernel_rfl) rfl _ Tryz.ntmps186 rfl [(1, 28, [], [], (lin [] [0, 1, 2, 3, 4, 5, 6, 7, 8, 9, 10, 11, 12, 13, 14, 15, 16, 17, 18, 19, 20, 21, 22, 23, 24, 25, 26, 27]))] (by decide +kernel) (by simp) (by simp) rfl (by first | rfl | simp only [go_sem]) ?_
    (have hWf := WFx.mk (ai @DPNode.enc_eq <| ai @iE_eq <| ai @g1 <| ai @e1 <| ai @e2 <| ai @e3 <| ai @e4 <| ai @e5 <| @e6); repeat' (first | refine zS ?_ | exact zE | with_reducible apply And.intro | with_reducible exact zB0 | with_reducible refine zB fun hb => ?_ | exact zC | refine zT ?_ | fail))
  · rcases hin with rfl | rfl | rfl | rfl | rfl | rfl
    all_goals
      refine FCon.intro (PMr [1]) _ Tryz.func186 (by kernel_rfl) rfl _ Tryz.ntmps186 rfl [(1, 28, [], [], (lin [] [0, 1, 2, 3, 4, 5, 6, 7, 8, 9, 10, 11, 12, 13, 14, 15, 16, 17, 18, 19, 20, 21, 22, 23, 24, 25, 26, 27]))] (by decide +kernel) (by simp) (by simp) rfl (by first | rfl | simp only [go_sem]) ?_
      (have hWf := WFx.mk (ai @DPNode.enc_eq <| ai @iE_eq <| @g1); repeat' (first | refine zS ?_ | exact zE | with_reducible apply And.intro | ((with_reducible apply q_CallG); refine zG (c_l04ConOk s hs _ _) ?_) | ((with_reducible apply q_CallQ); refine CallQ_mk (c_l04ConOk s hs _ _) ?_) | refine zK (c_specNameOk s hs) ?_ | with_reducible exact zB0 | with_reducible refine zB fun hb => ?_ | exact zC | refine zT ?_ | fail))
      all_goals exact sB (by unfold pnodeB; first | (simp_all; done) | grind)
theorem l04P_O (xs : List DPNode) (hl : xs.length ≤ 1048576) (kind n : Int) (s : ByteArray) (hs : s.size ≤ maxLen) (z : Int) (g1 : decide (z ≥ 0) = true) (g2 : decide (z < (xs.length : Int)) = false) : FCon Tryz.prog 186 [.ag [.sl 4 (xs.map DPNode.enc)], .ag (DPNode.mk kind n s [z]).enc] (fun r _ => r = .s (.bool (pnodeB false ⟨kind, n, s, [z]⟩))) := by
  rcases (show (kind < 1 ∨ 6 < kind) ∨ kind = 1 ∨ kind = 2 ∨ kind = 3 ∨ kind = 4 ∨ kind = 5 ∨ kind = 6 by omega) with hr | hin
  · have e1 : (kind == 1) = false := by simp; omega
    have e2 : (kind == 2) = false := by simp; omega
    have e3 : (kind == 3) = false := by simp; omega
    have e4 : (kind == 4) = false := by simp; omega
    have e5 : (kind == 5) = false := by simp; omega
    have e6 : (kind == 6) = false := by simp; omega
    rw [pnode_out (by exact hr)]
    refine FCon.intro (PMr [1]) _ Tryz.func186 (by kernel_rfl) rfl _ Tryz.ntmps186 rfl [(1, 28, [], [], (lin [] [0, 1, 2, 3, 4, 5, 6, 7, 8, 9, 10, 11, 12, 13, 14, 15, 16, 17, 18, 19, 20, 21, 22, 23, 24, 25, 26, 27]))] (by decide +kernel) (by simp) (by simp) rfl (by first | rfl | simp only [go_sem]) ?_
    (have hWf := WFx.mk (ai @DPNode.enc_eq <| ai @iE_eq <| ai @g1 <| ai @g2 <| ai @e1 <| ai @e2 <| ai @e3 <| ai @e4 <| ai @e5 <| @e6); repeat' (first | refine zS ?_ | exact zE | with_reducible apply And.intro | with_reducible exact zB0 | with_reducible refine zB fun hb => ?_ | exact zC | refine zT ?_ | fail))
  · rcases hin with rfl | rfl | rfl | rfl | rfl | rfl
    all_goals
      refine FCon.intro (PMr [1]) _ Tryz.func186 (by kernel_rfl) rfl _ Tryz.ntmps186 rfl [(1, 28, [], [], (lin [] [0, 1, 2, 3, 4, 5, 6, 7, 8, 9, 10, 11, 12, 13, 14, 15, 16, 17, 18, 19, 20, 21, 22, 23, 24, 25, 26, 27]))] (by decide +kernel) (by simp) (by simp) rfl (by first | rfl | simp only [go_sem]) ?_
      (have hWf := WFx.mk (ai @DPNode.enc_eq <| ai @iE_eq <| ai @g1 <| @g2); repeat' (first | refine zS ?_ | exact zE | with_reducible apply And.intro | ((with_reducible apply q_CallG); refine zG (c_l04ConOk s hs _ _) ?_) | ((with_reducible apply q_CallQ); refine CallQ_mk (c_l04ConOk s hs _ _) ?_) | refine zK (c_specNameOk s hs) ?_ | with_reducible exact zB0 | with_reducible refine zB fun hb => ?_ | exact zC | refine zT ?_ | fail))
      all_goals exact sB (by unfold pnodeB; first | (simp_all; done) | grind)
theorem l04P_K (xs : List DPNode) (hl : xs.length ≤ 1048576) (kind n : Int) (s : ByteArray) (hs : s.size ≤ maxLen) (k : Nat) (hk : k < xs.length) : FCon Tryz.prog 186 [.ag [.sl 4 (xs.map DPNode.enc)], .ag (DPNode.mk kind n s [(k : Int)]).enc] (fun r _ => r = .s (.bool (pnodeB (xs[k].kind == 5) ⟨kind, n, s, [(k : Int)]⟩))) := by
  have g1 := geB (Int.natCast_nonneg k)
  have g2 := decide_eq_true (show (k : Int) < xs.length by omega)
  have g3 := getD_map DPNode.enc xs k hk
  have g4 := DPNode.enc_eq xs[k]
  rcases (show (kind < 1 ∨ 6 < kind) ∨ kind = 1 ∨ kind = 2 ∨ kind = 3 ∨ kind = 4 ∨ kind = 5 ∨ kind = 6 by omega) with hr | hin
  · have e1 : (kind == 1) = false := by simp; omega
    have e2 : (kind == 2) = false := by simp; omega
    have e3 : (kind == 3) = false := by simp; omega
    have e4 : (kind == 4) = false := by simp; omega
    have e5 : (kind == 5) = false := by simp; omega
    have e6 : (kind == 6) = false := by simp; omega
    rw [pnode_out (by exact hr)]
    refine FCon.intro (PMr [1]) _ Tryz.func186 (by kernel_rfl) rfl _ Tryz.ntmps186 rfl [(1, 28, [], [], (lin [] [0, 1, 2, 3, 4, 5, 6, 7, 8, 9, 10, 11, 12, 13, 14, 15, 16, 17, 18, 19, 20, 21, 22, 23, 24, 25, 26, 27]))] (by decide +kernel) (by simp) (by simp) rfl (by first | rfl | simp only [go_sem]) ?_
    (have hWf := WFx.mk (ai @DPNode.enc_eq <| ai @iE_eq <| ai @g1 <| ai @g2 <| ai @g3 <| ai @g4 <| ai @e1 <| ai @e2 <| ai @e3 <| ai @e4 <| ai @e5 <| @e6); repeat' (first | refine zS ?_ | exact zE | with_reducible apply And.intro | with_reducible exact zB0 | with_reducible refine zB fun hb => ?_ | exact zC | refine zT ?_ | fail))
  · rcases hin with rfl | rfl | rfl | rfl | rfl | rfl
    all_goals
      refine FCon.intro (PMr [1]) _ Tryz.func186 (by kernel_rfl) rfl _ Tryz.ntmps186 rfl [(1, 28, [], [], (lin [] [0, 1, 2, 3, 4, 5, 6, 7, 8, 9, 10, 11, 12, 13, 14, 15, 16, 17, 18, 19, 20, 21, 22, 23, 24, 25, 26, 27]))] (by decide +kernel) (by simp) (by simp) rfl (by first | rfl | simp only [go_sem]) ?_
      (have hWf := WFx.mk (ai @DPNode.enc_eq <| ai @iE_eq <| ai @g1 <| ai @g2 <| ai @g3 <| @g4); repeat' (first | refine zS ?_ | exact zE | with_reducible apply And.intro | ((with_reducible apply q_CallG); refine zG (c_l04ConOk s hs _ _) ?_) | ((with_reducible apply q_CallQ); refine CallQ_mk (c_l04ConOk s hs _ _) ?_) | refine zK (c_specNameOk s hs) ?_ | with_reducible exact zB0 | with_reducible refine zB fun hb => ?_ | exact zC | refine zT ?_ | fail))
      all_goals exact sB (by unfold pnodeB; first | (simp_all; done) | grind)
theorem l04P_L (xs : List DPNode) (hl : xs.length ≤ 1048576) (kind n : Int) (s : ByteArray) (hs : s.size ≤ maxLen) (a b : Int) (l : List Int) (hkl : l.length ≤ 1048576) : FCon Tryz.prog 186 [.ag [.sl 4 (xs.map DPNode.enc)], .ag (DPNode.mk kind n s (a :: b :: l)).enc] (fun r _ => r = .s (.bool (pnodeB false ⟨kind, n, s, (a :: b :: l)⟩))) := by
  have g1 : (((l.length + 1 + 1 : Nat) : Int) == 1) = false := by simp; omega
  rcases (show (kind < 1 ∨ 6 < kind) ∨ kind = 1 ∨ kind = 2 ∨ kind = 3 ∨ kind = 4 ∨ kind = 5 ∨ kind = 6 by omega) with hr | hin
  · have e1 : (kind == 1) = false := by simp; omega
    have e2 : (kind == 2) = false := by simp; omega
    have e3 : (kind == 3) = false := by simp; omega
    have e4 : (kind == 4) = false := by simp; omega
    have e5 : (kind == 5) = false := by simp; omega
    have e6 : (kind == 6) = false := by simp; omega
    rw [pnode_out (by exact hr)]
    refine FCon.intro (PMr [1]) _ Tryz.func186 (by kernel_rfl) rfl _ Tryz.ntmps186 rfl [(1, 28, [], [], (lin [] [0, 1, 2, 3, 4, 5, 6, 7, 8, 9, 10, 11, 12, 13, 14, 15, 16, 17, 18, 19, 20, 21, 22, 23, 24, 25, 26, 27]))] (by decide +kernel) (by simp) (by simp) rfl (by first | rfl | simp only [go_sem]) ?_
    (have hWf := WFx.mk (ai @DPNode.enc_eq <| ai @iE_eq <| ai @g1 <| ai @e1 <| ai @e2 <| ai @e3 <| ai @e4 <| ai @e5 <| @e6); repeat' (first | refine zS ?_ | exact zE | with_reducible apply And.intro | with_reducible exact zB0 | with_reducible refine zB fun hb => ?_ | exact zC | refine zT ?_ | fail))
  · rcases hin with rfl | rfl | rfl | rfl | rfl | rfl
    all_goals
      refine FCon.intro (PMr [1]) _ Tryz.func186 (by kernel_rfl) rfl _ Tryz.ntmps186 rfl [(1, 28, [], [], (lin [] [0, 1, 2, 3, 4, 5, 6, 7, 8, 9, 10, 11, 12, 13, 14, 15, 16, 17, 18, 19, 20, 21, 22, 23, 24, 25, 26, 27]))] (by decide +kernel) (by simp) (by simp) rfl (by first | rfl | simp only [go_sem]) ?_
      (have hWf := WFx.mk (ai @DPNode.enc_eq <| ai @iE_eq <| @g1); repeat' (first | refine zS ?_ | exact zE | with_reducible apply And.intro | ((with_reducible apply q_CallG); refine zG (c_l04ConOk s hs _ _) ?_) | ((with_reducible apply q_CallQ); refine CallQ_mk (c_l04ConOk s hs _ _) ?_) | refine zK (c_specNameOk s hs) ?_ | with_reducible exact zB0 | with_reducible refine zB fun hb => ?_ | exact zC | refine zT ?_ | fail))
      all_goals exact sB (by unfold pnodeB; first | (simp_all; done) | grind)
theorem c_l04PNode (xs : List DPNode) (x : DPNode) (hx : x.ok) (hl : xs.length ≤ 1048576) (hkl : x.kids.length ≤ 1048576) : FCon Tryz.prog 186 [.ag [.sl 4 (xs.map DPNode.enc)], .ag x.enc] (fun r _ => r = .s (.bool (pnodeM xs x))) := by
  obtain ⟨kind, n, s, kids⟩ := x
  obtain ⟨-, -, hs, -⟩ := hx
  dsimp only at hkl hs
  show FCon Tryz.prog 186 _ (fun r _ => r = .s (.bool (pnodeB (pairP xs kids) ⟨kind, n, s, kids⟩)))
  match kids, hkl with
  | [], _ => exact l04P_N xs hl kind n s hs
  | [z], _ =>
    by_cases h0 : z < 0
    · rw [pairP_out xs [z] rfl (.inl h0)]
      exact l04P_B xs hl kind n s hs z (decide_eq_false (by omega))
    · by_cases h1 : (xs.length : Int) ≤ z
      · rw [pairP_out xs [z] rfl (.inr h1)]
        exact l04P_O xs hl kind n s hs z (decide_eq_true (by omega)) (decide_eq_false (by omega))
      · have hk : z.toNat < xs.length := by omega
        obtain ⟨k, rfl⟩ : ∃ k : Nat, z = (k : Int) := ⟨z.toNat, by omega⟩
        have hk : k < xs.length := by omega
        rw [pairP_at xs [(k : Int)] rfl k hk rfl]
        exact l04P_K xs hl kind n s hs k hk
  | a :: b :: l, hkl =>
    rw [pairP_no _ _ (by simp)]
    exact l04P_L xs hl kind n s hs a b l (by simp at hkl; omega)
end Go.Proofs.YtgcdbmcoendcdaaGreat

namespace Go.Proofs.YtgcdbmcoendcdaaGreat
set_option linter.unusedVariables false
set_option linter.unusedSimpArgs false
open Go.RowKit
theorem c_l04PEnd (xs : List DPNode) (hl : xs.length ≤ 1000000000) (hks : ∀ x ∈ xs, x.kids.length ≤ 1000000000) :
    ∀ (N m : Nat), xs.length - m ≤ N → m ≤ 2000000000 → FCon Tryz.prog 187 [.ag [.sl 4 (xs.map DPNode.enc)], .s (.int .i64 m)] (fun r _ => r = .s (.int .i64 (endZ (pEnd (kidsP xs) N m)))) := by
  have hlen : (kidsP xs).length = xs.length := by simp
  have out : ∀ (N m : Nat), xs.length ≤ m → m ≤ 2000000000 → FCon Tryz.prog 187 [.ag [.sl 4 (xs.map DPNode.enc)], .s (.int .i64 m)] (fun r _ => r = .s (.int .i64 (endZ (pEnd (kidsP xs) N m)))) := by
    intro N m hm hm2
    rw [pEnd_out _ _ _ (by rw [hlen]; exact hm)]
    refine FCon.intro PM _ Tryz.func187 (by kernel_rfl) rfl _ Tryz.ntmps187 rfl [] (by decide +kernel) (by simp) (by simp) rfl (by first | rfl | simp only [go_sem]) ?_
    (have hWf := f0; repeat' (first | refine zS ?_ | exact zE | with_reducible apply And.intro | with_reducible exact zB0 | with_reducible refine zB fun hb => ?_ | exact zC | refine zT ?_ | fail))
    all_goals (try rfl)
  intro N
  induction N with
  | zero => intro m hm hm2; exact out 0 m (by omega) hm2
  | succ N ih =>
    intro m hm hm2
    by_cases hlt : m < xs.length
    · have hx := getD_map DPNode.enc xs m hlt
      have he := DPNode.enc_eq xs[m]
      have hkl := hks _ (List.getElem_mem hlt)
      rw [pEnd_at _ _ _ (by rw [hlen]; exact hlt)]
      have hka : (kidsP xs)[m]'(by rw [hlen]; exact hlt) = xs[m].kids := by simp [kidsP]
      rw [hka]
      obtain ⟨R, hR⟩ : ∃ R, pKids (pEnd (kidsP xs) N) xs[m].kids (m + 1) = R := ⟨_, rfl⟩
      rw [hR]
      refine FCon.intro PM _ Tryz.func187 (by kernel_rfl) rfl _ Tryz.ntmps187 rfl [] (by decide +kernel) (by simp) (by simp) rfl (by first | rfl | simp only [go_sem]) ?_
      (have hWf := WFx.mk (ai @hx <| @he); repeat' (first | refine zS ?_ | exact zE | with_reducible apply And.intro | with_reducible exact zB0 | with_reducible refine zB fun hb => ?_ | exact zC | refine zT ?_ | fail))
      refine AC_loop (fun n σ => ∃ j cur : Nat, j ≤ xs[m].kids.length ∧ n = xs[m].kids.length - j ∧ m < cur ∧ cur ≤ 2000000000 ∧ pKids (pEnd (kidsP xs) N) (xs[m].kids.drop j) cur = R ∧ σ.t 2 = .bx 2 0 ∧ σ.b 2 = some (.box [.sl 4 (xs.map DPNode.enc)]) ∧ σ.t 5 = .s (.int .i64 cur) ∧ σ.t 20 = intsD xs[m].kids ∧ σ.t 21 = .s (.int .i64 xs[m].kids.length) ∧ σ.t 22 = .s (.int .i64 j)) xs[m].kids.length ⟨0, m + 1, by omega, by omega, by omega, by omega, by rw [List.drop_zero]; exact hR, ?_⟩ ?_
      · simp only [go_sem, simprocAttr]
        simp
      · rintro n σ ⟨j, cur, hj, rfl, hcur, hc2, hp, h2, hb2, h5, h20, h21, h22⟩ K' hK
        by_cases hjl : j < xs[m].kids.length
        · have gx := getD_map iE xs[m].kids j hjl
          rw [drop_cons _ j hjl, pKids_cons] at hp
          by_cases hkc : xs[m].kids[j] = (cur : Int)
          · have hw : walkR (kidsP xs) N xs[m].kids[j] cur = pEnd (kidsP xs) N cur := by unfold walkR; rw [if_pos hkc]
            rw [hw] at hp
            have hkn : ((cur : Int) != (cur : Int)) = false := bne_self_eq_false _
            have hcc := ih cur (by omega) hc2
            cases hq : pEnd (kidsP xs) N cur with
            | none =>
              rw [hq] at hcc hp
              have hcc : FCon Tryz.prog 187 [.ag [.sl 4 (xs.map DPNode.enc)], .s (.int .i64 cur)] (fun r _ => r = .s (.int .i64 (-1))) := hcc
              (have hWf := WFx.mk (ai @h2 <| ai @hb2 <| ai @h5 <| ai @h20 <| ai @h21 <| ai @h22 <| ai @gx <| ai @iE_eq <| ai @hkc <| @hkn); repeat' (first | refine zS ?_ | exact zE | with_reducible apply And.intro | refine zK (hcc) ?_ | with_reducible exact zB0 | with_reducible refine zB fun hb => ?_ | exact zC | refine zT ?_ | fail))
              all_goals (rw [← hp]; rfl)
            | some e1 =>
              rw [hq] at hcc hp
              have hcc : FCon Tryz.prog 187 [.ag [.sl 4 (xs.map DPNode.enc)], .s (.int .i64 cur)] (fun r _ => r = .s (.int .i64 (e1 : Int))) := hcc
              have hbd := pEnd_bd _ _ _ _ hq
              rw [hlen] at hbd
              (have hWf := WFx.mk (ai @h2 <| ai @hb2 <| ai @h5 <| ai @h20 <| ai @h21 <| ai @h22 <| ai @gx <| ai @iE_eq <| ai @hkc <| @hkn); repeat' (first | refine zS ?_ | exact zE | with_reducible apply And.intro | refine zK (hcc) ?_ | with_reducible exact zB0 | with_reducible refine zB fun hb => ?_ | exact zC | refine zT ?_ | fail))
              refine hK (xs[m].kids.length - (j + 1)) _ (by omega) ⟨j + 1, e1, by omega, rfl, by omega, by omega, hp, ?_⟩
              simp only [go_sem, simprocAttr, h2, hb2, h5, h20, h21, h22]
              simp
          · have hw : walkR (kidsP xs) N xs[m].kids[j] cur = none := by unfold walkR; rw [if_neg hkc]
            rw [hw] at hp
            have hne : (xs[m].kids[j] != (cur : Int)) = true := by simpa using hkc
            (have hWf := WFx.mk (ai @h2 <| ai @hb2 <| ai @h5 <| ai @h20 <| ai @h21 <| ai @h22 <| ai @gx <| ai @iE_eq <| @hne); repeat' (first | refine zS ?_ | exact zE | with_reducible apply And.intro | with_reducible exact zB0 | with_reducible refine zB fun hb => ?_ | exact zC | refine zT ?_ | fail))
            all_goals (rw [← hp]; rfl)
        · obtain rfl : j = xs[m].kids.length := by omega
          rw [List.drop_eq_nil_of_le (Nat.le_refl _)] at hp
          (have hWf := WFx.mk (ai @h2 <| ai @hb2 <| ai @h5 <| ai @h20 <| ai @h21 <| @h22); repeat' (first | refine zS ?_ | exact zE | with_reducible apply And.intro | with_reducible exact zB0 | with_reducible refine zB fun hb => ?_ | exact zC | refine zT ?_ | fail))
          rw [← hp]; rfl
    · exact out (N + 1) m (by omega) hm2
theorem c_specPatOk (xs : List DPNode) (ho : ∀ x ∈ xs, x.ok) (hs : smS DPNode.sm xs) : FCon Tryz.prog 114 [.ag [.sl 4 (xs.map DPNode.enc)]] (fun r _ => r = .s (.bool (patM xs))) := by
  have hl := hs.1
  have hkl : ∀ x ∈ xs, x.kids.length ≤ 1048576 := fun x hx => (hs.2 x hx).2.1
  by_cases h600 : 1 ≤ xs.length ∧ xs.length ≤ 600
  · obtain ⟨h6, h7⟩ := h600
    refine FCon.intro PM _ Tryz.func114 (by kernel_rfl) rfl _ Tryz.ntmps114 rfl [(11, 21, [], [], (lin [] [0, 1, 2, 3, 4, 5, 6, 7, 8, 9, 10, 11, 12, 13, 14, 15, 16, 17, 18, 19, 20])), (14, 5, [], [], (lin [] [0, 1, 2, 3, 4]))] (by decide +kernel) (by simp) (by simp) rfl (by first | rfl | simp only [go_sem]) ?_
    (have hWf := f0; repeat' (first | refine zS ?_ | exact zE | with_reducible apply And.intro | with_reducible exact zB0 | with_reducible refine zB fun hb => ?_ | exact zC | refine zT ?_ | fail))
    refine AC_loop (fun n σ => ∃ k : Nat, k ≤ xs.length ∧ n = xs.length - k ∧ σ.t 1 = .bx 1 0 ∧ σ.b 1 = some (.box [.sl 4 (xs.map DPNode.enc)]) ∧ σ.t 17 = .sl 4 (xs.map DPNode.enc) ∧ σ.t 18 = .s (.int .i64 xs.length) ∧ σ.t 19 = .s (.int .i64 k) ∧ ∀ j (hj : j < xs.length), j < k → goodAt xs j hj = true) xs.length ⟨0, by omega, by omega, ?_⟩ ?_
    · simp only [go_sem, simprocAttr, Int.natCast_zero]
      simp
    · rintro n σ ⟨k, hk, rfl, h1, hb1, h17, h18, h19, hg⟩ K' hK
      by_cases hlt : k < xs.length
      · have hx := getD_map DPNode.enc xs k hlt
        have he := DPNode.enc_eq xs[k]
        have hmem := List.getElem_mem hlt
        have hn := c_l04PNode xs xs[k] (ho _ hmem) hl (hkl _ hmem)
        cases hpn : pnodeM xs xs[k] with
        | false =>
          rw [hpn] at hn
          (have hWf := WFx.mk (ai @h1 <| ai @hb1 <| ai @h17 <| ai @h18 <| ai @h19 <| ai @hx <| @he); repeat' (first | refine zS ?_ | exact zE | with_reducible apply And.intro | refine zK (hn) ?_ | with_reducible exact zB0 | with_reducible refine zB fun hb => ?_ | exact zC | refine zT ?_ | fail))
          all_goals exact sB (patM_bad hlt (good_false1 hlt hpn)).symm
        | true =>
          rw [hpn] at hn
          (have hWf := WFx.mk (ai @h1 <| ai @hb1 <| ai @h17 <| ai @h18 <| ai @h19 <| ai @hx <| @he); repeat' (first | refine zS ?_ | exact zE | with_reducible apply And.intro | refine zK (hn) ?_ | with_reducible exact zB0 | with_reducible refine zB fun hb => ?_ | exact zC | refine zT ?_ | fail))
          refine AC_loop (fun n σ => ∃ j : Nat, j ≤ k ∧ n = k - j ∧ σ.t 1 = .bx 1 0 ∧ σ.b 1 = some (.box [.sl 4 (xs.map DPNode.enc)]) ∧ σ.t 3 = .s (.int .i64 k) ∧ σ.t 4 = .bx 4 0 ∧ σ.b 4 = some (.box [.s (.int .i64 xs[k].kind), .s (.int .i64 xs[k].n), .s (.string xs[k].s), .sl 1 (xs[k].kids.map iE)]) ∧ σ.t 5 = .s (.int .i64 j) ∧ σ.t 17 = .sl 4 (xs.map DPNode.enc) ∧ σ.t 18 = .s (.int .i64 xs.length) ∧ σ.t 19 = .s (.int .i64 k) ∧ ∀ i (hi : i < j) (hk : i < xs.length), dupB xs[i] xs[k] = false) k ⟨0, by omega, by omega, ?_⟩ ?_
          · simp only [go_sem, simprocAttr, h1, hb1, h17, h18, h19, Int.natCast_zero]
            simp
          · rintro n σ ⟨j, hj, rfl, g1, gb1, g3, g4, gb4, g5, g17, g18, g19, hno⟩ K'' hK''
            by_cases hjl : j < k
            · have gx := getD_map DPNode.enc xs j (by omega)
              have ge := DPNode.enc_eq (xs[j]'(by omega))
              (have hWf := WFx.mk (ai @g1 <| ai @gb1 <| ai @g3 <| ai @g4 <| ai @gb4 <| ai @g5 <| ai @g17 <| ai @g18 <| ai @g19 <| ai @gx <| @ge); repeat' (first | refine zS ?_ | exact zE | with_reducible apply And.intro | with_reducible exact zB0 | with_reducible refine zB fun hb => ?_ | exact zC | refine zT ?_ | fail))
              · exact fun h => ⟨h, h, by omega, by omega⟩
              · exact fun h => ⟨h, h, by omega, by omega⟩
              · refine sB (patM_bad hlt (good_false2 hlt hjl ?_)).symm
                unfold dupB
                rw [hb.1.1, hb.1.2, toL_inj hb.2]; simp
              · refine hK'' (k - (j + 1)) _ (by omega) ⟨j + 1, by omega, rfl, ?_⟩
                simp only [go_sem, simprocAttr, g1, gb1, g3, g4, gb4, g17, g18, g19, Int.natCast_succ]
                intro i hi hik
                rcases Nat.lt_or_ge i j with q | q
                · exact hno i q hik
                · obtain rfl : i = j := by omega
                  unfold dupB
                  rcases hb with (hb | hb) | hb
                  · rw [show (xs[k].kind == 2) = false by simpa using hb]; rfl
                  · rw [show (xs[i].kind == 2) = false by simpa using hb]; simp
                  · rw [decide_eq_false (fun e => hb (by rw [e]))]; simp
            · obtain rfl : j = k := by omega
              (have hWf := WFx.mk (ai @g1 <| ai @gb1 <| ai @g3 <| ai @g4 <| ai @gb4 <| ai @g5 <| ai @g17 <| ai @g18 <| @g19); repeat' (first | refine zS ?_ | exact zE | with_reducible apply And.intro | with_reducible exact zB0 | with_reducible refine zB fun hb => ?_ | exact zC | refine zT ?_ | fail))
              refine hK (xs.length - (j + 1)) _ (by omega) ⟨j + 1, by omega, rfl, ?_⟩
              simp only [go_sem, simprocAttr, g1, gb1, g17, g18, g19, Int.natCast_succ]
              exact good_upto hg hlt (good_true hlt hpn fun i hi => hno i hi (by omega))
      · obtain rfl : k = xs.length := by omega
        (have hWf := WFx.mk (ai @h1 <| ai @hb1 <| ai @h17 <| ai @h18 <| @h19); repeat' (first | refine zS ?_ | exact zE | with_reducible apply And.intro | ((with_reducible apply q_CallG); refine zG (c_l04PEnd xs (by omega) (fun x hx => by have := hkl x hx; omega) xs.length 0 (by omega) (by omega)) ?_) | ((with_reducible apply q_CallQ); refine CallQ_mk (c_l04PEnd xs (by omega) (fun x hx => by have := hkl x hx; omega) xs.length 0 (by omega) (by omega)) ?_) | with_reducible exact zB0 | with_reducible refine zB fun hb => ?_ | exact zC | refine zT ?_ | fail))
        refine sB ?_
        have hall : (List.finRange xs.length).all (fun i => goodAt xs i.1 i.2) = true := fin_all.2 fun i => hg i.1 i.2 i.2
        unfold patM
        rw [hall, decide_eq_true h6, decide_eq_true h7, endZ_len]
        unfold orderM
        rw [kidsP_len]; rfl
  · have hb : patM xs = false := by
      unfold patM
      by_cases q : 1 ≤ xs.length
      · rw [decide_eq_false (p := xs.length ≤ 600) (by omega)]; simp
      · rw [decide_eq_false q]; simp
    rw [hb]
    refine FCon.intro PM _ Tryz.func114 (by kernel_rfl) rfl _ Tryz.ntmps114 rfl [(11, 21, [], [], (lin [] [0, 1, 2, 3, 4, 5, 6, 7, 8, 9, 10, 11, 12, 13, 14, 15, 16, 17, 18, 19, 20])), (14, 5, [], [], (lin [] [0, 1, 2, 3, 4]))] (by decide +kernel) (by simp) (by simp) rfl (by first | rfl | simp only [go_sem]) ?_
    by_cases q : xs.length < 1
    · have e1 : decide ((xs.length : Int) < 1) = true := decide_eq_true (by omega)
      (have hWf := WFx.mk @e1; repeat' (first | refine zS ?_ | exact zE | with_reducible apply And.intro | with_reducible exact zB0 | with_reducible refine zB fun hb => ?_ | exact zC | refine zT ?_ | fail))
    · have e1 : decide ((xs.length : Int) < 1) = false := decide_eq_false (by omega)
      have e2 : decide ((xs.length : Int) > 600) = true := decide_eq_true (by omega)
      (have hWf := WFx.mk (ai @e1 <| @e2); repeat' (first | refine zS ?_ | exact zE | with_reducible apply And.intro | with_reducible exact zB0 | with_reducible refine zB fun hb => ?_ | exact zC | refine zT ?_ | fail))
theorem c_implPatOk (xs : List DPNode) (ho : ∀ x ∈ xs, x.ok) (hs : smS DPNode.sm xs) : FCon Tryz.prog 46 [.ag [.sl 4 (xs.map DPNode.enc)]] (fun r _ => r = .s (.bool (patM xs))) := by
  have hl := hs.1
  have hkl : ∀ x ∈ xs, x.kids.length ≤ 1048576 := fun x hx => (hs.2 x hx).2.1
  refine FCon.intro PM _ Tryz.func46 (by kernel_rfl) rfl _ Tryz.ntmps46 rfl [] (by decide +kernel) (by simp) (by simp) rfl (by first | rfl | simp only [go_sem]) ?_
  (refine AC_go ?_; simp only [go_sem, simprocAttr]; (have hWf := f0; repeat' (first | refine zY ?_ | with_reducible apply And.intro | with_reducible exact zB0 | with_reducible refine zB fun hb => ?_ | exact zC | refine zT ?_ | fail)))
  refine AC_fr 1 (.box [.sl 4 (xs.map DPNode.enc)]) (by simp only [go_sem, simprocAttr]) rfl ?_
  (have hWf := f0; repeat' (first | refine zS ?_ | exact zE | with_reducible apply And.intro | refine zK (c_within xs.length 1 600) ?_ | ((with_reducible apply q_CallG); refine zG (c_inOrderP xs ho (by omega) (fun x hx => by have := hkl x hx; omega)) ?_) | ((with_reducible apply q_CallQ); refine CallQ_mk (c_inOrderP xs ho (by omega) (fun x hx => by have := hkl x hx; omega)) ?_) | with_reducible exact zB0 | with_reducible refine zB fun hb => ?_ | exact zC | refine zT ?_ | fail))
  · refine sB ?_
    unfold patM
    rcases hb with (hb | hb) | hb
    · rw [decide_eq_false (by omega : ¬ 1 ≤ xs.length)]; rfl
    · rw [decide_eq_false (by omega : ¬ xs.length ≤ 600)]; simp
    · rw [hb]; simp
  · obtain ⟨⟨h6, h7⟩, hord⟩ : (1 ≤ xs.length ∧ xs.length ≤ 600) ∧ orderM (kidsP xs) = true := by
      exact ⟨⟨by omega, by omega⟩, hb.2⟩
    refine AC_loop (fun n σ => ∃ (k : Nat) (ns : List ByteArray), k ≤ xs.length ∧ n = xs.length - k ∧ NamesAt xs k ns ∧ σ.t 1 = .pt [.sl 4 (xs.map DPNode.enc)] ∧ σ.t 3 = .bs 19 1 ns.length ∧ σ.b 19 = some (.arr 9 1 (ns.map stE)) ∧ σ.t 21 = .sl 4 (xs.map DPNode.enc) ∧ σ.t 22 = .s (.int .i64 xs.length) ∧ σ.t 23 = .s (.int .i64 k) ∧ ∀ j (hj : j < xs.length), j < k → goodAt xs j hj = true) xs.length ⟨0, [], by omega, by omega, NamesAt.zero xs, ?_⟩ ?_
    · simp only [go_sem, simprocAttr, Int.natCast_zero]
      simp
    · rintro n σ ⟨k, ns, hk, rfl, hns, h1, h3, hb3, h21, h22, h23, hg⟩ K' hK
      have hnl := hns.1
      by_cases hlt : k < xs.length
      · have hx := getD_map DPNode.enc xs k hlt
        have he := DPNode.enc_eq xs[k]
        have hmem := List.getElem_mem hlt
        have hn := c_patNodeOk xs xs[k] (ho _ hmem) (hkl _ hmem) (fun h1 => order_inP hord k hlt h1)
        cases hpn : pnodeM xs xs[k] with
        | false =>
          rw [hpn] at hn
          (have hWf := WFx.mk (ai @h1 <| ai @h3 <| ai @hb3 <| ai @h21 <| ai @h22 <| ai @h23 <| ai @hx <| ai @he <| @stE_frz); repeat' (first | refine zS ?_ | exact zE | with_reducible apply And.intro | refine zK (hn) ?_ | refine zK (c_Contains_str ns xs[k].s) ?_ | with_reducible exact zB0 | with_reducible refine zB fun hb => ?_ | exact zC | refine zT ?_ | fail))
          all_goals exact sB (patM_bad hlt (good_false1 hlt hpn)).symm
        | true =>
          rw [hpn] at hn
          cases h2 : (xs[k].kind == 2) with
          | false =>
            have h2' : xs[k].kind ≠ 2 := by simpa using h2
            (have hWf := WFx.mk (ai @h1 <| ai @h3 <| ai @hb3 <| ai @h21 <| ai @h22 <| ai @h23 <| ai @hx <| ai @he <| ai @h2 <| @stE_frz); repeat' (first | refine zS ?_ | exact zE | with_reducible apply And.intro | refine zK (hn) ?_ | refine zK (c_Contains_str ns xs[k].s) ?_ | with_reducible exact zB0 | with_reducible refine zB fun hb => ?_ | exact zC | refine zT ?_ | fail))
            refine hK (xs.length - (k + 1)) _ (by omega) ⟨k + 1, ns, by omega, rfl, hns.skip hlt h2', ?_⟩
            simp only [go_sem, simprocAttr, h1, h3, hb3, h21, h22, Int.natCast_succ]
            exact good_upto hg hlt (hns.none hlt hpn fun h => absurd h h2')
          | true =>
            have h2' : xs[k].kind = 2 := by simpa using h2
            cases hi : inL xs[k].s ns with
            | true =>
              (have hWf := WFx.mk (ai @h1 <| ai @h3 <| ai @hb3 <| ai @h21 <| ai @h22 <| ai @h23 <| ai @hx <| ai @he <| ai @h2 <| ai @hi <| @stE_frz); repeat' (first | refine zS ?_ | exact zE | with_reducible apply And.intro | refine zK (hn) ?_ | refine zK (c_Contains_str ns xs[k].s) ?_ | with_reducible exact zB0 | with_reducible refine zB fun hb => ?_ | exact zC | refine zT ?_ | fail))
              all_goals exact sB (patM_bad hlt (hns.dup hlt h2' hi)).symm
            | false =>
              (have hWf := WFx.mk (ai @h1 <| ai @h3 <| ai @hb3 <| ai @h21 <| ai @h22 <| ai @h23 <| ai @hx <| ai @he <| ai @h2 <| ai @hi <| @stE_frz); repeat' (first | refine zS ?_ | exact zE | with_reducible apply And.intro | refine zK (hn) ?_ | refine zK (c_Contains_str ns xs[k].s) ?_ | with_reducible exact zB0 | with_reducible refine zB fun hb => ?_ | exact zC | refine zT ?_ | fail))
              refine hK (xs.length - (k + 1)) _ (by omega) ⟨k + 1, ns ++ [xs[k].s], by omega, rfl, hns.add hlt h2', ?_⟩
              simp only [go_sem, simprocAttr, h1, h3, hb3, h21, h22, Int.natCast_succ, List.map_append, List.length_append, stE_eq]
              exact good_upto hg hlt (hns.none hlt hpn fun _ => hi)
      · obtain rfl : k = xs.length := by omega
        (have hWf := WFx.mk (ai @h1 <| ai @h3 <| ai @hb3 <| ai @h21 <| ai @h22 <| @h23); repeat' (first | refine zS ?_ | exact zE | with_reducible apply And.intro | with_reducible exact zB0 | with_reducible refine zB fun hb => ?_ | exact zC | refine zT ?_ | fail))
        refine sB ?_
        have hall : (List.finRange xs.length).all (fun i => goodAt xs i.1 i.2) = true := fin_all.2 fun i => hg i.1 i.2 i.2
        unfold patM
        rw [hall, decide_eq_true h6, decide_eq_true h7, hord]; rfl
end Go.Proofs.YtgcdbmcoendcdaaGreat

namespace Go.Proofs.YtgcdbmcoendcdaaGreat
set_option linter.unusedVariables false
set_option linter.unusedSimpArgs false
open Arb
structure PI where
  kind : Int
  n : Int
  s : ByteArray
abbrev PT := Arb PI
def PI.node (a : PI) (l : List Int) : DPNode := ⟨a.kind, a.n, a.s, l⟩
def DPNode.inf (x : DPNode) : PI := ⟨x.kind, x.n, x.s⟩
theorem PI.node_inf (x : DPNode) : x.inf.node x.kids = x := rfl
theorem PI.node_inj (x y : PI) (k l : List Int) (h : x.node k = y.node l) : x = y ∧ k = l := by
  obtain ⟨a, b, c⟩ := x
  obtain ⟨a', b', c'⟩ := y
  simp only [PI.node, DPNode.mk.injEq] at h
  obtain ⟨rfl, rfl, rfl, rfl⟩ := h
  exact ⟨rfl, rfl⟩
inductive PV (a : PI) (l : List PT) : Prop where
  | wild : a.kind = 1 → l = [] → a.n = 0 → a.s.toList = [] → PV a l
  | var : a.kind = 2 → l = [] → a.n = 0 → nameM a.s = true → PV a l
  | int : a.kind = 3 → l = [] → -4611686018427387903 ≤ a.n → a.n ≤ 4611686018427387903 → a.s.toList = [] → PV a l
  | con0 : a.kind = 4 → l = [] → a.n = 0 → shapeM a.s 0 false = true → PV a l
  | cons (b : PI) (x y : PT) : a.kind = 4 → l = [.mk b [x, y]] → a.n = 0 → b.kind = 5 → a.s.toList = [58, 58] → PV a l
  | con1 (x : PT) : a.kind = 4 → l = [x] → a.n = 0 → conM a.s.data.toList = true → PV a l
  | pair (x y : PT) : a.kind = 5 → l = [x, y] → a.n = 0 → a.s.toList = [] → PV a l
  | unit : a.kind = 6 → l = [] → a.n = 0 → a.s.toList = [] → PV a l
abbrev okP (t : PT) : Prop := All PV t
theorem pairP_idx {xs : List DPNode} {m : Nat} {b : PI} {l : List PT} (h : At PI.node xs m (.mk b l)) : pairP xs (idxs m [.mk b l]) = (b.kind == 5) := by
  obtain ⟨hm, he⟩ := List.getElem?_eq_some_iff.1 h.root
  rw [pairP_at xs _ (by simp [idxs]) m hm (by simp [idxs]), he]; rfl
theorem shapeM_0' {s : ByteArray} {p : Bool} (h : shapeM s 0 p = true) : shapeM s 0 false = true := by
  unfold shapeM at h ⊢
  split
  · rfl
  · rename_i h1
    rw [if_neg h1] at h
    split
    · rename_i h2; rw [if_pos h2] at h; simp at h
    · rename_i h2; rw [if_neg h2] at h; exact h
theorem pview_of {xs : List DPNode} (hg : ∀ k (h : k < xs.length), pnodeM xs xs[k] = true) {m : Nat} {a : PI} {l : List PT} (h : At PI.node xs m (.mk a l)) : PV a l := by
  have np : ∀ {m : Nat} {a : PI} {l : List PT}, At PI.node xs m (.mk a l) → pnodeB (pairP xs (idxs (m + 1) l)) (a.node (idxs (m + 1) l)) = true := fun h => by
    obtain ⟨hm, he⟩ := List.getElem?_eq_some_iff.1 h.root
    have := hg _ hm
    rw [he] at this
    exact this
  have N := np h
  have hk := h.kids
  unfold pnodeB PI.node at N
  simp only [idxs_len] at N
  have nil : ((l.length : Nat) : Int) = 0 → l = [] := fun h => List.eq_nil_of_length_eq_zero (by omega)
  split at N
  · rename_i k
    simp only [Bool.and_eq_true, beq_iff_eq, decide_eq_true_eq, List.isEmpty_iff] at N
    exact .int k (nil N.1.1) N.2.1 N.2.2 N.1.2
  split at N
  · rename_i k
    simp only [Bool.and_eq_true, beq_iff_eq, decide_eq_true_eq, List.isEmpty_iff] at N
    exact .var k (nil N.1.1) N.1.2 N.2
  split at N
  · rename_i k
    simp only [Bool.and_eq_true, beq_iff_eq, decide_eq_true_eq, List.isEmpty_iff] at N
    rcases k with k | k
    · exact .unit k (nil N.1.1) N.1.2 N.2
    · exact .wild k (nil N.1.1) N.1.2 N.2
  split at N
  · rename_i k
    simp only [Bool.and_eq_true, beq_iff_eq, decide_eq_true_eq, List.isEmpty_iff] at N
    match l, N.1.1 with
    | [x, y], _ => exact .pair x y k rfl N.1.2 N.2
    | [], h => simp at h
    | [x], h => simp at h
    | x :: y :: z :: r, h => simp at h; omega
  split at N
  · rename_i k
    simp only [Bool.and_eq_true, beq_iff_eq] at N
    obtain ⟨n0, N⟩ := N
    match l, hk, N with
    | [], _, N => exact .con0 k rfl n0 (shapeM_0' N)
    | [.mk b r], hk, N =>
      rw [pairP_idx hk.head] at N
      unfold shapeM at N
      split at N
      · simp at N
      · split at N
        · rename_i hs
          simp only [List.length_singleton, Bool.and_eq_true, beq_iff_eq] at N hs
          have N2 := np hk.head
          unfold pnodeB PI.node at N2
          simp only [N.2, idxs_len, Int.reduceEq, if_false, if_true, or_self, reduceIte, Bool.and_eq_true, beq_iff_eq, List.isEmpty_iff] at N2
          match r, N2.1.1 with
          | [x, y], _ => exact .cons b x y k rfl n0 N.2 hs
          | [], h => simp at h
          | [x], h => simp at h
          | x :: y :: z :: r, h => simp at h; omega
        · simp only [Bool.and_eq_true] at N
          exact .con1 _ k rfl n0 N.1
    | x :: y :: r, hk, N =>
      exfalso
      unfold shapeM at N
      simp only [List.length_cons] at N
      split at N
      · simp at N; (try omega)
      · split at N
        · simp at N; (try omega)
        · simp at N; (try omega)
  · cases N
theorem ptree_of {xs : List DPNode} (h : patM xs = true) : ∃ t : PT, xs = Arb.lay PI.node 0 t ∧ okP t ∧ t.size ≤ 600 := by
  unfold patM at h
  simp only [Bool.and_eq_true, decide_eq_true_eq] at h
  obtain ⟨⟨⟨h1, h2⟩, h3⟩, h4⟩ := h
  obtain ⟨t, ht⟩ := grow_all (f := PI.node) (ks := fun n : DPNode => n.kids) (inf := DPNode.inf) PI.node_inf h4
  refine ⟨t, ht, ?_, ?_⟩
  · have := At.zero (f := PI.node) t
    rw [← ht] at this
    refine all_of t 0 this fun j x l hj => pview_of (fun k hk => ?_) hj
    have := fin_all.1 h3 ⟨k, hk⟩
    unfold goodAt at this
    simp only [Bool.and_eq_true] at this
    exact this.1
  · have := congrArg List.length ht
    rw [Arb.lay_len] at this
    omega
theorem patM_len {xs : List DPNode} (h : patM xs = true) : 1 ≤ xs.length ∧ xs.length ≤ 600 := by
  unfold patM at h
  simp only [Bool.and_eq_true, decide_eq_true_eq] at h
  exact h.1.1
theorem patM_kids {xs : List DPNode} (h : patM xs = true) : ∀ x ∈ xs, x.kids.length ≤ 2 := by
  intro x hx
  obtain ⟨k, hk, rfl⟩ := List.getElem_of_mem hx
  unfold patM at h
  simp only [Bool.and_eq_true, decide_eq_true_eq] at h
  have := fin_all.1 h.1.2 ⟨k, hk⟩
  unfold goodAt at this
  simp only [Bool.and_eq_true] at this
  have N := this.1
  unfold pnodeM pnodeB at N
  split at N
  · simp only [Bool.and_eq_true, beq_iff_eq] at N; have := N.1.1; omega
  split at N
  · simp only [Bool.and_eq_true, beq_iff_eq] at N; have := N.1.1; omega
  split at N
  · simp only [Bool.and_eq_true, beq_iff_eq] at N; have := N.1.1; omega
  split at N
  · simp only [Bool.and_eq_true, beq_iff_eq] at N; have := N.1.1; omega
  split at N
  · simp only [Bool.and_eq_true] at N
    have := N.2
    unfold shapeM at this
    split at this
    · simp only [beq_iff_eq] at this; omega
    · split at this
      · simp only [Bool.and_eq_true, beq_iff_eq] at this; omega
      · simp only [Bool.and_eq_true, decide_eq_true_eq] at this; omega
  · cases N
end Go.Proofs.YtgcdbmcoendcdaaGreat
