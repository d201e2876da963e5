import Derived.Test.YtahdaknaoogpkaaGreatHaB
import Derived.Test.YtahdaknaoogpkaaGreatPaB
import Derived.Test.YtahdaknaoogpkaaGreatNmB
import Derived.Test.YtahdaknaoogpkaaGreatExB
/- Data Ins over the second engine: how they lie, own and lent; copies, sizes, comparisons, marks. Printed by gen2.py. -/
set_option maxRecDepth 100000
set_option maxHeartbeats 1000000
namespace Go.Proofs.YtahdaknaoogpkaaGreat
set_option linter.unusedVariables false
set_option linter.unusedSimpArgs false
attribute [local go_sem] List.length_set List.set_set
open Go.RowKit Go.ChangeShapes Go.WideShapes
structure MIns where
  op : Int
  a : Int
  b : Int
  s : ByteArray
def MIns.enc (x : MIns) : List D := [.s (.int .i64 x.op), .s (.int .i64 x.a), .s (.int .i64 x.b), .s (.string x.s)]
theorem MIns.enc_eq (x : MIns) : x.enc = [.s (.int .i64 x.op), .s (.int .i64 x.a), .s (.int .i64 x.b), .s (.string x.s)] := rfl
abbrev MIns.own (x : MIns) : List D := x.enc
theorem MIns.own_eq (x : MIns) : x.own = [.s (.int .i64 x.op), .s (.int .i64 x.a), .s (.int .i64 x.b), .s (.string x.s)] := rfl
theorem MIns.frz_eq (x : MIns) : frzL x.own = x.enc := by
  simp only [MIns.own_eq, MIns.enc_eq, frzL, frz]
def MIns.ok (x : MIns) : Prop := I64 x.op ∧ I64 x.a ∧ I64 x.b ∧ x.s.size ≤ maxLen
def MIns.sm (x : MIns) : Prop := x.s.size ≤ 1048576
def MIns.cnt (x : MIns) : Nat := 4
def MIns.mark (k : Int) (x : MIns) : MIns := ⟨k, (k + 1), ((k + 1) + 1), mkB (((k + 1) + 1) + 1)⟩
theorem MIns.cnt_eq (x : MIns) : x.cnt = 4 := rfl
theorem MIns.mark_eq (k : Int) (x : MIns) : MIns.mark k x = ⟨k, (k + 1), ((k + 1) + 1), mkB (((k + 1) + 1) + 1)⟩ := rfl
theorem MIns.pure (x : MIns) : ∀ d ∈ x.own, Pure d := by
  simp only [MIns.own_eq, List.forall_mem_cons, List.not_mem_nil, false_imp_iff, implies_true, and_true]
  exact ⟨.s _, .s _, .s _, .s _⟩
theorem MIns.pureS (e k : Nat) (xs : List MIns) : Pure (.osl e k (xs.map MIns.own)) = True := eq_true (pure_rows MIns.pure e k xs)
attribute [go_sem] MIns.pureS
theorem MIns.frzS (xs : List MIns) : frzLL (xs.map MIns.own) = xs.map MIns.enc := frz_rows MIns.frz_eq xs
attribute [go_sem] MIns.frzS
theorem c_eqIns (x : MIns) : FCon Tryz.prog 131 [.ag x.enc, .ag x.enc] (fun r _ => r = .s (.bool true)) := by
  refine FCon.intro PM _ Tryz.func131 (by kernel_rfl) rfl _ Tryz.ntmps131 rfl [] (by decide +kernel) (by simp) (by simp) rfl (by first | rfl | simp only [go_sem]) ?_
  (have hWf := WFx.mk @MIns.enc_eq; repeat' (first | refine zS ?_ | exact zE | with_reducible apply And.intro | with_reducible exact zB0 | with_reducible refine zB fun hb => ?_ | exact zC | refine zT ?_ | fail))
theorem c_eqInsS (xs : List MIns) : FCon Tryz.prog 50 [.sl 4 (xs.map MIns.enc), .sl 4 (xs.map MIns.enc)] (fun r _ => r = .s (.bool true)) := by
  refine FCon.intro PM _ Tryz.func50 (by kernel_rfl) rfl _ Tryz.ntmps50 rfl [(6, 8, [], [], (lin [] [0, 1, 2, 3, 4, 5, 6, 7]))] (by decide +kernel) (by simp) (by simp) rfl (by first | rfl | simp only [go_sem]) ?_
  refine AC_len 0 rfl trivial fun hlen => ?_
  simp only [List.length_map] at hlen
  (have hWf := f0; repeat' (first | refine zS ?_ | exact zE | with_reducible apply And.intro | with_reducible exact zB0 | with_reducible refine zB fun hb => ?_ | exact zC | refine zT ?_ | fail))
  refine AC_loop (fun n σ => ∃ k : Nat, k ≤ xs.length ∧ n = xs.length - k ∧ σ.t 0 = .sl 4 (xs.map MIns.enc) ∧ σ.t 1 = .sl 4 (xs.map MIns.enc) ∧ σ.t 5 = .s (.int .i64 k)) xs.length ⟨0, by omega, by omega, ?_⟩ ?_
  · simp only [go_sem, simprocAttr, Int.natCast_zero]
  · rintro n σ ⟨k, hk, rfl, h0, h1, h5⟩ K' hK
    by_cases hlt : k < xs.length
    · have hx := getD_map MIns.enc xs k hlt
      have he := MIns.enc_eq xs[k]
      (have hWf := WFx.mk (ai @h0 <| ai @h1 <| ai @h5 <| ai @hx <| @he); repeat' (first | refine zS ?_ | exact zE | with_reducible apply And.intro | refine zK (c_eqIns xs[k]) ?_ | with_reducible exact zB0 | with_reducible refine zB fun hb => ?_ | exact zC | refine zT ?_ | fail))
      all_goals
        refine hK (xs.length - (k + 1)) _ (by omega) ⟨k + 1, by omega, rfl, ?_⟩
        simp only [go_sem, simprocAttr, h0, h1, h5, Int.natCast_succ]
    · (have hWf := WFx.mk (ai @h0 <| ai @h1 <| @h5); repeat' (first | refine zS ?_ | exact zE | with_reducible apply And.intro | with_reducible exact zB0 | with_reducible refine zB fun hb => ?_ | exact zC | refine zT ?_ | fail))
theorem c_markInsS (xs : List MIns) (hl : xs.length ≤ 1048576) (k : Int) (h0 : 0 ≤ k) (hk : k + cnts MIns.cnt xs ≤ 4611686018427387904) : FCon Tryz.prog 54 [.osl 53 4 (xs.map MIns.own), .s (.int .i64 k)] (fun r o => r = .s (.int .i64 (k + cnts MIns.cnt xs)) ∧ o = [.osl 53 4 ((marks MIns.cnt MIns.mark k xs).map MIns.own), .un]) := by
  refine FCon.intro PM _ Tryz.func54 (by kernel_rfl) rfl _ Tryz.ntmps54 rfl [] (by decide +kernel) (by simp) (by simp) rfl (by first | rfl | simp only [go_sem]) ?_
  (have hWf := f0; repeat' (first | refine zS ?_ | exact zE | with_reducible apply And.intro | with_reducible exact zB0 | with_reducible refine zB fun hb => ?_ | exact zC | refine zT ?_ | fail))
  refine AC_loop (fun n σ => ∃ i : Nat, i ≤ xs.length ∧ n = xs.length - i ∧ σ.t 0 = .bs 900000 4 xs.length ∧ σ.t 1 = .s (.int .i64 (k + cnts MIns.cnt (xs.take i))) ∧ σ.t 5 = .s (.int .i64 i) ∧ σ.b 900000 = some (.arr 53 4 ((stM MIns.cnt MIns.mark k xs i).map MIns.own))) xs.length ⟨0, by omega, by omega, ?_⟩ ?_
  · simp only [go_sem, simprocAttr, Int.natCast_zero, stM_zero, List.take_zero, cnts, Int.add_zero]
  · rintro n σ ⟨i, hi, rfl, h0, h1, h5, h9⟩ K' hK
    by_cases hlt : i < xs.length
    · have hc := cnts_step (c := MIns.cnt) hlt
      have hc' := cnts_le (c := MIns.cnt) xs (i + 1)
      have hx := stM_get (c := MIns.cnt) (m := MIns.mark) k hlt MIns.own
      have hpl := stM_len (c := MIns.cnt) (m := MIns.mark) k (Nat.le_of_lt hlt)
      have hst := stM_set (c := MIns.cnt) (m := MIns.mark) k hlt MIns.own
      have hgs : ∀ r, (((stM MIns.cnt MIns.mark k xs i).map MIns.own).set i r).getD i [] = r := fun r => by rw [List.getD_eq_getElem?_getD, List.getElem?_set_self (by rw [List.length_map, hpl]; exact hlt)]; rfl
      simp only [MIns.own_eq, MIns.mark] at hx hst
      simp only [MIns.cnt] at hc
      (have hWf := WFx.mk (ai @h0 <| ai @h1 <| ai @h5 <| ai @h9 <| ai @hx <| ai @hpl <| ai @hgs <| ai @hst <| @MIns.own_eq); repeat' (first | refine zS ?_ | exact zE | with_reducible apply And.intro | ((with_reducible apply q_CallG); refine zG (c_markText ((((k + (cnts MIns.cnt (xs.take i) : Nat)) + 1) + 1) + 1) (by omega)) ?_) | ((with_reducible apply q_CallQ); refine CallQ_mk (c_markText ((((k + (cnts MIns.cnt (xs.take i) : Nat)) + 1) + 1) + 1) (by omega)) ?_) | with_reducible exact zB0 | with_reducible refine zB fun hb => ?_ | exact zC | refine zT ?_ | fail))
      refine hK (xs.length - (i + 1)) _ (by omega) ⟨i + 1, by omega, rfl, ?_⟩
      simp only [go_sem, simprocAttr, h0, h1, h5, h9, Int.natCast_succ, hst]
      exact sI_congr (by rw [hc]; push_cast; omega)
    · obtain rfl : i = xs.length := by omega
      rw [stM_all] at h9
      rw [List.take_length] at h1
      (have hWf := WFx.mk (ai @h0 <| ai @h1 <| ai @h5 <| ai @h9 <| @marks_len); repeat' (first | refine zS ?_ | exact zE | with_reducible apply And.intro | with_reducible exact zB0 | with_reducible refine zB fun hb => ?_ | exact zC | refine zT ?_ | fail))
theorem c_heldInsS (xs : List MIns) (hl : xs.length ≤ 1048576) (k : Int) (h0 : 0 ≤ k) (hk : k + cnts MIns.cnt xs ≤ 4611686018427387904) : FCon Tryz.prog 56 [.sl 4 ((marks MIns.cnt MIns.mark k xs).map MIns.enc), .s (.int .i64 k)] (fun r _ => r = .s (.int .i64 (k + cnts MIns.cnt xs))) := by
  refine FCon.intro PM _ Tryz.func56 (by kernel_rfl) rfl _ Tryz.ntmps56 rfl [(13, 7, [], [], (lin [] [0, 1, 2, 3, 4, 5, 6]))] (by decide +kernel) (by simp) (by simp) rfl (by first | rfl | simp only [go_sem]) ?_
  have hml := marks_len (c := MIns.cnt) (m := MIns.mark) k xs
  (have hWf := f0; repeat' (first | refine zS ?_ | exact zE | with_reducible apply And.intro | with_reducible exact zB0 | with_reducible refine zB fun hb => ?_ | exact zC | refine zT ?_ | fail))
  refine AC_loop (fun n σ => ∃ i : Nat, i ≤ xs.length ∧ n = xs.length - i ∧ σ.t 0 = .sl 4 ((marks MIns.cnt MIns.mark k xs).map MIns.enc) ∧ σ.t 1 = .s (.int .i64 (k + cnts MIns.cnt (xs.take i))) ∧ σ.t 5 = .s (.int .i64 i)) xs.length ⟨0, by omega, by omega, ?_⟩ ?_
  · simp only [go_sem, simprocAttr, Int.natCast_zero, List.take_zero, cnts, Int.add_zero]
  · rintro n σ ⟨i, hi, rfl, h0, h1, h5⟩ K' hK
    by_cases hlt : i < xs.length
    · have hc := cnts_step (c := MIns.cnt) hlt
      have hc' := cnts_le (c := MIns.cnt) xs (i + 1)
      have hx := marks_get (c := MIns.cnt) (m := MIns.mark) k hlt MIns.enc
      simp only [MIns.enc_eq, MIns.mark] at hx
      simp only [MIns.cnt] at hc
      (have hWf := WFx.mk (ai @h0 <| ai @h1 <| ai @h5 <| ai @hx <| @hml); repeat' (first | refine zS ?_ | exact zE | with_reducible apply And.intro | ((with_reducible apply q_CallG); refine zG (c_markText ((((k + (cnts MIns.cnt (xs.take i) : Nat)) + 1) + 1) + 1) (by omega)) ?_) | ((with_reducible apply q_CallQ); refine CallQ_mk (c_markText ((((k + (cnts MIns.cnt (xs.take i) : Nat)) + 1) + 1) + 1) (by omega)) ?_) | with_reducible exact zB0 | with_reducible refine zB fun hb => ?_ | exact zC | refine zT ?_ | fail))
      all_goals
        refine hK (xs.length - (i + 1)) _ (by omega) ⟨i + 1, by omega, rfl, ?_⟩
        simp only [go_sem, simprocAttr, h0, h1, h5, Int.natCast_succ]
        exact sI_congr (by rw [hc]; push_cast; omega)
    · obtain rfl : i = xs.length := by omega
      rw [List.take_length] at h1
      (have hWf := WFx.mk (ai @h0 <| ai @h1 <| ai @h5 <| @hml); repeat' (first | refine zS ?_ | exact zE | with_reducible apply And.intro | with_reducible exact zB0 | with_reducible refine zB fun hb => ?_ | exact zC | refine zT ?_ | fail))
end Go.Proofs.YtahdaknaoogpkaaGreat

namespace Go.Proofs.YtahdaknaoogpkaaGreat
set_option linter.unusedVariables false
set_option linter.unusedSimpArgs false
open Go.RowKit Go.ChangeShapes Go.WideShapes
structure MCode where
  ins : List MIns
  pats : List MPat
def MCode.enc (x : MCode) : List D := [.sl 4 (x.ins.map MIns.enc), .sl 1 (x.pats.map MPat.enc)]
theorem MCode.enc_eq (x : MCode) : x.enc = [.sl 4 (x.ins.map MIns.enc), .sl 1 (x.pats.map MPat.enc)] := rfl
def MCode.own (x : MCode) : List D := [.osl 53 4 (x.ins.map MIns.own), .osl 114 1 (x.pats.map MPat.own)]
theorem MCode.own_eq (x : MCode) : x.own = [.osl 53 4 (x.ins.map MIns.own), .osl 114 1 (x.pats.map MPat.own)] := rfl
theorem MCode.frz_eq (x : MCode) : frzL x.own = x.enc := by
  simp only [MCode.own_eq, MCode.enc_eq, frzL, frz, frz_rows MIns.frz_eq, frz_rows MPat.frz_eq]
def MCode.ok (x : MCode) : Prop := (∀ y ∈ x.ins, y.ok) ∧ (∀ y ∈ x.pats, y.ok)
def MCode.sm (x : MCode) : Prop := smS MIns.sm x.ins ∧ smS MPat.sm x.pats
def MCode.cnt (x : MCode) : Nat := cnts MIns.cnt x.ins + cnts MPat.cnt x.pats
def MCode.mark (k : Int) (x : MCode) : MCode := ⟨marks MIns.cnt MIns.mark k x.ins, marks MPat.cnt MPat.mark (k + (cnts MIns.cnt x.ins : Nat)) x.pats⟩
theorem MCode.cnt_eq (x : MCode) : x.cnt = cnts MIns.cnt x.ins + cnts MPat.cnt x.pats := rfl
theorem MCode.mark_eq (k : Int) (x : MCode) : MCode.mark k x = ⟨marks MIns.cnt MIns.mark k x.ins, marks MPat.cnt MPat.mark (k + (cnts MIns.cnt x.ins : Nat)) x.pats⟩ := rfl
theorem MCode.pure (x : MCode) : ∀ d ∈ x.own, Pure d := by
  simp only [MCode.own_eq, List.forall_mem_cons, List.not_mem_nil, false_imp_iff, implies_true, and_true]
  exact ⟨pure_rows MIns.pure _ _ _, pure_rows MPat.pure _ _ _⟩
theorem MCode.pureS (e k : Nat) (xs : List MCode) : Pure (.osl e k (xs.map MCode.own)) = True := eq_true (pure_rows MCode.pure e k xs)
attribute [go_sem] MCode.pureS
theorem MCode.frzS (xs : List MCode) : frzLL (xs.map MCode.own) = xs.map MCode.enc := frz_rows MCode.frz_eq xs
attribute [go_sem] MCode.frzS
theorem c_eqCode (x : MCode) : FCon Tryz.prog 18 [.ag x.enc, .ag x.enc] (fun r _ => r = .s (.bool true)) := by
  refine FCon.intro PM _ Tryz.func18 (by kernel_rfl) rfl _ Tryz.ntmps18 rfl [] (by decide +kernel) (by simp) (by simp) rfl (by first | rfl | simp only [go_sem]) ?_
  (have hWf := WFx.mk @MCode.enc_eq; repeat' (first | refine zS ?_ | exact zE | with_reducible apply And.intro | refine zK (c_eqInsS x.ins) ?_ | refine zK (c_eqPatS x.pats) ?_ | with_reducible exact zB0 | with_reducible refine zB fun hb => ?_ | exact zC | refine zT ?_ | fail))
theorem c_markCode (x : MCode) (hs : x.sm) (k : Int) (h0 : 0 ≤ k) (hk : k + x.cnt ≤ 4611686018427387904) : FCon Tryz.prog 20 [.ag x.own, .s (.int .i64 k)] (fun r o => r = .s (.int .i64 (k + x.cnt)) ∧ o = [.ag (MCode.mark k x).own, .un]) := by
  simp only [MCode.cnt] at hk
  refine FCon.intro PM _ Tryz.func20 (by kernel_rfl) rfl _ Tryz.ntmps20 rfl [] (by decide +kernel) (by simp) (by simp) rfl (by first | rfl | simp only [go_sem]) ?_
  (have hWf := WFx.mk (ai @MCode.own_eq <| ai @marks_len <| ai @MCode.cnt_eq <| @MCode.mark_eq); repeat' (first | refine zS ?_ | exact zE | with_reducible apply And.intro | ((with_reducible apply q_CallG); refine CallG_mk (c_markInsS x.ins (hs.1).1 _ (by omega) (by omega)) ?_; rintro _ _ ⟨rfl, rfl⟩) | ((with_reducible apply q_CallQ); refine CallQ_mk (c_markInsS x.ins (hs.1).1 _ (by omega) (by omega)) ?_) | ((with_reducible apply q_CallG); refine CallG_mk (c_markPatS x.pats (hs.2) _ (by omega) (by omega)) ?_; rintro _ _ ⟨rfl, rfl⟩) | ((with_reducible apply q_CallQ); refine CallQ_mk (c_markPatS x.pats (hs.2) _ (by omega) (by omega)) ?_) | with_reducible exact zB0 | with_reducible refine zB fun hb => ?_ | exact zC | refine zT ?_ | fail))
  all_goals (first | rfl | exact sI_congr (by push_cast; omega) | exact ⟨sI_congr (by push_cast; omega), rfl⟩ | skip)
theorem c_heldCode (x : MCode) (hs : x.sm) (k : Int) (h0 : 0 ≤ k) (hk : k + x.cnt ≤ 4611686018427387904) : FCon Tryz.prog 21 [.ag (MCode.mark k x).enc, .s (.int .i64 k)] (fun r _ => r = .s (.int .i64 (k + x.cnt))) := by
  simp only [MCode.cnt] at hk
  refine FCon.intro PM _ Tryz.func21 (by kernel_rfl) rfl _ Tryz.ntmps21 rfl [] (by decide +kernel) (by simp) (by simp) rfl (by first | rfl | simp only [go_sem]) ?_
  (have hWf := WFx.mk (ai @MCode.enc_eq <| ai @MCode.mark_eq <| @MCode.cnt_eq); repeat' (first | refine zS ?_ | exact zE | with_reducible apply And.intro | ((with_reducible apply q_CallG); refine zG (c_heldInsS x.ins (hs.1).1 _ (by omega) (by omega)) ?_) | ((with_reducible apply q_CallQ); refine CallQ_mk (c_heldInsS x.ins (hs.1).1 _ (by omega) (by omega)) ?_) | ((with_reducible apply q_CallG); refine zG (c_heldPatS x.pats (hs.2) _ (by omega) (by omega)) ?_) | ((with_reducible apply q_CallQ); refine CallQ_mk (c_heldPatS x.pats (hs.2) _ (by omega) (by omega)) ?_) | with_reducible exact zB0 | with_reducible refine zB fun hb => ?_ | exact zC | refine zT ?_ | fail))
  all_goals (first | rfl | exact sI_congr (by push_cast; omega) | skip)
end Go.Proofs.YtahdaknaoogpkaaGreat

namespace Go.Proofs.YtahdaknaoogpkaaGreat
set_option linter.unusedVariables false
set_option linter.unusedSimpArgs false
def givenM (s : ByteArray) : Bool := s.toList == [112, 114, 105, 110, 116] || s.toList == [115, 97, 121] || s.toList == [114, 101, 97, 100] || s.toList == [115, 105, 122, 101]
def leadsM (op : Int) : Bool := op == 8 || op == 9 || op == 12 || op == 13 || op == 18
def insM (n m : Int) (x : MIns) : Bool :=
  if leadsM x.op then decide (0 ≤ x.a) && decide (x.a < n) && (x.b == 0) && x.s.toList.isEmpty
  else if x.op = 20 then decide (0 ≤ x.a) && decide (x.a < m) && (decide (0 ≤ x.b) && decide (x.b < n)) && x.s.toList.isEmpty
  else if x.op = 6 ∨ x.op = 15 then decide (0 ≤ x.a) && decide (x.a ≤ 3000) && (x.b == 0) && x.s.toList.isEmpty
  else if x.op = 1 then decide (-4611686018427387904 ≤ x.a) && decide (x.a ≤ 4611686018427387903) && (x.b == 0) && x.s.toList.isEmpty
  else if x.op = 4 then decide (0 ≤ x.a) && decide (x.a ≤ 1) && (x.b == 0) && shapeM x.s x.a.toNat true
  else if x.op = 2 then (x.a == 0) && (x.b == 0)
  else if x.op = 7 then (x.a == 0) && (x.b == 0) && givenM x.s
  else if x.op = 16 then (x.a == 0) && (x.b == 0) && primM x.s
  else decide (1 ≤ x.op) && decide (x.op ≤ 25) && (x.a == 0) && (x.b == 0) && x.s.toList.isEmpty
def codeM (c : MCode) : Bool := decide (1 ≤ c.ins.length) && decide (c.ins.length ≤ 3000) && (c.pats.all fun q => patM q.nodes) && c.ins.all (insM c.ins.length c.pats.length)
end Go.Proofs.YtahdaknaoogpkaaGreat

namespace Go.Proofs.YtahdaknaoogpkaaGreat
set_option linter.unusedVariables false
set_option linter.unusedSimpArgs false
open Go.RowKit
theorem litPrint : (⟨#[112, 114, 105, 110, 116]⟩ : ByteArray).toList = [112, 114, 105, 110, 116] := by kernel_rfl
theorem litSay : (⟨#[115, 97, 121]⟩ : ByteArray).toList = [115, 97, 121] := by kernel_rfl
theorem litRead : (⟨#[114, 101, 97, 100]⟩ : ByteArray).toList = [114, 101, 97, 100] := by kernel_rfl
theorem litSize : (⟨#[115, 105, 122, 101]⟩ : ByteArray).toList = [115, 105, 122, 101] := by kernel_rfl
theorem c_given_t (s : ByteArray) (h : givenM s = true) : ∃ rows, rows.isEmpty = false ∧ FCon Tryz.prog 183 [.s (.string s)] (fun r _ => r = .sl 3 rows) := by
  unfold givenM at h
  simp only [Bool.or_eq_true, beq_iff_eq] at h
  rcases h with ((h | h) | h) | h
  · refine ⟨[[.s (.int .i64 0), .s (.string ⟨#[45, 62]⟩), .s (.int .i64 2)], [.s (.int .i64 0), .s (.string ⟨#[105, 110, 116]⟩), .s (.int .i64 0)], [.s (.int .i64 0), .s (.string ⟨#[117, 110, 105, 116]⟩), .s (.int .i64 0)]], rfl, FCon.ice ?_⟩
    have e0 : (s.toList == [112, 114, 105, 110, 116]) = true := by rw [h]; decide
    refine FCon.intro PM _ Tryz.func183 (by kernel_rfl) rfl _ Tryz.ntmps183 rfl [] (by decide +kernel) (by simp) (by simp) rfl (by first | rfl | simp only [go_sem]) ?_
    (have hWf := WFx.mk (ai @litPrint <| ai @litSay <| ai @litRead <| ai @litSize <| @e0); repeat' (first | refine zS ?_ | exact zE | with_reducible apply And.intro | with_reducible exact zB0 | with_reducible refine zB fun hb => ?_ | exact zC | refine zT ?_ | fail))
    all_goals rfl
  · refine ⟨[[.s (.int .i64 0), .s (.string ⟨#[45, 62]⟩), .s (.int .i64 2)], [.s (.int .i64 0), .s (.string ⟨#[115, 116, 114, 105, 110, 103]⟩), .s (.int .i64 0)], [.s (.int .i64 0), .s (.string ⟨#[117, 110, 105, 116]⟩), .s (.int .i64 0)]], rfl, FCon.ice ?_⟩
    have e0 : (s.toList == [112, 114, 105, 110, 116]) = false := by rw [h]; decide
    have e1 : (s.toList == [115, 97, 121]) = true := by rw [h]; decide
    refine FCon.intro PM _ Tryz.func183 (by kernel_rfl) rfl _ Tryz.ntmps183 rfl [] (by decide +kernel) (by simp) (by simp) rfl (by first | rfl | simp only [go_sem]) ?_
    (have hWf := WFx.mk (ai @litPrint <| ai @litSay <| ai @litRead <| ai @litSize <| ai @e0 <| @e1); repeat' (first | refine zS ?_ | exact zE | with_reducible apply And.intro | with_reducible exact zB0 | with_reducible refine zB fun hb => ?_ | exact zC | refine zT ?_ | fail))
    all_goals rfl
  · refine ⟨[[.s (.int .i64 0), .s (.string ⟨#[45, 62]⟩), .s (.int .i64 2)], [.s (.int .i64 0), .s (.string ⟨#[117, 110, 105, 116]⟩), .s (.int .i64 0)], [.s (.int .i64 0), .s (.string ⟨#[105, 110, 116]⟩), .s (.int .i64 0)]], rfl, FCon.ice ?_⟩
    have e0 : (s.toList == [112, 114, 105, 110, 116]) = false := by rw [h]; decide
    have e1 : (s.toList == [115, 97, 121]) = false := by rw [h]; decide
    have e2 : (s.toList == [114, 101, 97, 100]) = true := by rw [h]; decide
    refine FCon.intro PM _ Tryz.func183 (by kernel_rfl) rfl _ Tryz.ntmps183 rfl [] (by decide +kernel) (by simp) (by simp) rfl (by first | rfl | simp only [go_sem]) ?_
    (have hWf := WFx.mk (ai @litPrint <| ai @litSay <| ai @litRead <| ai @litSize <| ai @e0 <| ai @e1 <| @e2); repeat' (first | refine zS ?_ | exact zE | with_reducible apply And.intro | with_reducible exact zB0 | with_reducible refine zB fun hb => ?_ | exact zC | refine zT ?_ | fail))
    all_goals rfl
  · refine ⟨[[.s (.int .i64 0), .s (.string ⟨#[45, 62]⟩), .s (.int .i64 2)], [.s (.int .i64 0), .s (.string ⟨#[115, 116, 114, 105, 110, 103]⟩), .s (.int .i64 0)], [.s (.int .i64 0), .s (.string ⟨#[105, 110, 116]⟩), .s (.int .i64 0)]], rfl, FCon.ice ?_⟩
    have e0 : (s.toList == [112, 114, 105, 110, 116]) = false := by rw [h]; decide
    have e1 : (s.toList == [115, 97, 121]) = false := by rw [h]; decide
    have e2 : (s.toList == [114, 101, 97, 100]) = false := by rw [h]; decide
    have e3 : (s.toList == [115, 105, 122, 101]) = true := by rw [h]; decide
    refine FCon.intro PM _ Tryz.func183 (by kernel_rfl) rfl _ Tryz.ntmps183 rfl [] (by decide +kernel) (by simp) (by simp) rfl (by first | rfl | simp only [go_sem]) ?_
    (have hWf := WFx.mk (ai @litPrint <| ai @litSay <| ai @litRead <| ai @litSize <| ai @e0 <| ai @e1 <| ai @e2 <| @e3); repeat' (first | refine zS ?_ | exact zE | with_reducible apply And.intro | with_reducible exact zB0 | with_reducible refine zB fun hb => ?_ | exact zC | refine zT ?_ | fail))
    all_goals rfl
theorem c_given_f (s : ByteArray) (h : givenM s = false) : FCon Tryz.prog 183 [.s (.string s)] (fun r _ => r = .nil) := by
  unfold givenM at h
  simp only [Bool.or_eq_false_iff] at h
  obtain ⟨⟨⟨h1, h2⟩, h3⟩, h4⟩ := h
  refine FCon.intro PM _ Tryz.func183 (by kernel_rfl) rfl _ Tryz.ntmps183 rfl [] (by decide +kernel) (by simp) (by simp) rfl (by first | rfl | simp only [go_sem]) ?_
  (have hWf := WFx.mk (ai @litPrint <| ai @litSay <| ai @litRead <| ai @litSize <| ai @h1 <| ai @h2 <| ai @h3 <| @h4); repeat' (first | refine zS ?_ | exact zE | with_reducible apply And.intro | with_reducible exact zB0 | with_reducible refine zB fun hb => ?_ | exact zC | refine zT ?_ | fail))
end Go.Proofs.YtahdaknaoogpkaaGreat

namespace Go.Proofs.YtahdaknaoogpkaaGreat
set_option linter.unusedVariables false
set_option linter.unusedSimpArgs false
open Arb
def eS : ByteArray := ⟨#[]⟩
structure CS where
  ins : List MIns
  pats : List MPat
  lost : Bool
def CS.emit (s : CS) (i : MIns) : CS := ⟨s.ins ++ [i], s.pats, s.lost⟩
def setA (l : List MIns) (k : Nat) (v : Int) : List MIns := match l[k]? with
  | some x => l.set k ⟨x.op, v, x.b, x.s⟩
  | none => l
def setB (l : List MIns) (k : Nat) (v : Int) : List MIns := match l[k]? with
  | some x => l.set k ⟨x.op, x.a, v, x.s⟩
  | none => l
def CS.here (s : CS) (k : Nat) : CS := ⟨setA s.ins k s.ins.length, s.pats, s.lost⟩
abbrev CF := List ByteArray → CS → CS
structure KF where
  a : EI
  f : CF
  sub : List CF
instance : Inhabited KF := ⟨⟨⟨0, 0, 0, eS, []⟩, fun _ s => s, []⟩⟩
def idxR (s : ByteArray) : List ByteArray → Nat → Option Nat
  | [], _ => none
  | x :: l, i => if x = s then some i else idxR s l (i + 1)
def varA (env : List ByteArray) (s : ByteArray) : Option Nat := idxR s env.reverse 0
def nameC (x : ByteArray) (env : List ByteArray) (s : CS) : CS := match varA env x with
  | some a => s.emit ⟨6, a, 0, eS⟩
  | none => ⟨s.ins ++ [⟨7, 0, 0, x⟩], s.pats, s.lost || !givenM x⟩
def headC (op : Int) (s : CS) : CS := (s.emit ⟨op, (s.ins.length : Int) + 2, 0, eS⟩).emit ⟨12, 0, 0, eS⟩
def funC (op : Int) (f : CF) (names : List ByteArray) (env : List ByteArray) (s : CS) : CS := ((f (env ++ names) (headC op s)).emit ⟨11, 0, 0, eS⟩).here (s.ins.length + 1)
def pnames (xs : List DPNode) : List ByteArray := (xs.filter fun x => x.kind == 2).map fun x => x.s
def endI (a : EI) (n : Nat) : MIns :=
  if a.kind = 6 then ⟨10, 0, 0, eS⟩ else if a.kind = 10 then ⟨16, 0, 0, a.s⟩ else if a.kind = 11 then ⟨5, 0, 0, eS⟩ else if a.kind = 18 then ⟨24, 0, 0, eS⟩
  else if a.kind = 16 then ⟨22, 0, 0, eS⟩ else if a.kind = 17 then ⟨23, 0, 0, eS⟩ else if a.kind = 14 then ⟨17, 0, 0, eS⟩ else if a.kind = 4 then ⟨4, n, 0, a.s⟩
  else if a.kind = 1 then ⟨1, a.n, 0, eS⟩ else if a.kind = 2 then ⟨2, 0, 0, a.s⟩ else if a.kind = 12 then ⟨3, 0, 0, eS⟩ else ⟨0, 0, 0, eS⟩
def arm0 (q : MPat) (s : CS) : CS := ⟨s.ins ++ [⟨20, s.pats.length, 0, eS⟩], s.pats ++ [q], s.lost⟩
def arm1 (q : MPat) (f : CF) (env : List ByteArray) (s : CS) : CS := ((f (env ++ pnames q.nodes) (arm0 q s)).emit ⟨15, (pnames q.nodes).length, 0, eS⟩).emit ⟨12, 0, 0, eS⟩
def armC (q : MPat) (f : CF) (env : List ByteArray) (s : CS) : CS := ⟨setB (arm1 q f env s).ins s.ins.length (arm1 q f env s).ins.length, (arm1 q f env s).pats, (arm1 q f env s).lost⟩
def armsC (env : List ByteArray) : List (MPat × CF) → CS → List Nat → CS × List Nat
  | [], s, js => (s, js)
  | (q, f) :: l, s, js => armsC env l (armC q f env s) (js ++ [(armC q f env s).ins.length - 1])
def heresC (s : CS) : List Nat → CS
  | [] => s
  | j :: l => heresC (s.here j) l
def matC (f : CF) (l : List (MPat × CF)) (env : List ByteArray) (s : CS) : CS := heresC ((armsC env l (f env s) []).1.emit ⟨21, 0, 0, eS⟩) (armsC env l (f env s) []).2
def kidsC (ks : List CF) (env : List ByteArray) (s : CS) : CS := ks.foldl (fun s f => f env s) s
def ifC (f g h : CF) (env : List ByteArray) (s : CS) : CS :=
  ((h env (((g env ((f env s).emit ⟨13, 0, 0, eS⟩)).emit ⟨12, 0, 0, eS⟩).here (f env s).ins.length)).here (g env ((f env s).emit ⟨13, 0, 0, eS⟩)).ins.length)
def tryC (f g : CF) (x : ByteArray) (env : List ByteArray) (s : CS) : CS :=
  (((g (env ++ [x]) ((((f env (s.emit ⟨18, 0, 0, eS⟩)).emit ⟨19, 0, 0, eS⟩).emit ⟨12, 0, 0, eS⟩).here s.ins.length)).emit ⟨15, 1, 0, eS⟩).here ((f env (s.emit ⟨18, 0, 0, eS⟩)).emit ⟨19, 0, 0, eS⟩).ins.length)
def kindC (a : EI) (ks : List KF) : CF :=
  if a.kind = 3 then nameC a.s
  else if a.kind = 5 then funC 8 (ks.getD 0 default).f [a.s]
  else if a.kind = 8 then fun env s => ((ks.getD 1 default).f (env ++ [a.s]) (funC 9 ((ks.getD 0 default).sub.getD 0 fun _ s => s) [a.s, (ks.getD 0 default).a.s] env s)).emit ⟨15, 1, 0, eS⟩
  else if a.kind = 19 then fun env s => (ks.getD 1 default).f env (((ks.getD 0 default).f env s).emit ⟨25, 0, 0, eS⟩)
  else if a.kind = 7 then fun env s => ((ks.getD 1 default).f (env ++ [a.s]) (((ks.getD 0 default).f env s).emit ⟨14, 0, 0, eS⟩)).emit ⟨15, 1, 0, eS⟩
  else if a.kind = 9 then ifC (ks.getD 0 default).f (ks.getD 1 default).f (ks.getD 2 default).f
  else if a.kind = 15 then tryC (ks.getD 0 default).f (ks.getD 1 default).f a.s
  else if a.kind = 13 then matC (ks.getD 0 default).f (a.pats.zip ((ks.drop 1).map fun k => k.f))
  else fun env s => (kidsC (ks.map fun k => k.f) env s).emit (endI a ks.length)
def stopB (chk : Bool) (s : CS) : Bool := chk && (s.lost || decide (3000 < s.ins.length))
def stepC (chk : Bool) (a : EI) (ks : List KF) : CF := fun env s => if stopB chk s = true then ⟨s.ins, s.pats, true⟩ else kindC a ks env s
mutual
def kf (chk : Bool) : ET → KF
  | .mk a l => ⟨a, stepC chk a (kfL chk l), (kfL chk l).map fun k => k.f⟩
def kfL (chk : Bool) : List ET → List KF
  | [] => []
  | t :: l => kf chk t :: kfL chk l
end
def cmp (chk : Bool) (t : ET) : CF := (kf chk t).f
theorem kfL_map (chk : Bool) (l : List ET) : kfL chk l = l.map (kf chk) := by
  induction l with
  | nil => rfl
  | cons t l ih => rw [kfL, ih]; rfl
theorem kf_mk (chk : Bool) (a : EI) (l : List ET) : kf chk (.mk a l) = ⟨a, stepC chk a (l.map (kf chk)), l.map (cmp chk)⟩ := by
  rw [kf, kfL_map, List.map_map]; rfl
theorem cmp_mk (chk : Bool) (a : EI) (l : List ET) : cmp chk (.mk a l) = stepC chk a (l.map (kf chk)) := by rw [cmp, kf_mk]
theorem cmp_go {chk : Bool} {a : EI} {l : List ET} {env : List ByteArray} {s : CS} (h : stopB chk s = false) : cmp chk (.mk a l) env s = kindC a (l.map (kf chk)) env s := by
  rw [cmp_mk, stepC, if_neg (by rw [h]; simp)]
theorem cmp_stop {chk : Bool} {a : EI} {l : List ET} {env : List ByteArray} {s : CS} (h : stopB chk s = true) : cmp chk (.mk a l) env s = ⟨s.ins, s.pats, true⟩ := by
  rw [cmp_mk, stepC, if_pos h]
/-! ### how long it gets -/
theorem setA_len (l : List MIns) (k : Nat) (v : Int) : (setA l k v).length = l.length := by unfold setA; split <;> simp
theorem setB_len (l : List MIns) (k : Nat) (v : Int) : (setB l k v).length = l.length := by unfold setB; split <;> simp
theorem emit_ins (s : CS) (i : MIns) : (s.emit i).ins = s.ins ++ [i] := rfl
theorem emit_len (s : CS) (i : MIns) : (s.emit i).ins.length = s.ins.length + 1 := by simp [CS.emit]
theorem emit_pats (s : CS) (i : MIns) : (s.emit i).pats = s.pats := rfl
theorem emit_lost (s : CS) (i : MIns) : (s.emit i).lost = s.lost := rfl
theorem here_len (s : CS) (k : Nat) : (s.here k).ins.length = s.ins.length := setA_len _ _ _
theorem here_pats (s : CS) (k : Nat) : (s.here k).pats = s.pats := rfl
theorem here_lost (s : CS) (k : Nat) : (s.here k).lost = s.lost := rfl
theorem heres_len (s : CS) (js : List Nat) : (heresC s js).ins.length = s.ins.length ∧ (heresC s js).pats = s.pats ∧ (heresC s js).lost = s.lost := by
  induction js generalizing s with
  | nil => exact ⟨rfl, rfl, rfl⟩
  | cons j l ih => obtain ⟨h1, h2, h3⟩ := ih (s.here j); exact ⟨by rw [heresC, h1, here_len], by rw [heresC, h2]; rfl, by rw [heresC, h3]; rfl⟩
structure Gr (n m : Nat) (f : CF) : Prop where
  lo : ∀ env s, s.ins.length ≤ (f env s).ins.length
  hi : ∀ env s, (f env s).ins.length ≤ s.ins.length + n
  plo : ∀ env s, s.pats.length ≤ (f env s).pats.length
  phi : ∀ env s, (f env s).pats.length ≤ s.pats.length + m
theorem Gr.mono {n m n' m' : Nat} {f : CF} (h : Gr n m f) (h1 : n ≤ n') (h2 : m ≤ m') : Gr n' m' f := ⟨h.lo, fun e s => by have := h.hi e s; omega, h.plo, fun e s => by have := h.phi e s; omega⟩
theorem gr_fun {n m : Nat} {f : CF} (h : Gr n m f) (op : Int) (names : List ByteArray) : Gr (n + 3) m (funC op f names) := by
  have e : ∀ env s, (funC op f names env s).ins.length = (f (env ++ names) (headC op s)).ins.length + 1 := fun env s => by rw [funC, here_len, emit_len]
  have e0 : ∀ s, (headC op s).ins.length = s.ins.length + 2 := fun s => by rw [headC, emit_len, emit_len]
  refine ⟨fun env s => ?_, fun env s => ?_, fun env s => h.plo (env ++ names) (headC op s), fun env s => h.phi (env ++ names) (headC op s)⟩
  · have := h.lo (env ++ names) (headC op s); rw [e]; rw [e0] at this; omega
  · have := h.hi (env ++ names) (headC op s); rw [e]; rw [e0] at this; omega
theorem gr_name (x : ByteArray) : Gr 1 0 (nameC x) := by
  refine ⟨fun env s => ?_, fun env s => ?_, fun env s => ?_, fun env s => ?_⟩ <;> (unfold nameC; split <;> simp [CS.emit])
theorem gr_arm {n m : Nat} {f : CF} (h : Gr n m f) (q : MPat) : Gr (n + 3) (m + 1) (armC q f) := by
  have e1 : ∀ env s, (arm1 q f env s).ins.length = (f (env ++ pnames q.nodes) (arm0 q s)).ins.length + 2 := fun env s => by rw [arm1, emit_len, emit_len]
  have e : ∀ env s, (armC q f env s).ins.length = (f (env ++ pnames q.nodes) (arm0 q s)).ins.length + 2 := fun env s => by rw [← e1]; exact setB_len _ _ _
  have ep : ∀ env s, (armC q f env s).pats = (f (env ++ pnames q.nodes) (arm0 q s)).pats := fun env s => rfl
  have e0 : ∀ s, (arm0 q s).ins.length = s.ins.length + 1 := fun s => by simp [arm0]
  have p0 : ∀ s, (arm0 q s).pats.length = s.pats.length + 1 := fun s => by simp [arm0]
  refine ⟨fun env s => ?_, fun env s => ?_, fun env s => ?_, fun env s => ?_⟩
  · have := h.lo (env ++ pnames q.nodes) (arm0 q s); rw [e]; rw [e0] at this; omega
  · have := h.hi (env ++ pnames q.nodes) (arm0 q s); rw [e]; rw [e0] at this; omega
  · have := h.plo (env ++ pnames q.nodes) (arm0 q s); rw [ep]; rw [p0] at this; omega
  · have := h.phi (env ++ pnames q.nodes) (arm0 q s); rw [ep]; rw [p0] at this; omega
theorem Gr.comp {n m n' m' : Nat} {f g : CF} (hf : Gr n m f) (hg : Gr n' m' g) (u v : List ByteArray → List ByteArray) : Gr (n + n') (m + m') (fun env s => g (v env) (f (u env) s)) :=
  ⟨fun e s => Nat.le_trans (hf.lo (u e) s) (hg.lo (v e) _), fun e s => by have := hf.hi (u e) s; have := hg.hi (v e) (f (u e) s); omega, fun e s => Nat.le_trans (hf.plo (u e) s) (hg.plo (v e) _), fun e s => by have := hf.phi (u e) s; have := hg.phi (v e) (f (u e) s); omega⟩
theorem gr_emit (i : MIns) : Gr 1 0 (fun _ s => s.emit i) := ⟨fun e s => by rw [emit_len]; omega, fun e s => by rw [emit_len]; omega, fun e s => Nat.le_refl _, fun e s => Nat.le_refl _⟩
theorem gr_heres {n m : Nat} {f : CF} (h : Gr n m f) (g : List ByteArray → CS → List Nat) : Gr n m (fun env s => heresC (f env s) (g env s)) :=
  ⟨fun e s => by rw [(heres_len _ _).1]; exact h.lo e s, fun e s => by rw [(heres_len _ _).1]; exact h.hi e s, fun e s => by rw [(heres_len _ _).2.1]; exact h.plo e s, fun e s => by rw [(heres_len _ _).2.1]; exact h.phi e s⟩
theorem Gr.here {n m : Nat} {f : CF} (h : Gr n m f) (g : List ByteArray → CS → Nat) : Gr n m (fun env s => (f env s).here (g env s)) :=
  ⟨fun e s => by rw [here_len]; exact h.lo e s, fun e s => by rw [here_len]; exact h.hi e s, h.plo, h.phi⟩
theorem gr_arms (chk : Bool) : ∀ (qs : List MPat) (ts : List ET), (∀ t ∈ ts, Gr (4 * t.size - 3) (2 * t.size - 1) (cmp chk t)) → ∀ (env : List ByteArray) (s : CS) (js : List Nat),
    s.ins.length ≤ (armsC env (qs.zip (ts.map (cmp chk))) s js).1.ins.length ∧ (armsC env (qs.zip (ts.map (cmp chk))) s js).1.ins.length ≤ s.ins.length + 4 * sizeL ts ∧
    s.pats.length ≤ (armsC env (qs.zip (ts.map (cmp chk))) s js).1.pats.length ∧ (armsC env (qs.zip (ts.map (cmp chk))) s js).1.pats.length ≤ s.pats.length + 2 * sizeL ts
  | [], ts, _, env, s, js => by simp [armsC]
  | q :: qs, [], _, env, s, js => by simp [armsC]
  | q :: qs, t :: ts, h, env, s, js => by
    have h1 := gr_arm (h t (by simp)) q
    have hs := size_pos t
    obtain ⟨a1, a2, a3, a4⟩ := gr_arms chk qs ts (fun x hx => h x (by simp [hx])) env (armC q (cmp chk t) env s) (js ++ [(armC q (cmp chk t) env s).ins.length - 1])
    have b1 := h1.lo env s
    have b2 := h1.hi env s
    have b3 := h1.plo env s
    have b4 := h1.phi env s
    rw [List.map_cons, List.zip_cons_cons, armsC, sizeL_cons]
    omega
theorem gr_kids (chk : Bool) : ∀ (ts : List ET), (∀ t ∈ ts, Gr (4 * t.size - 3) (2 * t.size - 1) (cmp chk t)) → Gr (4 * sizeL ts) (2 * sizeL ts) (kidsC (ts.map (cmp chk)))
  | [], _ => ⟨fun _ _ => Nat.le_refl _, fun _ _ => Nat.le_add_right _ _, fun _ _ => Nat.le_refl _, fun _ _ => Nat.le_add_right _ _⟩
  | t :: ts, h => by
    have h1 := h t (by simp)
    have h2 := gr_kids chk ts fun x hx => h x (by simp [hx])
    have hs := size_pos t
    rw [sizeL_cons]
    exact (h1.comp h2 (fun e => e) (fun e => e)).mono (by omega) (by omega)
def endK (k : Int) : Bool := k == 1 || k == 2 || k == 4 || k == 6 || k == 10 || k == 11 || k == 12 || k == 14 || k == 16 || k == 17 || k == 18
theorem kindC_end {a : EI} {ks : List KF} (h : endK a.kind = true) : kindC a ks = fun env s => (kidsC (ks.map fun k => k.f) env s).emit (endI a ks.length) := by
  unfold endK at h
  simp only [Bool.or_eq_true, beq_iff_eq] at h
  unfold kindC
  rw [if_neg (by omega), if_neg (by omega), if_neg (by omega), if_neg (by omega), if_neg (by omega), if_neg (by omega), if_neg (by omega), if_neg (by omega)]
theorem kfs_f (chk : Bool) (l : List ET) : ((l.map (kf chk)).map fun k => k.f) = l.map (cmp chk) := by rw [List.map_map]; rfl
section
variable {chk : Bool} {a b : EI} {x y z : ET} {l : List ET} {env : List ByteArray} {s : CS}
theorem cmp_end (hs : stopB chk s = false) (h : endK a.kind = true) : cmp chk (.mk a l) env s = (kidsC (l.map (cmp chk)) env s).emit (endI a l.length) := by
  rw [cmp_go hs, kindC_end h, kfs_f, List.length_map]
theorem cmp_var (hs : stopB chk s = false) (k : a.kind = 3) : cmp chk (.mk a l) env s = nameC a.s env s := by
  rw [cmp_go hs]; unfold kindC; simp [k]
theorem cmp_fun (hs : stopB chk s = false) (k : a.kind = 5) : cmp chk (.mk a [x]) env s = funC 8 (cmp chk x) [a.s] env s := by
  rw [cmp_go hs]; unfold kindC; simp [k]; rfl
theorem cmp_rec (hs : stopB chk s = false) (k : a.kind = 8) : cmp chk (.mk a [.mk b [x], y]) env s = (cmp chk y (env ++ [a.s]) (funC 9 (cmp chk x) [a.s, b.s] env s)).emit ⟨15, 1, 0, eS⟩ := by
  rw [cmp_go hs]; unfold kindC; simp [k, kf_mk]; rfl
theorem cmp_seq (hs : stopB chk s = false) (k : a.kind = 19) : cmp chk (.mk a [x, y]) env s = cmp chk y env ((cmp chk x env s).emit ⟨25, 0, 0, eS⟩) := by
  rw [cmp_go hs]; unfold kindC; simp [k]; rfl
theorem cmp_let (hs : stopB chk s = false) (k : a.kind = 7) : cmp chk (.mk a [x, y]) env s = (cmp chk y (env ++ [a.s]) ((cmp chk x env s).emit ⟨14, 0, 0, eS⟩)).emit ⟨15, 1, 0, eS⟩ := by
  rw [cmp_go hs]; unfold kindC; simp [k]; rfl
theorem cmp_if (hs : stopB chk s = false) (k : a.kind = 9) : cmp chk (.mk a [x, y, z]) env s = ifC (cmp chk x) (cmp chk y) (cmp chk z) env s := by
  rw [cmp_go hs]; unfold kindC; simp [k]; rfl
theorem cmp_try (hs : stopB chk s = false) (k : a.kind = 15) : cmp chk (.mk a [x, y]) env s = tryC (cmp chk x) (cmp chk y) a.s env s := by
  rw [cmp_go hs]; unfold kindC; simp [k]; rfl
theorem cmp_mat (hs : stopB chk s = false) (k : a.kind = 13) : cmp chk (.mk a (x :: l)) env s = matC (cmp chk x) (a.pats.zip (l.map (cmp chk))) env s := by
  rw [cmp_go hs]; unfold kindC; simp only [k, Int.reduceEq, if_true, if_false, reduceIte, List.map_cons, List.getD_cons_zero, List.drop_succ_cons, List.drop_zero, kfs_f]; rfl
end
theorem gr_stop {n m : Nat} {f g : CF} {p : CS → Bool} (h : Gr n m g) (h1 : ∀ env s, p s = true → f env s = ⟨s.ins, s.pats, true⟩) (h2 : ∀ env s, p s = false → f env s = g env s) : Gr n m f := by
  refine ⟨fun e s => ?_, fun e s => ?_, fun e s => ?_, fun e s => ?_⟩ <;> cases hp : p s
  · rw [h2 e s hp]; exact h.lo e s
  · rw [h1 e s hp]; exact Nat.le_refl _
  · rw [h2 e s hp]; exact h.hi e s
  · rw [h1 e s hp]; exact Nat.le_add_right _ _
  · rw [h2 e s hp]; exact h.plo e s
  · rw [h1 e s hp]; exact Nat.le_refl _
  · rw [h2 e s hp]; exact h.phi e s
  · rw [h1 e s hp]; exact Nat.le_add_right _ _
theorem gr_id : Gr 0 0 (fun _ s => s) := ⟨fun _ _ => Nat.le_refl _, fun _ _ => Nat.le_refl _, fun _ _ => Nat.le_refl _, fun _ _ => Nat.le_refl _⟩
theorem Gr.emit {n m : Nat} {f : CF} (h : Gr n m f) (i : MIns) : Gr (n + 1) m (fun env s => (f env s).emit i) := h.comp (gr_emit i) (fun e => e) (fun e => e)
theorem cmp_gr (chk : Bool) : ∀ t : ET, okT t → Gr (4 * t.size - 3) (2 * t.size - 1) (cmp chk t) := fun t => by
  induction t using Arb.indS with
  | h t ih =>
    intro ok
    obtain ⟨a, l⟩ := t
    have ok1 := ok.kid
    have ihk : ∀ t ∈ l, Gr (4 * t.size - 3) (2 * t.size - 1) (cmp chk t) := fun t ht => ih t (size_lt ht) (ok1 t ht)
    have fin : ∀ {n m : Nat} {g : CF}, Gr n m g → n ≤ 4 * (1 + sizeL l) - 3 → m ≤ 2 * (1 + sizeL l) - 1 → (∀ env s, stopB chk s = false → cmp chk (.mk a l) env s = g env s) → Gr (4 * (Arb.mk a l).size - 3) (2 * (Arb.mk a l).size - 1) (cmp chk (.mk a l)) := fun h h1 h2 h3 => by
      rw [size_mk]
      exact (gr_stop h (fun env s hs => cmp_stop hs) h3).mono h1 h2
    have ends : endK a.kind = true → Gr (4 * (Arb.mk a l).size - 3) (2 * (Arb.mk a l).size - 1) (cmp chk (.mk a l)) := fun h => fin ((gr_kids chk l ihk).emit (endI a l.length)) (by omega) (by omega) fun env s hs => cmp_end hs h
    obtain ⟨v, -⟩ := ok.root
    cases v with
    | int k e => exact ends (by rw [k]; rfl)
    | str k e => exact ends (by rw [k]; rfl)
    | con0 k e => exact ends (by rw [k]; rfl)
    | cons b x y k e => exact ends (by rw [k]; rfl)
    | con1 x k e => exact ends (by rw [k]; rfl)
    | app x y k e => exact ends (by rw [k]; rfl)
    | prim x y k e => exact ends (by rw [k]; rfl)
    | pair x y k e => exact ends (by rw [k]; rfl)
    | unit k e => exact ends (by rw [k]; rfl)
    | raise x k e => exact ends (by rw [k]; rfl)
    | ref x k e => exact ends (by rw [k]; rfl)
    | get x k e => exact ends (by rw [k]; rfl)
    | set x y k e => exact ends (by rw [k]; rfl)
    | var k e => exact fin (gr_name a.s) (by omega) (by omega) fun env s hs => cmp_var hs k
    | func x k e =>
      subst e
      have hx := ihk x (by simp)
      have sx := size_pos x
      exact fin (gr_fun hx 8 [a.s]) (by simp only [sizeL_cons, sizeL_nil]; omega) (by simp only [sizeL_cons, sizeL_nil]; omega) fun env s hs => cmp_fun hs k
    | rec_ b x y k e =>
      subst e
      have hy := ihk y (by simp)
      have hx : Gr (4 * x.size - 3) (2 * x.size - 1) (cmp chk x) := ih x (size_lt2 (List.mem_singleton.2 rfl) (List.mem_cons_self ..)) ((ok1 _ (List.mem_cons_self ..)).kid x (List.mem_singleton.2 rfl))
      have sx := size_pos x
      have sy := size_pos y
      exact fin (((gr_fun hx 9 [a.s, b.s]).comp hy (fun e => e) (fun e => e ++ [a.s])).emit ⟨15, 1, 0, eS⟩) (by simp only [sizeL_cons, sizeL_nil, size_mk]; omega) (by simp only [sizeL_cons, sizeL_nil, size_mk]; omega) fun env s hs => cmp_rec hs k
    | seq x y k e =>
      subst e
      have hx := ihk x (by simp)
      have hy := ihk y (by simp)
      have sx := size_pos x
      have sy := size_pos y
      exact fin ((hx.emit ⟨25, 0, 0, eS⟩).comp hy (fun e => e) (fun e => e)) (by simp only [sizeL_cons, sizeL_nil]; omega) (by simp only [sizeL_cons, sizeL_nil]; omega) fun env s hs => cmp_seq hs k
    | let_ x y k e =>
      subst e
      have hx := ihk x (by simp)
      have hy := ihk y (by simp)
      have sx := size_pos x
      have sy := size_pos y
      exact fin (((hx.emit ⟨14, 0, 0, eS⟩).comp hy (fun e => e) (fun e => e ++ [a.s])).emit ⟨15, 1, 0, eS⟩) (by simp only [sizeL_cons, sizeL_nil]; omega) (by simp only [sizeL_cons, sizeL_nil]; omega) fun env s hs => cmp_let hs k
    | if_ x y z k e =>
      subst e
      have hx := ihk x (by simp)
      have hy := ihk y (by simp)
      have hz := ihk z (by simp)
      have sx := size_pos x
      have sy := size_pos y
      have sz := size_pos z
      exact fin (((((((hx.emit ⟨13, 0, 0, eS⟩).comp hy (fun e => e) (fun e => e)).emit ⟨12, 0, 0, eS⟩).here (fun env s => (cmp chk x env s).ins.length)).comp hz (fun e => e) (fun e => e)).here (fun env s => (cmp chk y env ((cmp chk x env s).emit ⟨13, 0, 0, eS⟩)).ins.length))) (by simp only [sizeL_cons, sizeL_nil]; omega) (by simp only [sizeL_cons, sizeL_nil]; omega) fun env s hs => cmp_if hs k
    | try_ x y k e =>
      subst e
      have hx := ihk x (by simp)
      have hy := ihk y (by simp)
      have sx := size_pos x
      have sy := size_pos y
      exact fin ((((((((gr_emit ⟨18, 0, 0, eS⟩).comp hx (fun e => e) (fun e => e)).emit ⟨19, 0, 0, eS⟩).emit ⟨12, 0, 0, eS⟩).here (fun env s => s.ins.length)).comp hy (fun e => e) (fun e => e ++ [a.s])).emit ⟨15, 1, 0, eS⟩).here (fun env s => ((cmp chk x env (s.emit ⟨18, 0, 0, eS⟩)).emit ⟨19, 0, 0, eS⟩).ins.length)) (by simp only [sizeL_cons, sizeL_nil]; omega) (by simp only [sizeL_cons, sizeL_nil]; omega) fun env s hs => cmp_try hs k
    | mat x r k e =>
      subst e
      have hx := ihk x (by simp)
      have sx := size_pos x
      have ga : Gr (4 * sizeL r) (2 * sizeL r) (fun env s => (armsC env (a.pats.zip (r.map (cmp chk))) s []).1) := by
        have h := gr_arms chk a.pats r fun t ht => ihk t (by simp [ht])
        exact ⟨fun e s => (h e s []).1, fun e s => (h e s []).2.1, fun e s => (h e s []).2.2.1, fun e s => (h e s []).2.2.2⟩
      exact fin (gr_heres ((hx.comp ga (fun e => e) (fun e => e)).emit ⟨21, 0, 0, eS⟩) (fun env s => (armsC env (a.pats.zip (r.map (cmp chk))) (cmp chk x env s) []).2)) (by simp only [sizeL_cons]; omega) (by simp only [sizeL_cons]; omega) fun env s hs => cmp_mat hs k
end Go.Proofs.YtahdaknaoogpkaaGreat

namespace Go.Proofs.YtahdaknaoogpkaaGreat
set_option linter.unusedVariables false
set_option linter.unusedSimpArgs false
open Arb
def Rl (s s' : CS) : Prop := s = s' ∨ (s.lost = true ∧ s'.lost = true)
def Lp (f : CF) : Prop := ∀ env s, s.lost = true → (f env s).lost = true
theorem lp_fun {f : CF} (h : Lp f) (op : Int) (names : List ByteArray) : Lp (funC op f names) := fun env s hs => h (env ++ names) (headC op s) hs
theorem lp_name (x : ByteArray) : Lp (nameC x) := fun env s hs => by
  unfold nameC
  split
  · exact hs
  · show (s.lost || _) = true
    rw [hs]; rfl
theorem lp_arm {f : CF} (h : Lp f) (q : MPat) : Lp (armC q f) := fun env s hs => h (env ++ pnames q.nodes) (arm0 q s) hs
theorem lp_arms : ∀ (l : List (MPat × CF)), (∀ p ∈ l, Lp p.2) → ∀ (env : List ByteArray) (s : CS) (js : List Nat), s.lost = true → (armsC env l s js).1.lost = true
  | [], _, env, s, js, hs => hs
  | (q, f) :: l, h, env, s, js, hs => lp_arms l (fun p hp => h p (List.mem_cons_of_mem _ hp)) env _ _ (lp_arm (h _ (List.mem_cons_self ..)) q env s hs)
theorem lp_kids : ∀ (l : List CF), (∀ f ∈ l, Lp f) → Lp (kidsC l)
  | [], _, env, s, hs => hs
  | f :: l, h, env, s, hs => lp_kids l (fun p hp => h p (List.mem_cons_of_mem _ hp)) env _ (h _ (List.mem_cons_self ..) env s hs)
theorem zip_mem {qs : List MPat} {ts : List CF} {p : MPat × CF} (h : p ∈ qs.zip ts) : p.2 ∈ ts := (List.of_mem_zip h).2
theorem cmp_lp (chk : Bool) : ∀ t : ET, okT t → Lp (cmp chk t) := fun t => by
  induction t using Arb.indS with
  | h t ih =>
    intro ok env s hs
    obtain ⟨a, l⟩ := t
    have ok1 := ok.kid
    have ihk : ∀ t ∈ l, Lp (cmp chk t) := fun t ht => ih t (size_lt ht) (ok1 t ht)
    cases hst : stopB chk s with
    | true => rw [cmp_stop hst]
    | false =>
      have ends : endK a.kind = true → (cmp chk (.mk a l) env s).lost = true := fun h => by
        rw [cmp_end hst h]
        exact lp_kids _ (fun f hf => by obtain ⟨t, ht, rfl⟩ := List.mem_map.1 hf; exact ihk t ht) env s hs
      have v := ok.root.v
      cases v with
      | var k e => rw [cmp_var hst k]; exact lp_name _ env s hs
      | func x k e => subst e; rw [cmp_fun hst k]; exact lp_fun (ihk x (by simp)) _ _ env s hs
      | rec_ b x y k e =>
        subst e
        rw [cmp_rec hst k]
        have hx := ih x (size_lt2 (r := [x]) (by simp) (List.mem_cons_self ..)) ((ok1 (.mk b [x]) (by simp)).kid x (by simp))
        exact ihk y (by simp) _ _ (lp_fun hx 9 [a.s, b.s] env s hs)
      | seq x y k e => subst e; rw [cmp_seq hst k]; exact ihk y (by simp) _ _ (ihk x (by simp) env s hs)
      | let_ x y k e => subst e; rw [cmp_let hst k]; exact ihk y (by simp) _ _ (ihk x (by simp) env s hs)
      | if_ x y z k e => subst e; rw [cmp_if hst k]; exact ihk z (by simp) env _ (ihk y (by simp) env _ (ihk x (by simp) env s hs))
      | try_ x y k e => subst e; rw [cmp_try hst k]; exact ihk y (by simp) _ _ (ihk x (by simp) env _ hs)
      | mat x r k e =>
        subst e
        rw [cmp_mat hst k]
        show (heresC _ _).lost = true
        rw [(heres_len _ _).2.2]
        exact lp_arms _ (fun p hp => by
          obtain ⟨t, ht, e⟩ := List.mem_map.1 (zip_mem hp)
          rw [← e]; exact ihk t (by simp [ht])) env _ _ (ihk x (by simp) env s hs)
      | int k e => exact ends (by rw [k]; rfl)
      | str k e => exact ends (by rw [k]; rfl)
      | con0 k e => exact ends (by rw [k]; rfl)
      | cons b x y k e => exact ends (by rw [k]; rfl)
      | con1 x k e => exact ends (by rw [k]; rfl)
      | app x y k e => exact ends (by rw [k]; rfl)
      | prim x y k e => exact ends (by rw [k]; rfl)
      | pair x y k e => exact ends (by rw [k]; rfl)
      | unit k e => exact ends (by rw [k]; rfl)
      | raise x k e => exact ends (by rw [k]; rfl)
      | ref x k e => exact ends (by rw [k]; rfl)
      | get x k e => exact ends (by rw [k]; rfl)
      | set x y k e => exact ends (by rw [k]; rfl)
def Ag (n : Nat) (f g : CF) : Prop := ∀ env s, s.ins.length + n ≤ 3000 → Rl (f env s) (g env s)
theorem Rl.ap {f g : CF} {n : Nat} (h : Ag n f g) (lf : Lp f) (lg : Lp g) {s s' : CS} (hs : Rl s s') (hn : s.ins.length + n ≤ 3000) (env : List ByteArray) : Rl (f env s) (g env s') := by
  rcases hs with rfl | ⟨h1, h2⟩
  · exact h env s hn
  · exact .inr ⟨lf env s h1, lg env s' h2⟩
theorem Rl.same {s s' : CS} (hs : Rl s s') {u : CS → CS} (hu : ∀ s, (u s).lost = s.lost) : Rl (u s) (u s') := by
  rcases hs with rfl | ⟨h1, h2⟩
  · exact .inl rfl
  · exact .inr ⟨(hu s).trans h1, (hu s').trans h2⟩
theorem ag_fun {f g : CF} {n : Nat} (h : Ag n f g) (lf : Lp f) (lg : Lp g) (op : Int) (names : List ByteArray) : Ag (n + 2) (funC op f names) (funC op g names) := fun env s hs => by
  have e0 : (headC op s).ins.length = s.ins.length + 2 := by rw [headC, emit_len, emit_len]
  have := h (env ++ names) (headC op s) (by omega)
  unfold funC
  exact this.same (u := fun q => (q.emit ⟨11, 0, 0, eS⟩).here (s.ins.length + 1)) fun q => rfl
theorem ag_arm {f g : CF} {n : Nat} (h : Ag n f g) (q : MPat) : Ag (n + 1) (armC q f) (armC q g) := fun env s hs => by
  have e0 : (arm0 q s).ins.length = s.ins.length + 1 := by simp [arm0]
  have := h (env ++ pnames q.nodes) (arm0 q s) (by omega)
  unfold armC arm1
  exact this.same (u := fun z => ⟨setB ((z.emit ⟨15, (pnames q.nodes).length, 0, eS⟩).emit ⟨12, 0, 0, eS⟩).ins s.ins.length ((z.emit ⟨15, (pnames q.nodes).length, 0, eS⟩).emit ⟨12, 0, 0, eS⟩).ins.length, ((z.emit ⟨15, (pnames q.nodes).length, 0, eS⟩).emit ⟨12, 0, 0, eS⟩).pats, ((z.emit ⟨15, (pnames q.nodes).length, 0, eS⟩).emit ⟨12, 0, 0, eS⟩).lost⟩) fun q => rfl
theorem ag_arms : ∀ (qs : List MPat) (ts : List ET), (∀ t ∈ ts, okT t ∧ Ag (4 * t.size - 3) (cmp true t) (cmp false t)) → ∀ (env : List ByteArray) (s s' : CS) (js js' : List Nat), (s = s' ∧ js = js' ∨ (s.lost = true ∧ s'.lost = true)) → s.ins.length + 4 * sizeL ts ≤ 3000 →
    ((armsC env (qs.zip (ts.map (cmp true))) s js) = (armsC env (qs.zip (ts.map (cmp false))) s' js') ∨ ((armsC env (qs.zip (ts.map (cmp true))) s js).1.lost = true ∧ (armsC env (qs.zip (ts.map (cmp false))) s' js').1.lost = true))
  | [], ts, _, env, s, s', js, js', h, _ => by
    rcases h with ⟨rfl, rfl⟩ | h
    · exact .inl (by simp [armsC])
    · exact .inr (by simpa [armsC] using h)
  | q :: qs, [], _, env, s, s', js, js', h, _ => by
    rcases h with ⟨rfl, rfl⟩ | h
    · exact .inl (by simp [armsC])
    · exact .inr (by simpa [armsC] using h)
  | q :: qs, t :: ts, hh, env, s, s', js, js', h, hn => by
    obtain ⟨ok, ag⟩ := hh t (by simp)
    rw [sizeL_cons] at hn
    have hz := size_pos t
    have gr := (gr_arm (cmp_gr true t ok) q).hi env s
    rw [List.map_cons, List.map_cons, List.zip_cons_cons, List.zip_cons_cons, armsC, armsC]
    have l1 := lp_arm (cmp_lp true t ok) q
    have l2 := lp_arm (cmp_lp false t ok) q
    refine ag_arms qs ts (fun x hx => hh x (by simp [hx])) env _ _ _ _ ?_ (by omega)
    rcases h with ⟨rfl, rfl⟩ | ⟨h1, h2⟩
    · rcases ag_arm ag q env s (by omega) with e | ⟨e1, e2⟩
      · exact .inl ⟨e, by rw [e]⟩
      · exact .inr ⟨e1, e2⟩
    · exact .inr ⟨l1 env s h1, l2 env s' h2⟩
theorem ag_kids : ∀ (ts : List ET), (∀ t ∈ ts, okT t ∧ Ag (4 * t.size - 3) (cmp true t) (cmp false t)) → ∀ (env : List ByteArray) (s s' : CS), Rl s s' → s.ins.length + 4 * sizeL ts ≤ 3000 → Rl (kidsC (ts.map (cmp true)) env s) (kidsC (ts.map (cmp false)) env s')
  | [], _, env, s, s', h, _ => h
  | t :: ts, hh, env, s, s', h, hn => by
    obtain ⟨ok, ag⟩ := hh t (by simp)
    rw [sizeL_cons] at hn
    have gr := (cmp_gr true t ok).hi env s
    have hz := size_pos t
    exact ag_kids ts (fun x hx => hh x (by simp [hx])) env (cmp true t env s) (cmp false t env s') (Rl.ap ag (cmp_lp true t ok) (cmp_lp false t ok) h (by omega) env) (by omega)
theorem cmp_ag : ∀ t : ET, okT t → Ag (4 * t.size - 3) (cmp true t) (cmp false t) := fun t => by
  induction t using Arb.indS with
  | h t ih =>
    intro ok env s hn
    obtain ⟨a, l⟩ := t
    have ok1 := ok.kid
    have ihk : ∀ t ∈ l, okT t ∧ Ag (4 * t.size - 3) (cmp true t) (cmp false t) := fun t ht => ⟨ok1 t ht, ih t (size_lt ht) (ok1 t ht)⟩
    rw [size_mk] at hn
    cases hl : s.lost with
    | true => exact .inr ⟨cmp_lp true _ ok env s hl, cmp_lp false _ ok env s hl⟩
    | false =>
      have hst : stopB true s = false := by unfold stopB; rw [hl]; simp; omega
      have hsf : stopB false s = false := rfl
      have em : ∀ {u u' : CS} (i : MIns), Rl u u' → Rl (u.emit i) (u'.emit i) := fun i h => h.same (u := fun q => q.emit i) fun _ => rfl
      have ends : endK a.kind = true → Rl (cmp true (.mk a l) env s) (cmp false (.mk a l) env s) := fun h => by
        rw [cmp_end hst h, cmp_end hsf h]
        exact em _ (ag_kids l ihk env s s (.inl rfl) (by omega))
      have ap : ∀ x ∈ l, ∀ {u u' : CS} (env : List ByteArray), Rl u u' → u.ins.length + (4 * x.size - 3) ≤ 3000 → Rl (cmp true x env u) (cmp false x env u') := fun x hx u u' env h hn => Rl.ap (ihk x hx).2 (cmp_lp true x (ihk x hx).1) (cmp_lp false x (ihk x hx).1) h hn env
      have gr : ∀ x ∈ l, ∀ env u, (cmp true x env u).ins.length ≤ u.ins.length + (4 * x.size - 3) := fun x hx env u => (cmp_gr true x (ok1 x hx)).hi env u
      have hr : ∀ {u u' v v' : CS}, Rl v v' → (v = v' → u = u') → (v.lost = true → v'.lost = true → u.lost = true ∧ u'.lost = true) → Rl (u.here v.ins.length) (u'.here v'.ins.length) := fun {u u' v v'} h h1 h2 => by
        rcases h with h | ⟨q1, q2⟩
        · rw [h, h1 h]; exact .inl rfl
        · exact .inr (h2 q1 q2)
      have v := ok.root.v
      cases v with
      | var k e => rw [cmp_var hst k, cmp_var hsf k]; exact .inl rfl
      | func x k e =>
        subst e
        simp only [sizeL_cons, sizeL_nil] at hn
        rw [cmp_fun hst k, cmp_fun hsf k]
        have := size_pos x
        exact ag_fun (ihk x (by simp)).2 (cmp_lp true x (ihk x (by simp)).1) (cmp_lp false x (ihk x (by simp)).1) _ _ env s (by omega)
      | rec_ b x y k e =>
        subst e
        simp only [sizeL_cons, sizeL_nil, size_mk] at hn
        rw [cmp_rec hst k, cmp_rec hsf k]
        have okx := (ok1 (.mk b [x]) (by simp)).kid x (by simp)
        have hx := ih x (size_lt2 (r := [x]) (by simp) (List.mem_cons_self ..)) okx
        have h1 := ag_fun hx (cmp_lp true x okx) (cmp_lp false x okx) 9 [a.s, b.s] env s (by omega)
        have g1 := (gr_fun (cmp_gr true x okx) 9 [a.s, b.s]).hi env s
        have := size_pos x
        exact em _ (ap y (by simp) _ h1 (by omega))
      | seq x y k e =>
        subst e
        simp only [sizeL_cons, sizeL_nil] at hn
        rw [cmp_seq hst k, cmp_seq hsf k]
        have g1 := gr x (by simp) env s
        exact ap y (by simp) env (em _ (ap x (by simp) env (.inl rfl) (by omega))) (by rw [emit_len]; have := size_pos x; omega)
      | let_ x y k e =>
        subst e
        simp only [sizeL_cons, sizeL_nil] at hn
        rw [cmp_let hst k, cmp_let hsf k]
        have g1 := gr x (by simp) env s
        exact em _ (ap y (by simp) _ (em _ (ap x (by simp) env (.inl rfl) (by omega))) (by rw [emit_len]; have := size_pos x; omega))
      | if_ x y z k e =>
        subst e
        simp only [sizeL_cons, sizeL_nil] at hn
        rw [cmp_if hst k, cmp_if hsf k]
        have zx := size_pos x
        have zy := size_pos y
        have g1 := gr x (by simp) env s
        have h1 := ap x (by simp) env (.inl (rfl : s = s)) (by omega)
        have h2 := ap y (by simp) env (em ⟨13, 0, 0, eS⟩ h1) (by rw [emit_len]; omega)
        have g2 := gr y (by simp) env ((cmp true x env s).emit ⟨13, 0, 0, eS⟩)
        rw [emit_len] at g2
        have h3 := em ⟨12, 0, 0, eS⟩ h2
        have lx := cmp_lp true x (ok1 x (by simp))
        have ly := cmp_lp true y (ok1 y (by simp))
        have lz := cmp_lp true z (ok1 z (by simp))
        have lx' := cmp_lp false x (ok1 x (by simp))
        have ly' := cmp_lp false y (ok1 y (by simp))
        have lz' := cmp_lp false z (ok1 z (by simp))
        unfold ifC
        have h4 : Rl (((cmp true y env ((cmp true x env s).emit ⟨13, 0, 0, eS⟩)).emit ⟨12, 0, 0, eS⟩).here (cmp true x env s).ins.length) (((cmp false y env ((cmp false x env s).emit ⟨13, 0, 0, eS⟩)).emit ⟨12, 0, 0, eS⟩).here (cmp false x env s).ins.length) := by
          rcases h1 with e | ⟨q1, q2⟩
          · rw [← e] at h3 ⊢
            exact h3.same (u := fun q => q.here (cmp true x env s).ins.length) fun _ => rfl
          · exact .inr ⟨ly env _ q1, ly' env _ q2⟩
        have h5 := ap z (by simp) env h4 (by rw [here_len, emit_len]; omega)
        rcases h2 with e | ⟨q1, q2⟩
        · rw [← e] at h5 ⊢
          exact h5.same (u := fun q => q.here (cmp true y env ((cmp true x env s).emit ⟨13, 0, 0, eS⟩)).ins.length) fun _ => rfl
        · exact .inr ⟨lz env _ q1, lz' env _ q2⟩
      | try_ x y k e =>
        subst e
        simp only [sizeL_cons, sizeL_nil] at hn
        rw [cmp_try hst k, cmp_try hsf k]
        have zx := size_pos x
        have g1 := gr x (by simp) env (s.emit ⟨18, 0, 0, eS⟩)
        rw [emit_len] at g1
        have h1 := ap x (by simp) env (.inl (rfl : s.emit ⟨18, 0, 0, eS⟩ = s.emit ⟨18, 0, 0, eS⟩)) (by rw [emit_len]; omega)
        have h2 := em ⟨19, 0, 0, eS⟩ h1
        have h3 := em ⟨12, 0, 0, eS⟩ h2
        have h4 := h3.same (u := fun q => q.here s.ins.length) fun _ => rfl
        have h5 := em ⟨15, 1, 0, eS⟩ (ap y (by simp) (env ++ [a.s]) h4 (by rw [here_len, emit_len, emit_len]; omega))
        have ly := cmp_lp true y (ok1 y (by simp))
        have ly' := cmp_lp false y (ok1 y (by simp))
        unfold tryC
        rcases h2 with e | ⟨q1, q2⟩
        · rw [← e] at h5 ⊢
          exact h5.same (u := fun q => q.here ((cmp true x env (s.emit ⟨18, 0, 0, eS⟩)).emit ⟨19, 0, 0, eS⟩).ins.length) fun _ => rfl
        · exact .inr ⟨ly _ _ q1, ly' _ _ q2⟩
      | mat x r k e =>
        subst e
        simp only [sizeL_cons] at hn
        rw [cmp_mat hst k, cmp_mat hsf k]
        have zx := size_pos x
        have g1 := gr x (by simp) env s
        have h1 := ap x (by simp) env (.inl (rfl : s = s)) (by omega)
        have h2 := ag_arms a.pats r (fun t ht => ihk t (by simp [ht])) env (cmp true x env s) (cmp false x env s) [] [] (h1.imp (fun h => ⟨h, rfl⟩) id) (by omega)
        unfold matC
        rcases h2 with e | ⟨q1, q2⟩
        · rw [e]; exact .inl rfl
        · right
          rw [(heres_len _ _).2.2, (heres_len _ _).2.2]
          exact ⟨q1, q2⟩
      | int k e => exact ends (by rw [k]; rfl)
      | str k e => exact ends (by rw [k]; rfl)
      | con0 k e => exact ends (by rw [k]; rfl)
      | cons b x y k e => exact ends (by rw [k]; rfl)
      | con1 x k e => exact ends (by rw [k]; rfl)
      | app x y k e => exact ends (by rw [k]; rfl)
      | prim x y k e => exact ends (by rw [k]; rfl)
      | pair x y k e => exact ends (by rw [k]; rfl)
      | unit k e => exact ends (by rw [k]; rfl)
      | raise x k e => exact ends (by rw [k]; rfl)
      | ref x k e => exact ends (by rw [k]; rfl)
      | get x k e => exact ends (by rw [k]; rfl)
      | set x y k e => exact ends (by rw [k]; rfl)
/-! ### what is laid down bears the program's words -/
structure SmC (R : ByteArray → Prop) (Q : MPat → Prop) (s : CS) : Prop where
  ins : ∀ i ∈ s.ins, R i.s
  pats : ∀ q ∈ s.pats, Q q
def SmF (R : ByteArray → Prop) (Q : MPat → Prop) (f : CF) : Prop := ∀ env s, SmC R Q s → SmC R Q (f env s)
section
variable {R : ByteArray → Prop} {Q : MPat → Prop}
theorem SmC.emit {s : CS} (h : SmC R Q s) (i : MIns) (hi : R i.s) : SmC R Q (s.emit i) :=
  ⟨fun j hj => by
    rcases List.mem_append.1 hj with hj | hj
    · exact h.ins j hj
    · rw [List.mem_singleton.1 hj]; exact hi, h.pats⟩
theorem setA_mem {l : List MIns} {k : Nat} {v : Int} {i : MIns} (h : i ∈ setA l k v) : ∃ j ∈ l, i.s = j.s := by
  unfold setA at h
  split at h
  · rename_i x hx
    rcases List.mem_or_eq_of_mem_set h with h | h
    · exact ⟨i, h, rfl⟩
    · exact ⟨x, List.mem_of_getElem? hx, by rw [h]⟩
  · exact ⟨i, h, rfl⟩
theorem setB_mem {l : List MIns} {k : Nat} {v : Int} {i : MIns} (h : i ∈ setB l k v) : ∃ j ∈ l, i.s = j.s := by
  unfold setB at h
  split at h
  · rename_i x hx
    rcases List.mem_or_eq_of_mem_set h with h | h
    · exact ⟨i, h, rfl⟩
    · exact ⟨x, List.mem_of_getElem? hx, by rw [h]⟩
  · exact ⟨i, h, rfl⟩
theorem SmC.here {s : CS} (h : SmC R Q s) (k : Nat) : SmC R Q (s.here k) :=
  ⟨fun i hi => by obtain ⟨j, hj, e⟩ := setA_mem hi; rw [e]; exact h.ins j hj, h.pats⟩
theorem SmC.heres {s : CS} (h : SmC R Q s) : ∀ js : List Nat, SmC R Q (heresC s js) := fun js => by
  induction js generalizing s with
  | nil => exact h
  | cons j l ih => exact ih (h.here j)
theorem sm_fun {f : CF} (h : SmF R Q f) (he : R eS) (op : Int) (names : List ByteArray) : SmF R Q (funC op f names) := fun env s hs => ((h _ _ ((hs.emit _ he).emit _ he)).emit _ he).here _
theorem sm_arm {f : CF} (h : SmF R Q f) (he : R eS) {q : MPat} (hq : Q q) : SmF R Q (armC q f) := fun env s hs => by
  have h0 : SmC R Q (arm0 q s) := ⟨(hs.emit ⟨20, s.pats.length, 0, eS⟩ he).ins, fun p hp => by
    rcases List.mem_append.1 hp with hp | hp
    · exact hs.pats p hp
    · rw [List.mem_singleton.1 hp]; exact hq⟩
  have h1 : SmC R Q (arm1 q f env s) := ((h _ _ h0).emit _ he).emit _ he
  exact ⟨fun i hi => by obtain ⟨j, hj, e⟩ := setB_mem hi; rw [e]; exact h1.ins j hj, h1.pats⟩
theorem sm_arms (he : R eS) : ∀ (l : List (MPat × CF)), (∀ p ∈ l, Q p.1 ∧ SmF R Q p.2) → ∀ (env : List ByteArray) (s : CS) (js : List Nat), SmC R Q s → SmC R Q (armsC env l s js).1
  | [], _, env, s, js, hs => hs
  | (q, f) :: l, h, env, s, js, hs => sm_arms he l (fun p hp => h p (List.mem_cons_of_mem _ hp)) env _ _ (sm_arm (h _ (List.mem_cons_self ..)).2 he (h _ (List.mem_cons_self ..)).1 env s hs)
theorem sm_kids : ∀ (l : List CF), (∀ f ∈ l, SmF R Q f) → SmF R Q (kidsC l)
  | [], _, env, s, hs => hs
  | f :: l, h, env, s, hs => sm_kids l (fun p hp => h p (List.mem_cons_of_mem _ hp)) env _ (h _ (List.mem_cons_self ..) env s hs)
theorem endI_s (a : EI) (n : Nat) : (endI a n).s = eS ∨ (endI a n).s = a.s := by
  unfold endI
  split
  · exact .inl rfl
  split
  · exact .inr rfl
  split
  · exact .inl rfl
  split
  · exact .inl rfl
  split
  · exact .inl rfl
  split
  · exact .inl rfl
  split
  · exact .inl rfl
  split
  · exact .inr rfl
  split
  · exact .inl rfl
  split
  · exact .inr rfl
  split
  · exact .inl rfl
  exact .inl rfl
theorem cmp_sm (chk : Bool) (he : R eS) : ∀ t : ET, okT t → All (fun a _ => R a.s ∧ ∀ q ∈ a.pats, Q q) t → SmF R Q (cmp chk t) := fun t => by
  induction t using Arb.indS with
  | h t ih =>
    intro ok sm env s hs
    obtain ⟨a, l⟩ := t
    have ok1 := ok.kid
    have sm1 := sm.kid
    obtain ⟨ha, hq⟩ := sm.root
    have ihk : ∀ t ∈ l, SmF R Q (cmp chk t) := fun t ht => ih t (size_lt ht) (ok1 t ht) (sm1 t ht)
    cases hst : stopB chk s with
    | true => rw [cmp_stop hst]; exact ⟨hs.ins, hs.pats⟩
    | false =>
      have ends : endK a.kind = true → SmC R Q (cmp chk (.mk a l) env s) := fun h => by
        rw [cmp_end hst h]
        refine (sm_kids _ (fun f hf => by obtain ⟨t, ht, rfl⟩ := List.mem_map.1 hf; exact ihk t ht) env s hs).emit _ ?_
        rcases endI_s a l.length with e | e <;> rw [e]
        · exact he
        · exact ha
      have v := ok.root.v
      cases v with
      | var k e =>
        rw [cmp_var hst k]
        unfold nameC
        split
        · exact hs.emit _ he
        · exact ⟨(hs.emit ⟨7, 0, 0, a.s⟩ ha).ins, hs.pats⟩
      | func x k e => subst e; rw [cmp_fun hst k]; exact sm_fun (ihk x (by simp)) he _ _ env s hs
      | rec_ b x y k e =>
        subst e
        rw [cmp_rec hst k]
        have hx := ih x (size_lt2 (r := [x]) (by simp) (List.mem_cons_self ..)) ((ok1 (.mk b [x]) (by simp)).kid x (by simp)) ((sm1 (.mk b [x]) (by simp)).kid x (by simp))
        exact (ihk y (by simp) _ _ (sm_fun hx he 9 [a.s, b.s] env s hs)).emit _ he
      | seq x y k e => subst e; rw [cmp_seq hst k]; exact ihk y (by simp) _ _ ((ihk x (by simp) env s hs).emit _ he)
      | let_ x y k e => subst e; rw [cmp_let hst k]; exact (ihk y (by simp) _ _ ((ihk x (by simp) env s hs).emit _ he)).emit _ he
      | if_ x y z k e => subst e; rw [cmp_if hst k]; exact (ihk z (by simp) env _ (((ihk y (by simp) env _ ((ihk x (by simp) env s hs).emit _ he)).emit _ he).here _)).here _
      | try_ x y k e => subst e; rw [cmp_try hst k]; exact ((ihk y (by simp) _ _ ((((ihk x (by simp) env _ (hs.emit _ he)).emit _ he).emit _ he).here _)).emit _ he).here _
      | mat x r k e =>
        subst e
        rw [cmp_mat hst k]
        refine ((sm_arms he _ (fun p hp => ⟨hq _ (List.of_mem_zip hp).1, ?_⟩) env _ _ (ihk x (by simp) env s hs)).emit _ he).heres _
        obtain ⟨t, ht, e⟩ := List.mem_map.1 (zip_mem hp)
        rw [← e]; exact ihk t (by simp [ht])
      | int k e => exact ends (by rw [k]; rfl)
      | str k e => exact ends (by rw [k]; rfl)
      | con0 k e => exact ends (by rw [k]; rfl)
      | cons b x y k e => exact ends (by rw [k]; rfl)
      | con1 x k e => exact ends (by rw [k]; rfl)
      | app x y k e => exact ends (by rw [k]; rfl)
      | prim x y k e => exact ends (by rw [k]; rfl)
      | pair x y k e => exact ends (by rw [k]; rfl)
      | unit k e => exact ends (by rw [k]; rfl)
      | raise x k e => exact ends (by rw [k]; rfl)
      | ref x k e => exact ends (by rw [k]; rfl)
      | get x k e => exact ends (by rw [k]; rfl)
      | set x y k e => exact ends (by rw [k]; rfl)
end
end Go.Proofs.YtahdaknaoogpkaaGreat
