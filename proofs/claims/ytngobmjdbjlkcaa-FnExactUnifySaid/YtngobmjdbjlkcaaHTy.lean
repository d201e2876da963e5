import Derived.Test.YtngobmjdbjlkcaaHTyItem
/- Data Ty over the second engine: how they lie, own and lent; copies, sizes, comparisons, marks. Printed by gen2.py. -/
namespace Go.Proofs.Ytngobmjdbjlkcaa
set_option linter.unusedVariables false
set_option linter.unusedSimpArgs false
open Go.RowKit Go.ChangeShapes Go.WideShapes
structure MTy where
  items : List TyI
def MTy.enc (x : MTy) : List D := [.sl 3 (x.items.map TyI.enc)]
theorem MTy.enc_eq (x : MTy) : x.enc = [.sl 3 (x.items.map TyI.enc)] := rfl
def MTy.own (x : MTy) : List D := [.osl 31 3 (x.items.map TyI.own)]
theorem MTy.own_eq (x : MTy) : x.own = [.osl 31 3 (x.items.map TyI.own)] := rfl
theorem MTy.frz_eq (x : MTy) : frzL x.own = x.enc := by
  simp only [MTy.own_eq, MTy.enc_eq, frzL, frz, frz_rows TyI.frz_eq]
def MTy.ok (x : MTy) : Prop := (∀ y ∈ x.items, y.ok)
def MTy.sm (x : MTy) : Prop := smS TyI.sm x.items
def MTy.cnt (x : MTy) : Nat := cnts TyI.cnt x.items
def MTy.mark (k : Int) (x : MTy) : MTy := ⟨marks TyI.cnt TyI.mark k x.items⟩
theorem MTy.cnt_eq (x : MTy) : x.cnt = cnts TyI.cnt x.items := rfl
theorem MTy.mark_eq (k : Int) (x : MTy) : MTy.mark k x = ⟨marks TyI.cnt TyI.mark k x.items⟩ := rfl
theorem MTy.pure (x : MTy) : ∀ d ∈ x.own, Pure d := by
  simp only [MTy.own_eq, List.forall_mem_cons, List.not_mem_nil, false_imp_iff, implies_true, and_true]
  exact pure_rows TyI.pure _ _ _
theorem MTy.pureS (e k : Nat) (xs : List MTy) : Pure (.osl e k (xs.map MTy.own)) = True := eq_true (pure_rows MTy.pure e k xs)
attribute [go_sem] MTy.pureS
theorem MTy.frzS (xs : List MTy) : frzLL (xs.map MTy.own) = xs.map MTy.enc := frz_rows MTy.frz_eq xs
attribute [go_sem] MTy.frzS
set_option maxRecDepth 100000 in
set_option maxHeartbeats 1000000 in
theorem c_toTy (x : MTy) (hs : x.sm) : FCon Try.prog 18 [.ag x.enc] (fun r _ => r = .ag x.own) := by
  refine FCon.intro PM _ Try.func18 (by kernel_rfl) rfl _ Try.ntmps18 rfl [] (by decide +kernel) (by simp) (by simp) rfl (by first | rfl | simp only [go_sem]) ?_
  (have hWf := WFx.mk (And.intro @MTy.enc_eq <| @MTy.own_eq); repeat' (first | refine zS ?_ | exact zE | with_reducible apply And.intro | refine zK (c_toTyItemS x.items (hs)) ?_ | ((with_reducible intro hb0); revert hb0; with_reducible first | exact zB0 | refine zB fun hb => ?_ | fail) | ((with_reducible apply q_Meet); exact zM) | exact zC | refine zT ?_ | fail))
set_option maxRecDepth 100000 in
set_option maxHeartbeats 1000000 in
theorem c_szTy (x : MTy) (ho : x.ok) (left : Int) (h0 : 0 ≤ left) (h1 : left ≤ 1048576) : FCon Try.prog 15 [.ag x.enc, .s (.int .i64 left)] (fun r _ => RsZ left x.sm r) := by
  refine FCon.intro PM _ Try.func15 (by kernel_rfl) rfl _ Try.ntmps15 rfl [] (by decide +kernel) (by simp) (by simp) rfl (by first | rfl | simp only [go_sem]) ?_
  (have hWf := WFx.mk @MTy.enc_eq; repeat' (first | refine zS ?_ | exact zE | with_reducible apply And.intro | ((with_reducible apply q_CallG); refine CallG_mk (c_szTyItemS x.items (ho) _ (by omega) (by omega)) ?_; rintro _ _ ⟨z0, rfl, z0a, z0b, z0c⟩) | ((with_reducible apply q_CallQ); refine CallQ_mk (c_szTyItemS x.items (ho) _ (by omega) (by omega)) ?_) | ((with_reducible intro hb0); revert hb0; with_reducible first | exact zB0 | refine zB fun hb => ?_ | fail) | ((with_reducible apply q_Meet); exact zM) | exact zC | refine zT ?_ | fail))
  all_goals (first | exact ⟨_, rfl, by omega, by omega, by omega⟩ | exact ⟨_, rfl, by omega, by omega, fun _ => (show smS TyI.sm x.items from (z0c (by omega)))⟩)
set_option maxRecDepth 100000 in
set_option maxHeartbeats 1000000 in
theorem c_eqTy (x : MTy) : FCon Try.prog 21 [.ag x.enc, .ag x.enc] (fun r _ => r = .s (.bool true)) := by
  refine FCon.intro PM _ Try.func21 (by kernel_rfl) rfl _ Try.ntmps21 rfl [] (by decide +kernel) (by simp) (by simp) rfl (by first | rfl | simp only [go_sem]) ?_
  (have hWf := WFx.mk @MTy.enc_eq; repeat' (first | refine zS ?_ | exact zE | with_reducible apply And.intro | refine zK (c_eqTyItemS x.items) ?_ | ((with_reducible intro hb0); revert hb0; with_reducible first | exact zB0 | refine zB fun hb => ?_ | fail) | ((with_reducible apply q_Meet); exact zM) | exact zC | refine zT ?_ | fail))
set_option maxRecDepth 100000 in
set_option maxHeartbeats 1000000 in
theorem c_markTy (x : MTy) (hs : x.sm) (k : Int) (h0 : 0 ≤ k) (hk : k + x.cnt ≤ 4611686018427387904) : FCon Try.prog 23 [.ag x.own, .s (.int .i64 k)] (fun r o => r = .s (.int .i64 (k + x.cnt)) ∧ o = [.ag (MTy.mark k x).own, .un]) := by
  simp only [MTy.cnt] at hk
  refine FCon.intro PM _ Try.func23 (by kernel_rfl) rfl _ Try.ntmps23 rfl [] (by decide +kernel) (by simp) (by simp) rfl (by first | rfl | simp only [go_sem]) ?_
  (have hWf := WFx.mk (And.intro @MTy.own_eq <| And.intro @marks_len <| And.intro @MTy.cnt_eq <| @MTy.mark_eq); repeat' (first | refine zS ?_ | exact zE | with_reducible apply And.intro | ((with_reducible apply q_CallG); refine CallG_mk (c_markTyItemS x.items (hs).1 _ (by omega) (by omega)) ?_; rintro _ _ ⟨rfl, rfl⟩) | ((with_reducible apply q_CallQ); refine CallQ_mk (c_markTyItemS x.items (hs).1 _ (by omega) (by omega)) ?_) | ((with_reducible intro hb0); revert hb0; with_reducible first | exact zB0 | refine zB fun hb => ?_ | fail) | ((with_reducible apply q_Meet); exact zM) | exact zC | refine zT ?_ | fail))
set_option maxRecDepth 100000 in
set_option maxHeartbeats 1000000 in
theorem c_heldTy (x : MTy) (hs : x.sm) (k : Int) (h0 : 0 ≤ k) (hk : k + x.cnt ≤ 4611686018427387904) : FCon Try.prog 25 [.ag (MTy.mark k x).enc, .s (.int .i64 k)] (fun r _ => r = .s (.int .i64 (k + x.cnt))) := by
  simp only [MTy.cnt] at hk
  refine FCon.intro PM _ Try.func25 (by kernel_rfl) rfl _ Try.ntmps25 rfl [] (by decide +kernel) (by simp) (by simp) rfl (by first | rfl | simp only [go_sem]) ?_
  (have hWf := WFx.mk (And.intro @MTy.enc_eq <| And.intro @MTy.mark_eq <| @MTy.cnt_eq); repeat' (first | refine zS ?_ | exact zE | with_reducible apply And.intro | ((with_reducible apply q_CallG); refine zG (c_heldTyItemS x.items (hs).1 _ (by omega) (by omega)) ?_) | ((with_reducible apply q_CallQ); refine CallQ_mk (c_heldTyItemS x.items (hs).1 _ (by omega) (by omega)) ?_) | ((with_reducible intro hb0); revert hb0; with_reducible first | exact zB0 | refine zB fun hb => ?_ | fail) | ((with_reducible apply q_Meet); exact zM) | exact zC | refine zT ?_ | fail))
end Go.Proofs.Ytngobmjdbjlkcaa
