import Derived.Test.YthkgncddilkmbaaGw
import Derived.Test.YthkgncddilkmbaaDecB
/- The text of a mark, and laws.markText. -/
namespace Go.Proofs.Ythkgncddilkmbaa
set_option linter.unusedVariables false
set_option linter.unusedSimpArgs false
open Go.RowKit
/-- the text of a mark. -/
def markT (k : Int) : List UInt8 := 109 :: decL k.toNat
theorem markT_len {k : Int} (h : k ≤ 4611686018427387904) : (markT k).length ≤ 20 := by
  have := decL_len 18 k.toNat (by omega)
  unfold markT; simp; omega
theorem markT_pos {K : Nat} (l : List UInt8) (h : decL K = l) : (⟨#[109]⟩ : ByteArray) ++ bs l = bs (markT (K : Int)) := by
  unfold markT; rw [Int.toNat_natCast, h]; exact str_app [109] l
def mInv (K n : Nat) (l : List UInt8) : Prop := (0 < n → decL K = decL n ++ l) ∧ (n = 0 → decL K = l) ∧ l.length ≤ 20
theorem mInv_step {K n : Nat} {l : List UInt8} (h : mInv K n l) (h0 : 0 < n) (hK : K ≤ 4611686018427387904) : mInv K (n / 10) (dgt (n % 10) :: l) := by
  have e := h.1 h0
  have key : decL K = (if 0 < n / 10 then decL (n / 10) ++ (dgt (n % 10) :: l) else dgt (n % 10) :: l) := by
    by_cases q : 0 < n / 10
    · rw [if_pos q, e, decL_big (by omega)]; simp
    · rw [if_neg q, e, decL_small (by omega), Nat.mod_eq_of_lt (by omega)]; simp
  refine ⟨fun q => by rw [key, if_pos q], fun q => by rw [key, if_neg (by omega)], ?_⟩
  have hl := decL_len 18 K (by omega)
  rw [key] at hl
  split at hl
  · rw [List.length_append] at hl; omega
  · omega
def mkB (k : Int) : ByteArray := bs (markT k)
theorem mkB_len {k : Int} (h : k ≤ 4611686018427387904) : (mkB k).size ≤ 20 := by unfold mkB; rw [bs_size]; exact markT_len h
end Go.Proofs.Ythkgncddilkmbaa

/- Data over the second engine: rows laid one after another, sizes, marks. -/
namespace Go.Proofs.Ythkgncddilkmbaa
set_option linter.unusedVariables false
set_option linter.unusedSimpArgs false
open Go.RowKit
/-- a number as a row. -/
def iE (n : Int) : List D := [.s (.int .i64 n)]
theorem iE_eq (n : Int) : iE n = [.s (.int .i64 n)] := rfl
abbrev intsD (l : List Int) : D := .sl 1 (l.map iE)
/-- rows laid one after another into a slice that was made. -/
def partR {α : Type} (f : α → List D) (z : List D) (xs : List α) (i : Nat) : List (List D) := (xs.take i).map f ++ List.replicate (xs.length - i) z
section
variable {α : Type} {f : α → List D} {z : List D} {xs : List α} {i : Nat}
theorem partR_zero : partR f z xs 0 = List.replicate xs.length z := by simp [partR]
theorem partR_all : partR f z xs xs.length = xs.map f := by simp [partR]
theorem partR_len (h : i ≤ xs.length) : (partR f z xs i).length = xs.length := by simp [partR]; omega
theorem partR_set (h : i < xs.length) : (partR f z xs i).set i (f xs[i]) = partR f z xs (i + 1) := by
  unfold partR
  have e : (xs.length - i) = (xs.length - (i + 1)) + 1 := by omega
  rw [List.set_append_right _ _ (by simp; omega), List.length_map, List.length_take, Nat.min_eq_left (by omega), Nat.sub_self, e, List.replicate_succ, List.set_cons_zero, List.take_succ_eq_append_getElem h, List.map_append]
  simp
theorem partR_get (h : i < xs.length) : (partR f z xs i).getD i [] = z := by
  unfold partR
  rw [List.getD_eq_getElem?_getD, List.getElem?_append_right (by simp; omega)]
  have e : (xs.length - i) = (xs.length - (i + 1)) + 1 := by omega
  simp [Nat.min_eq_left (Nat.le_of_lt h), e, List.replicate_succ]
theorem take_all (f : α → List D) (xs : List α) : (xs.map f).take xs.length = xs.map f := List.take_of_length_le (by simp)
theorem frz_rows {g : α → List D} (h : ∀ x, frzL (f x) = g x) (xs : List α) : frzLL (xs.map f) = xs.map g := by
  rw [frzLL_map, List.map_map]; exact List.map_congr_left fun x _ => h x
end
theorem takeL {α : Type} {l : List α} {i : Nat} (h : l.length = i) : l.take i = l := List.take_of_length_le (by omega)
theorem frzLL_app (a b : List (List D)) : frzLL (a ++ b) = frzLL a ++ frzLL b := by rw [frzLL_map, frzLL_map, frzLL_map, List.map_append]
theorem frzLL_nil : frzLL [] = [] := rfl
theorem frzLL_cons (r : List D) (l : List (List D)) : frzLL (r :: l) = frzL r :: frzLL l := rfl
/-- the answer of a size function. -/
def RsZ (left : Int) (P : Prop) (r : D) : Prop := ∃ z : Int, r = .s (.int .i64 z) ∧ -1 ≤ z ∧ z ≤ left ∧ (0 ≤ z → P)
def smS {α : Type} (s : α → Prop) (xs : List α) : Prop := xs.length ≤ 1048576 ∧ ∀ x ∈ xs, s x
theorem sI_congr {a b : Int} (h : a = b) : D.s (.int .i64 a) = .s (.int .i64 b) := by rw [h]
/-! ### marks -/
/-- how many numbers the marks of a row of things take. -/
def cnts {α : Type} (c : α → Nat) : List α → Nat
  | [] => 0
  | x :: l => c x + cnts c l
/-- things marked from k on. -/
def marks {α : Type} (c : α → Nat) (m : Int → α → α) : Int → List α → List α
  | _, [] => []
  | k, x :: l => m k x :: marks c m (k + c x) l
section
variable {α : Type} {c : α → Nat} {m : Int → α → α}
theorem marks_len : ∀ (k : Int) (xs : List α), (marks c m k xs).length = xs.length
  | _, [] => rfl
  | k, x :: l => by simp [marks, marks_len (k + c x) l]
theorem cnts_const {n : Nat} (hc : ∀ x, c x = n) : ∀ (xs : List α), cnts c xs = n * xs.length
  | [] => rfl
  | x :: l => by rw [cnts, hc, cnts_const hc l, List.length_cons, Nat.mul_add]; omega
theorem cnts_app : ∀ (a b : List α), cnts c (a ++ b) = cnts c a + cnts c b
  | [], b => by simp [cnts]
  | x :: l, b => by simp [cnts, cnts_app l b]; omega
theorem cnts_step {xs : List α} {i : Nat} (h : i < xs.length) : cnts c (xs.take (i + 1)) = cnts c (xs.take i) + c xs[i] := by
  rw [List.take_succ_eq_append_getElem h, cnts_app]; simp [cnts]
theorem cnts_le (xs : List α) (i : Nat) : cnts c (xs.take i) ≤ cnts c xs := by
  have := cnts_app (c := c) (xs.take i) (xs.drop i)
  rw [List.take_append_drop] at this; omega
theorem marks_app : ∀ (k : Int) (a b : List α), marks c m k (a ++ b) = marks c m k a ++ marks c m (k + cnts c a) b
  | k, [], b => by simp [marks, cnts]
  | k, x :: l, b => by
    have e : k + (c x : Int) + (cnts c l : Int) = k + ((c x + cnts c l : Nat) : Int) := by push_cast; omega
    simp [marks, cnts, marks_app (k + c x) l b, Int.add_assoc]
theorem take_marks (k : Int) (xs : List α) (f : α → List D) : ((marks c m k xs).map f).take xs.length = (marks c m k xs).map f := List.take_of_length_le (by simp [marks_len])
/-- the first i are marked. -/
def stM (c : α → Nat) (m : Int → α → α) (k : Int) (xs : List α) (i : Nat) : List α := marks c m k (xs.take i) ++ xs.drop i
theorem stM_zero (k : Int) (xs : List α) : stM c m k xs 0 = xs := by simp [stM, marks]
theorem stM_all (k : Int) (xs : List α) : stM c m k xs xs.length = marks c m k xs := by simp [stM]
theorem stM_len (k : Int) {xs : List α} {i : Nat} (h : i ≤ xs.length) : (stM c m k xs i).length = xs.length := by simp [stM, marks_len]; omega
theorem stM_get (k : Int) {xs : List α} {i : Nat} (h : i < xs.length) (f : α → List D) : ((stM c m k xs i).map f).getD i [] = f xs[i] := by
  rw [List.getD_eq_getElem?_getD, List.getElem?_map, stM, List.getElem?_append_right (by simp [marks_len]; omega)]
  have e : i - (marks c m k (xs.take i)).length = 0 := by simp [marks_len]; omega
  rw [e, List.drop_eq_getElem_cons h]; rfl
theorem stM_set (k : Int) {xs : List α} {i : Nat} (h : i < xs.length) (f : α → List D) : ((stM c m k xs i).map f).set i (f (m (k + cnts c (xs.take i)) xs[i])) = (stM c m k xs (i + 1)).map f := by
  rw [← List.map_set]
  congr 1
  unfold stM
  have hl : (marks c m k (xs.take i)).length = i := by simp [marks_len]; omega
  rw [List.set_append_right _ _ (by omega), hl, Nat.sub_self, List.drop_eq_getElem_cons h, List.set_cons_zero, List.take_succ_eq_append_getElem h, marks_app, List.append_assoc]
  rfl
theorem marks_get (k : Int) {xs : List α} {i : Nat} (h : i < xs.length) (f : α → List D) : ((marks c m k xs).map f).getD i [] = f (m (k + cnts c (xs.take i)) xs[i]) := by
  have e := stM_set (c := c) (m := m) k h f
  have hs : marks c m k xs = stM c m k xs (i + 1) ++ [] ∨ True := .inr trivial
  have : marks c m k xs = marks c m k (xs.take i) ++ marks c m (k + cnts c (xs.take i)) (xs.drop i) := by rw [← marks_app, List.take_append_drop]
  rw [this, List.getD_eq_getElem?_getD, List.getElem?_map, List.getElem?_append_right (by simp [marks_len]; omega)]
  have e : i - (marks c m k (xs.take i)).length = 0 := by simp [marks_len]; omega
  rw [e, List.drop_eq_getElem_cons h]; rfl
end
attribute [go_sem] take_all take_marks takeL frzLL_app frzLL_nil frzLL_cons Nat.le_refl
end Go.Proofs.Ythkgncddilkmbaa

/- Data Int over the second engine: how they lie, own and lent; copies, sizes, comparisons, marks. Printed by gen2.py. -/
namespace Go.Proofs.Ythkgncddilkmbaa
set_option linter.unusedVariables false
set_option linter.unusedSimpArgs false
open Go.RowKit Go.ChangeShapes Go.WideShapes
theorem iE_frz (x : Int) : frzL (iE x) = iE x := rfl
theorem iE_pure (x : Int) : ∀ d ∈ iE x, Pure d := by
  simp only [iE_eq, List.forall_mem_cons, List.not_mem_nil, false_imp_iff, implies_true, and_true]
  exact .s _
theorem iE_pureS (e k : Nat) (xs : List Int) : Pure (.osl e k (xs.map iE)) = True := eq_true (pure_rows iE_pure e k xs)
attribute [go_sem] iE_pureS
theorem iE_frzS (xs : List Int) : frzLL (xs.map iE) = xs.map iE := frz_rows iE_frz xs
attribute [go_sem] iE_frzS
set_option maxRecDepth 100000 in
set_option maxHeartbeats 1000000 in
theorem c_toIntS (xs : List Int) (hs : smS (fun _ : Int => True) xs) : FCon Try.prog 76 [.sl 1 (xs.map iE)] (fun r _ => r = .osl 3 1 (xs.map iE)) := by
  have hl := hs.1
  refine FCon.intro PM _ Try.func76 (by kernel_rfl) rfl _ Try.ntmps76 rfl [] (by decide +kernel) (by simp) (by simp) rfl (by first | rfl | simp only [go_sem]) ?_
  (have hWf := f0; repeat' (first | refine zS ?_ | exact zE | with_reducible apply And.intro | ((with_reducible intro hb0); revert hb0; with_reducible first | exact zB0 | refine zB fun hb => ?_ | fail) | ((with_reducible apply q_Meet); exact zM) | exact zC | refine zT ?_ | fail))
  refine AC_loop (fun n σ => ∃ k : Nat, k ≤ xs.length ∧ n = xs.length - k ∧ σ.t 0 = .sl 1 (xs.map iE) ∧ σ.t 3 = .bs 7 1 xs.length ∧ σ.t 4 = .s (.int .i64 k) ∧ σ.b 7 = some (.arr 3 1 (partR iE [.s (.int .i64 0)] xs k))) xs.length ⟨0, by omega, by omega, ?_⟩ ?_
  · simp only [go_sem, simprocAttr, partR_zero, Int.natCast_zero]
  · rintro n σ ⟨k, hk, rfl, h0, h3, h4, h7⟩ K' hK
    by_cases hlt : k < xs.length
    · have hx := getD_map iE xs k hlt
      have he := iE_eq xs[k]
      have hpl := partR_len (f := iE) (z := [.s (.int .i64 0)]) (Nat.le_of_lt hlt)
      have hg := partR_get (f := iE) (z := [.s (.int .i64 0)]) hlt
      have hst := partR_set (f := iE) (z := [.s (.int .i64 0)]) hlt
      rw [iE_eq] at hst
      (have hWf := WFx.mk (And.intro @h0 <| And.intro @h3 <| And.intro @h4 <| And.intro @h7 <| And.intro @hx <| And.intro @he <| And.intro @iE_eq <| And.intro @hpl <| And.intro @hg <| @hst); repeat' (first | refine zS ?_ | exact zE | with_reducible apply And.intro | ((with_reducible intro hb0); revert hb0; with_reducible first | exact zB0 | refine zB fun hb => ?_ | fail) | ((with_reducible apply q_Meet); exact zM) | exact zC | refine zT ?_ | fail))
      refine hK (xs.length - (k + 1)) _ (by omega) ⟨k + 1, by omega, rfl, ?_⟩
      simp only [go_sem, simprocAttr, h0, h3, h4, h7, Int.natCast_succ]
    · obtain rfl : k = xs.length := by omega
      rw [partR_all] at h7
      (have hWf := WFx.mk (And.intro @h0 <| And.intro @h3 <| And.intro @h4 <| @h7); repeat' (first | refine zS ?_ | exact zE | with_reducible apply And.intro | ((with_reducible intro hb0); revert hb0; with_reducible first | exact zB0 | refine zB fun hb => ?_ | fail) | ((with_reducible apply q_Meet); exact zM) | exact zC | refine zT ?_ | fail))
set_option maxRecDepth 100000 in
set_option maxHeartbeats 1000000 in
theorem c_szIntS (xs : List Int) (left : Int) (h0 : 0 ≤ left) (h1 : left ≤ 1048576) : FCon Try.prog 73 [intsD xs, .s (.int .i64 left)] (fun r _ => RsZ left (smS (fun _ : Int => True) xs) r) := by
  refine FCon.intro PM _ Try.func73 (by kernel_rfl) rfl _ Try.ntmps73 rfl [] (by decide +kernel) (by simp) (by simp) rfl (by first | rfl | simp only [go_sem]) ?_
  refine AC_len 0 rfl trivial fun hlen => ?_
  simp only [List.length_map] at hlen
  (have hWf := f0; repeat' (first | refine zS ?_ | exact zE | with_reducible apply And.intro | ((with_reducible intro hb0); revert hb0; with_reducible first | exact zB0 | refine zB fun hb => ?_ | fail) | ((with_reducible apply q_Meet); exact zM) | exact zC | refine zT ?_ | fail))
  all_goals (first | exact ⟨_, rfl, by omega, by omega, by omega⟩ | exact ⟨_, rfl, by omega, by omega, fun _ => ⟨by omega, fun _ _ => trivial⟩⟩)
set_option maxRecDepth 100000 in
set_option maxHeartbeats 1000000 in
theorem c_eqIntS (xs : List Int) : FCon Try.prog 81 [.sl 1 (xs.map iE), .sl 1 (xs.map iE)] (fun r _ => r = .s (.bool true)) := by
  refine FCon.intro PM _ Try.func81 (by kernel_rfl) rfl _ Try.ntmps81 rfl [(6, 8, [], [], (lin [] [0, 1, 2, 3, 4, 5, 6, 7]))] (by decide +kernel) (by simp) (by simp) rfl (by first | rfl | simp only [go_sem]) ?_
  refine AC_len 0 rfl trivial fun hlen => ?_
  simp only [List.length_map] at hlen
  (have hWf := f0; repeat' (first | refine zS ?_ | exact zE | with_reducible apply And.intro | ((with_reducible intro hb0); revert hb0; with_reducible first | exact zB0 | refine zB fun hb => ?_ | fail) | ((with_reducible apply q_Meet); exact zM) | exact zC | refine zT ?_ | fail))
  refine AC_loop (fun n σ => ∃ k : Nat, k ≤ xs.length ∧ n = xs.length - k ∧ σ.t 0 = .sl 1 (xs.map iE) ∧ σ.t 1 = .sl 1 (xs.map iE) ∧ σ.t 5 = .s (.int .i64 k)) xs.length ⟨0, by omega, by omega, ?_⟩ ?_
  · simp only [go_sem, simprocAttr, Int.natCast_zero]
  · rintro n σ ⟨k, hk, rfl, h0, h1, h5⟩ K' hK
    by_cases hlt : k < xs.length
    · have hx := getD_map iE xs k hlt
      have he := iE_eq xs[k]
      (have hWf := WFx.mk (And.intro @h0 <| And.intro @h1 <| And.intro @h5 <| And.intro @hx <| @he); repeat' (first | refine zS ?_ | exact zE | with_reducible apply And.intro | ((with_reducible intro hb0); revert hb0; with_reducible first | exact zB0 | refine zB fun hb => ?_ | fail) | ((with_reducible apply q_Meet); exact zM) | exact zC | refine zT ?_ | fail))
      all_goals
        refine hK (xs.length - (k + 1)) _ (by omega) ⟨k + 1, by omega, rfl, ?_⟩
        simp only [go_sem, simprocAttr, h0, h1, h5, Int.natCast_succ]
    · (have hWf := WFx.mk (And.intro @h0 <| And.intro @h1 <| @h5); repeat' (first | refine zS ?_ | exact zE | with_reducible apply And.intro | ((with_reducible intro hb0); revert hb0; with_reducible first | exact zB0 | refine zB fun hb => ?_ | fail) | ((with_reducible apply q_Meet); exact zM) | exact zC | refine zT ?_ | fail))
end Go.Proofs.Ythkgncddilkmbaa
