import Derived.Test.YtngobmjdbjlkcaaGw
import Derived.Test.YtngobmjdbjlkcaaDecB
import Derived.Test.YtngobmjdbjlkcaaTyM
/- The text of a mark, and laws.markText. -/
namespace Go.Proofs.Ytngobmjdbjlkcaa
set_option linter.unusedVariables false
set_option linter.unusedSimpArgs false
attribute [local go_sem] List.length_set List.set_set
open Go.RowKit
/-- the text of a mark. -/
def markT (k : Int) : List UInt8 := 109 :: decL k.toNat
theorem markT_len {k : Int} (h : k ≤ 4611686018427387904) : (markT k).length ≤ 20 := by
  have := decL_len 18 k.toNat (by omega)
  unfold markT; simp; omega
theorem markT_pos {K : Nat} (l : List UInt8) (h : decL K = l) : (⟨#[109]⟩ : ByteArray) ++ bs l = bs (markT (K : Int)) := by
  unfold markT; rw [Int.toNat_natCast, h]; exact str_app [109] l
def mInv (K n : Nat) (l : List UInt8) : Prop := (0 < n → decL K = decL n ++ l) ∧ (n = 0 → decL K = l) ∧ l.length ≤ 20
theorem mInv_step {K n : Nat} {l : List UInt8} (h : mInv K n l) (h0 : 0 < n) (hK : K ≤ 4611686018427387904) : mInv K (n / 10) (dgt (n % 10) :: l) := by
  have e := h.1 h0
  have key : decL K = (if 0 < n / 10 then decL (n / 10) ++ (dgt (n % 10) :: l) else dgt (n % 10) :: l) := by
    by_cases q : 0 < n / 10
    · rw [if_pos q, e, decL_big (by omega)]; simp
    · rw [if_neg q, e, decL_small (by omega), Nat.mod_eq_of_lt (by omega)]; simp
  refine ⟨fun q => by rw [key, if_pos q], fun q => by rw [key, if_neg (by omega)], ?_⟩
  have hl := decL_len 18 K (by omega)
  rw [key] at hl
  split at hl
  · rw [List.length_append] at hl; omega
  · omega
set_option maxRecDepth 100000 in
theorem laws_markText (w : World) (k : Int) (hk : k ≤ 4611686018427387904) : Calls Try.prog 82 #[.int .i64 k] w fun e w' => e = .returned (.string (bs (markT k))) ∧ Below w.heap.size w w' := by
  by_cases h0 : k ≤ 0
  · have e : bs (markT k) = (⟨#[109, 48]⟩ : ByteArray) := by
      have : k.toNat = 0 := by omega
      unfold markT; rw [this, decL_small (by omega)]; rfl
    rw [e]
    go_enter Try.func82, Try.ntmps82
    go_wp2_with fail
    go_ret
    exact ⟨rfl, (by repeat (first | with_reducible exact Below.refl _ _ | with_reducible assumption | with_reducible refine Below.setCell ?_ ?_ _ | with_reducible refine Below.alloc ?_ ?_ _ | with_reducible refine Below.drew ?_ | (with_reducible apply below_chain; with_reducible assumption) | exact Nat.le_refl _ | omega | (simp <;> omega)))⟩
  · obtain ⟨K, rfl⟩ : ∃ K : Nat, k = K := ⟨k.toNat, by omega⟩
    go_enter Try.func82, Try.ntmps82
    go_wp2_with fail
    go_loopw [0, 3] (fun kv ov wr => ∃ (n : Nat) (l : List UInt8), n ≤ K ∧ kv = .int .i64 n ∧ ov = .string (bs l) ∧ mInv K n l ∧ Below w.heap.size w wr) (fun kv _ _ => (intOf kv).toNat)
    case atStart => exact ⟨K, [], by omega, rfl, rfl, ⟨fun _ => by simp, fun q => by omega, by simp⟩, Below.refl _ _⟩
    case round =>
      obtain ⟨n, l, hn, rfl, rfl, hinv, hbel⟩ := hrel
      have HI := Lib.hid hinv
      have hl := hinv.2.2
      clear hinv
      by_cases hp : 0 < n
      · have hp' : ((n : Nat) : Int) > 0 := by omega
        have hd : n % 10 < 10 := Nat.mod_lt _ (by omega)
        have e1 : Int.tmod (n : Int) 10 = ((n % 10 : Nat) : Int) := by rw [Int.tmod_eq_emod_of_nonneg (by omega)]; rfl
        have e2 : Int.tdiv (n : Int) 10 = ((n / 10 : Nat) : Int) := by rw [Int.tdiv_eq_ediv_of_nonneg (by omega)]; rfl
        have hcv := run_str_one (48 + ((n % 10 : Nat) : Int)) _ (dgtV hd)
        have e3 : IntKind.i64.wrap (48 + ((n % 10 : Nat) : Int)) = 48 + ((n % 10 : Nat) : Int) := IntWalk.i64_in _ (by omega)
        have e4 : IntKind.u8.wrap (48 + ((n % 10 : Nat) : Int)) = 48 + ((n % 10 : Nat) : Int) := IntWalk.u8_in _ (by omega)
        have z1 : (bs l).size ≤ 20 := by rw [bs_size]; exact hl
        have z2 : (bs [dgt (n % 10)]).size ≤ 1 := by rw [bs_size]; simp
        have HS := Lib.hid (mInv_step HI.out hp (by omega))
        go_wp2_with fail
        go_roundw
        case rel => exact ⟨n / 10, dgt (n % 10) :: l, by omega, congrArg (Value.int .i64) (by omega), by rw [str_app]; rfl, HS.out, (by first | exact hbel.alloc hbel.size _ | exact hbel)⟩
        case measure => simp [intOf]; omega
      · have hn0 : n = 0 := by omega
        have hp' : ¬ ((n : Nat) : Int) > 0 := by omega
        have z1 : (bs l).size ≤ 20 := by rw [bs_size]; exact hl
        have HE := Lib.hid (markT_pos l (HI.out.2.1 hn0))
        clear hn0
        go_wp2_with fail
        go_ret
        exact ⟨by rw [← HE.out]; rfl, (by repeat (first | with_reducible exact Below.refl _ _ | with_reducible assumption | with_reducible refine Below.setCell ?_ ?_ _ | with_reducible refine Below.alloc ?_ ?_ _ | with_reducible refine Below.drew ?_ | (with_reducible apply below_chain; with_reducible assumption) | exact Nat.le_refl _ | omega | (simp <;> omega)))⟩
def mkB (k : Int) : ByteArray := bs (markT k)
theorem mkB_len {k : Int} (h : k ≤ 4611686018427387904) : (mkB k).size ≤ 20 := by unfold mkB; rw [bs_size]; exact markT_len h
theorem c_markText (k : Int) (hk : k ≤ 4611686018427387904) : FCon Try.prog 82 [.s (.int .i64 k)] (fun r _ => r = .s (.string (mkB k))) := by
  refine FCon.ofBelow (Rv := fun v => v = .string (mkB k)) Try.func82 rfl rfl ?_ rfl ?_
  · rintro _ rfl; exact ⟨rfl, rfl⟩
  · intro w S up vs hl hv
    obtain ⟨v, rfl, h⟩ := one_arg (P := fun _ d u => RB S up w d u) hl hv
    have := Rep.s_inv (show Rep S up w none (.s (.int .i64 k)) v from h)
    subst this
    exact (laws_markText w k hk).mono fun e w' h => ⟨_, h.1, rfl, h.2⟩
end Go.Proofs.Ytngobmjdbjlkcaa

/- Data over the second engine: rows laid one after another, sizes, marks. -/
namespace Go.Proofs.Ytngobmjdbjlkcaa
set_option linter.unusedVariables false
set_option linter.unusedSimpArgs false
attribute [local go_sem] List.length_set List.set_set
open Go.RowKit
/-- a number as a row. -/
def iE (n : Int) : List D := [.s (.int .i64 n)]
theorem iE_eq (n : Int) : iE n = [.s (.int .i64 n)] := rfl
abbrev intsD (l : List Int) : D := .sl 1 (l.map iE)
/-- rows laid one after another into a slice that was made. -/
def partR {α : Type} (f : α → List D) (z : List D) (xs : List α) (i : Nat) : List (List D) := (xs.take i).map f ++ List.replicate (xs.length - i) z
section
variable {α : Type} {f : α → List D} {z : List D} {xs : List α} {i : Nat}
theorem partR_zero : partR f z xs 0 = List.replicate xs.length z := by simp [partR]
theorem partR_all : partR f z xs xs.length = xs.map f := by simp [partR]
theorem partR_len (h : i ≤ xs.length) : (partR f z xs i).length = xs.length := by simp [partR]; omega
theorem partR_set (h : i < xs.length) : (partR f z xs i).set i (f xs[i]) = partR f z xs (i + 1) := by
  unfold partR
  have e : (xs.length - i) = (xs.length - (i + 1)) + 1 := by omega
  rw [List.set_append_right _ _ (by simp; omega), List.length_map, List.length_take, Nat.min_eq_left (by omega), Nat.sub_self, e, List.replicate_succ, List.set_cons_zero, List.take_succ_eq_append_getElem h, List.map_append]
  simp
theorem partR_get (h : i < xs.length) : (partR f z xs i).getD i [] = z := by
  unfold partR
  rw [List.getD_eq_getElem?_getD, List.getElem?_append_right (by simp; omega)]
  have e : (xs.length - i) = (xs.length - (i + 1)) + 1 := by omega
  simp [Nat.min_eq_left (Nat.le_of_lt h), e, List.replicate_succ]
theorem take_all (f : α → List D) (xs : List α) : (xs.map f).take xs.length = xs.map f := List.take_of_length_le (by simp)
theorem frz_rows {g : α → List D} (h : ∀ x, frzL (f x) = g x) (xs : List α) : frzLL (xs.map f) = xs.map g := by
  rw [frzLL_map, List.map_map]; exact List.map_congr_left fun x _ => h x
end
theorem takeL {α : Type} {l : List α} {i : Nat} (h : l.length = i) : l.take i = l := List.take_of_length_le (by omega)
theorem frzLL_app (a b : List (List D)) : frzLL (a ++ b) = frzLL a ++ frzLL b := by rw [frzLL_map, frzLL_map, frzLL_map, List.map_append]
theorem frzLL_nil : frzLL [] = [] := rfl
theorem frzLL_cons (r : List D) (l : List (List D)) : frzLL (r :: l) = frzL r :: frzLL l := rfl
/-- the answer of a size function. -/
def RsZ (left : Int) (P : Prop) (r : D) : Prop := ∃ z : Int, r = .s (.int .i64 z) ∧ -1 ≤ z ∧ z ≤ left ∧ (0 ≤ z → P)
def smS {α : Type} (s : α → Prop) (xs : List α) : Prop := xs.length ≤ 1048576 ∧ ∀ x ∈ xs, s x
theorem sI_congr {a b : Int} (h : a = b) : D.s (.int .i64 a) = .s (.int .i64 b) := by rw [h]
/-! ### marks -/
/-- how many numbers the marks of a row of things take. -/
def cnts {α : Type} (c : α → Nat) : List α → Nat
  | [] => 0
  | x :: l => c x + cnts c l
/-- things marked from k on. -/
def marks {α : Type} (c : α → Nat) (m : Int → α → α) : Int → List α → List α
  | _, [] => []
  | k, x :: l => m k x :: marks c m (k + c x) l
section
variable {α : Type} {c : α → Nat} {m : Int → α → α}
theorem marks_len : ∀ (k : Int) (xs : List α), (marks c m k xs).length = xs.length
  | _, [] => rfl
  | k, x :: l => by simp [marks, marks_len (k + c x) l]
theorem cnts_const {n : Nat} (hc : ∀ x, c x = n) : ∀ (xs : List α), cnts c xs = n * xs.length
  | [] => rfl
  | x :: l => by rw [cnts, hc, cnts_const hc l, List.length_cons, Nat.mul_add]; omega
theorem cnts_app : ∀ (a b : List α), cnts c (a ++ b) = cnts c a + cnts c b
  | [], b => by simp [cnts]
  | x :: l, b => by simp [cnts, cnts_app l b]; omega
theorem cnts_step {xs : List α} {i : Nat} (h : i < xs.length) : cnts c (xs.take (i + 1)) = cnts c (xs.take i) + c xs[i] := by
  rw [List.take_succ_eq_append_getElem h, cnts_app]; simp [cnts]
theorem cnts_le (xs : List α) (i : Nat) : cnts c (xs.take i) ≤ cnts c xs := by
  have := cnts_app (c := c) (xs.take i) (xs.drop i)
  rw [List.take_append_drop] at this; omega
theorem marks_app : ∀ (k : Int) (a b : List α), marks c m k (a ++ b) = marks c m k a ++ marks c m (k + cnts c a) b
  | k, [], b => by simp [marks, cnts]
  | k, x :: l, b => by
    have e : k + (c x : Int) + (cnts c l : Int) = k + ((c x + cnts c l : Nat) : Int) := by push_cast; omega
    simp [marks, cnts, marks_app (k + c x) l b, Int.add_assoc]
theorem take_marks (k : Int) (xs : List α) (f : α → List D) : ((marks c m k xs).map f).take xs.length = (marks c m k xs).map f := List.take_of_length_le (by simp [marks_len])
/-- the first i are marked. -/
def stM (c : α → Nat) (m : Int → α → α) (k : Int) (xs : List α) (i : Nat) : List α := marks c m k (xs.take i) ++ xs.drop i
theorem stM_zero (k : Int) (xs : List α) : stM c m k xs 0 = xs := by simp [stM, marks]
theorem stM_all (k : Int) (xs : List α) : stM c m k xs xs.length = marks c m k xs := by simp [stM]
theorem stM_len (k : Int) {xs : List α} {i : Nat} (h : i ≤ xs.length) : (stM c m k xs i).length = xs.length := by simp [stM, marks_len]; omega
theorem stM_get (k : Int) {xs : List α} {i : Nat} (h : i < xs.length) (f : α → List D) : ((stM c m k xs i).map f).getD i [] = f xs[i] := by
  rw [List.getD_eq_getElem?_getD, List.getElem?_map, stM, List.getElem?_append_right (by simp [marks_len]; omega)]
  have e : i - (marks c m k (xs.take i)).length = 0 := by simp [marks_len]; omega
  rw [e, List.drop_eq_getElem_cons h]; rfl
theorem stM_set (k : Int) {xs : List α} {i : Nat} (h : i < xs.length) (f : α → List D) : ((stM c m k xs i).map f).set i (f (m (k + cnts c (xs.take i)) xs[i])) = (stM c m k xs (i + 1)).map f := by
  rw [← List.map_set]
  congr 1
  unfold stM
  have hl : (marks c m k (xs.take i)).length = i := by simp [marks_len]; omega
  rw [List.set_append_right _ _ (by omega), hl, Nat.sub_self, List.drop_eq_getElem_cons h, List.set_cons_zero, List.take_succ_eq_append_getElem h, marks_app, List.append_assoc]
  rfl
theorem marks_get (k : Int) {xs : List α} {i : Nat} (h : i < xs.length) (f : α → List D) : ((marks c m k xs).map f).getD i [] = f (m (k + cnts c (xs.take i)) xs[i]) := by
  have e := stM_set (c := c) (m := m) k h f
  have hs : marks c m k xs = stM c m k xs (i + 1) ++ [] ∨ True := .inr trivial
  have : marks c m k xs = marks c m k (xs.take i) ++ marks c m (k + cnts c (xs.take i)) (xs.drop i) := by rw [← marks_app, List.take_append_drop]
  rw [this, List.getD_eq_getElem?_getD, List.getElem?_map, List.getElem?_append_right (by simp [marks_len]; omega)]
  have e : i - (marks c m k (xs.take i)).length = 0 := by simp [marks_len]; omega
  rw [e, List.drop_eq_getElem_cons h]; rfl
end
attribute [go_sem] take_all take_marks takeL frzLL_app frzLL_nil frzLL_cons Nat.le_refl
end Go.Proofs.Ytngobmjdbjlkcaa

/- Data Int over the second engine: how they lie, own and lent; copies, sizes, comparisons, marks. Printed by gen2.py. -/
namespace Go.Proofs.Ytngobmjdbjlkcaa
set_option linter.unusedVariables false
set_option linter.unusedSimpArgs false
attribute [local go_sem] List.length_set List.set_set
open Go.RowKit Go.ChangeShapes Go.WideShapes
theorem iE_frz (x : Int) : frzL (iE x) = iE x := rfl
theorem iE_pure (x : Int) : ∀ d ∈ iE x, Pure d := by
  simp only [iE_eq, List.forall_mem_cons, List.not_mem_nil, false_imp_iff, implies_true, and_true]
  exact .s _
theorem iE_pureS (e k : Nat) (xs : List Int) : Pure (.osl e k (xs.map iE)) = True := eq_true (pure_rows iE_pure e k xs)
attribute [go_sem] iE_pureS
theorem iE_frzS (xs : List Int) : frzLL (xs.map iE) = xs.map iE := frz_rows iE_frz xs
attribute [go_sem] iE_frzS
set_option maxRecDepth 100000 in
set_option maxHeartbeats 1000000 in
theorem c_eqIntS (xs : List Int) : FCon Try.prog 40 [.sl 1 (xs.map iE), .sl 1 (xs.map iE)] (fun r _ => r = .s (.bool true)) := by
  refine FCon.intro PM _ Try.func40 (by kernel_rfl) rfl _ Try.ntmps40 rfl [(6, 8, [], [], (lin [] [0, 1, 2, 3, 4, 5, 6, 7]))] (by decide +kernel) (by simp) (by simp) rfl (by first | rfl | simp only [go_sem]) ?_
  refine AC_len 0 rfl trivial fun hlen => ?_
  simp only [List.length_map] at hlen
  (have hWf := f0; repeat' (first | refine zS ?_ | exact zE | with_reducible apply And.intro | ((with_reducible intro hb0); revert hb0; with_reducible first | exact zB0 | refine zB fun hb => ?_ | fail) | ((with_reducible apply q_Meet); exact zM) | exact zC | refine zT ?_ | fail))
  refine AC_loop (fun n σ => ∃ k : Nat, k ≤ xs.length ∧ n = xs.length - k ∧ σ.t 0 = .sl 1 (xs.map iE) ∧ σ.t 1 = .sl 1 (xs.map iE) ∧ σ.t 5 = .s (.int .i64 k)) xs.length ⟨0, by omega, by omega, ?_⟩ ?_
  · simp only [go_sem, simprocAttr, Int.natCast_zero]
  · rintro n σ ⟨k, hk, rfl, h0, h1, h5⟩ K' hK
    by_cases hlt : k < xs.length
    · have hx := getD_map iE xs k hlt
      have he := iE_eq xs[k]
      (have hWf := WFx.mk (And.intro @h0 <| And.intro @h1 <| And.intro @h5 <| And.intro @hx <| @he); repeat' (first | refine zS ?_ | exact zE | with_reducible apply And.intro | ((with_reducible intro hb0); revert hb0; with_reducible first | exact zB0 | refine zB fun hb => ?_ | fail) | ((with_reducible apply q_Meet); exact zM) | exact zC | refine zT ?_ | fail))
      all_goals
        refine hK (xs.length - (k + 1)) _ (by omega) ⟨k + 1, by omega, rfl, ?_⟩
        simp only [go_sem, simprocAttr, h0, h1, h5, Int.natCast_succ]
    · (have hWf := WFx.mk (And.intro @h0 <| And.intro @h1 <| @h5); repeat' (first | refine zS ?_ | exact zE | with_reducible apply And.intro | ((with_reducible intro hb0); revert hb0; with_reducible first | exact zB0 | refine zB fun hb => ?_ | fail) | ((with_reducible apply q_Meet); exact zM) | exact zC | refine zT ?_ | fail))
set_option maxRecDepth 100000 in
set_option maxHeartbeats 1000000 in
theorem c_markIntS (xs : List Int) (hl : xs.length ≤ 1048576) (k : Int) (h0 : 0 ≤ k) (hk : k + cnts (fun _ : Int => 1) xs ≤ 4611686018427387904) : FCon Try.prog 41 [.osl 3 1 (xs.map iE), .s (.int .i64 k)] (fun r o => r = .s (.int .i64 (k + cnts (fun _ : Int => 1) xs)) ∧ o = [.osl 3 1 ((marks (fun _ : Int => 1) (fun k _ => k) k xs).map iE), .un]) := by
  refine FCon.intro PM _ Try.func41 (by kernel_rfl) rfl _ Try.ntmps41 rfl [] (by decide +kernel) (by simp) (by simp) rfl (by first | rfl | simp only [go_sem]) ?_
  (have hWf := f0; repeat' (first | refine zS ?_ | exact zE | with_reducible apply And.intro | ((with_reducible intro hb0); revert hb0; with_reducible first | exact zB0 | refine zB fun hb => ?_ | fail) | ((with_reducible apply q_Meet); exact zM) | exact zC | refine zT ?_ | fail))
  refine AC_loop (fun n σ => ∃ i : Nat, i ≤ xs.length ∧ n = xs.length - i ∧ σ.t 0 = .bs 900000 1 xs.length ∧ σ.t 1 = .s (.int .i64 (k + cnts (fun _ : Int => 1) (xs.take i))) ∧ σ.t 5 = .s (.int .i64 i) ∧ σ.b 900000 = some (.arr 3 1 ((stM (fun _ : Int => 1) (fun k _ => k) k xs i).map iE))) xs.length ⟨0, by omega, by omega, ?_⟩ ?_
  · simp only [go_sem, simprocAttr, Int.natCast_zero, stM_zero, List.take_zero, cnts, Int.add_zero]
  · rintro n σ ⟨i, hi, rfl, h0, h1, h5, h9⟩ K' hK
    by_cases hlt : i < xs.length
    · have hc := cnts_step (c := (fun _ : Int => 1)) hlt
      have hc' := cnts_le (c := (fun _ : Int => 1)) xs (i + 1)
      have hx := stM_get (c := (fun _ : Int => 1)) (m := (fun k _ => k)) k hlt iE
      have hpl := stM_len (c := (fun _ : Int => 1)) (m := (fun k _ => k)) k (Nat.le_of_lt hlt)
      have hst := stM_set (c := (fun _ : Int => 1)) (m := (fun k _ => k)) k hlt iE
      have hgs : ∀ r, (((stM (fun _ : Int => 1) (fun k _ => k) k xs i).map iE).set i r).getD i [] = r := fun r => by rw [List.getD_eq_getElem?_getD, List.getElem?_set_self (by rw [List.length_map, hpl]; exact hlt)]; rfl
      simp only [iE_eq] at hx hst
      (have hWf := WFx.mk (And.intro @h0 <| And.intro @h1 <| And.intro @h5 <| And.intro @h9 <| And.intro @hx <| And.intro @hpl <| And.intro @hgs <| And.intro @hst <| @iE_eq); repeat' (first | refine zS ?_ | exact zE | with_reducible apply And.intro | ((with_reducible intro hb0); revert hb0; with_reducible first | exact zB0 | refine zB fun hb => ?_ | fail) | ((with_reducible apply q_Meet); exact zM) | exact zC | refine zT ?_ | fail))
      refine hK (xs.length - (i + 1)) _ (by omega) ⟨i + 1, by omega, rfl, ?_⟩
      simp only [go_sem, simprocAttr, h0, h1, h5, h9, Int.natCast_succ, hst]
      exact sI_congr (by rw [hc]; push_cast; omega)
    · obtain rfl : i = xs.length := by omega
      rw [stM_all] at h9
      rw [List.take_length] at h1
      (have hWf := WFx.mk (And.intro @h0 <| And.intro @h1 <| And.intro @h5 <| And.intro @h9 <| @marks_len); repeat' (first | refine zS ?_ | exact zE | with_reducible apply And.intro | ((with_reducible intro hb0); revert hb0; with_reducible first | exact zB0 | refine zB fun hb => ?_ | fail) | ((with_reducible apply q_Meet); exact zM) | exact zC | refine zT ?_ | fail))
set_option maxRecDepth 100000 in
set_option maxHeartbeats 1000000 in
theorem c_heldIntS (xs : List Int) (hl : xs.length ≤ 1048576) (k : Int) (h0 : 0 ≤ k) (hk : k + cnts (fun _ : Int => 1) xs ≤ 4611686018427387904) : FCon Try.prog 42 [.sl 1 ((marks (fun _ : Int => 1) (fun k _ => k) k xs).map iE), .s (.int .i64 k)] (fun r _ => r = .s (.int .i64 (k + cnts (fun _ : Int => 1) xs))) := by
  refine FCon.intro PM _ Try.func42 (by kernel_rfl) rfl _ Try.ntmps42 rfl [] (by decide +kernel) (by simp) (by simp) rfl (by first | rfl | simp only [go_sem]) ?_
  have hml := marks_len (c := (fun _ : Int => 1)) (m := (fun k _ => k)) k xs
  (have hWf := f0; repeat' (first | refine zS ?_ | exact zE | with_reducible apply And.intro | ((with_reducible intro hb0); revert hb0; with_reducible first | exact zB0 | refine zB fun hb => ?_ | fail) | ((with_reducible apply q_Meet); exact zM) | exact zC | refine zT ?_ | fail))
  refine AC_loop (fun n σ => ∃ i : Nat, i ≤ xs.length ∧ n = xs.length - i ∧ σ.t 0 = .sl 1 ((marks (fun _ : Int => 1) (fun k _ => k) k xs).map iE) ∧ σ.t 1 = .s (.int .i64 (k + cnts (fun _ : Int => 1) (xs.take i))) ∧ σ.t 5 = .s (.int .i64 i)) xs.length ⟨0, by omega, by omega, ?_⟩ ?_
  · simp only [go_sem, simprocAttr, Int.natCast_zero, List.take_zero, cnts, Int.add_zero]
  · rintro n σ ⟨i, hi, rfl, h0, h1, h5⟩ K' hK
    by_cases hlt : i < xs.length
    · have hc := cnts_step (c := (fun _ : Int => 1)) hlt
      have hc' := cnts_le (c := (fun _ : Int => 1)) xs (i + 1)
      have hx := marks_get (c := (fun _ : Int => 1)) (m := (fun k _ => k)) k hlt iE
      simp only [iE_eq] at hx
      (have hWf := WFx.mk (And.intro @h0 <| And.intro @h1 <| And.intro @h5 <| And.intro @hx <| @hml); repeat' (first | refine zS ?_ | exact zE | with_reducible apply And.intro | ((with_reducible intro hb0); revert hb0; with_reducible first | exact zB0 | refine zB fun hb => ?_ | fail) | ((with_reducible apply q_Meet); exact zM) | exact zC | refine zT ?_ | fail))
      all_goals
        refine hK (xs.length - (i + 1)) _ (by omega) ⟨i + 1, by omega, rfl, ?_⟩
        simp only [go_sem, simprocAttr, h0, h1, h5, Int.natCast_succ]
        exact sI_congr (by rw [hc]; push_cast; omega)
    · obtain rfl : i = xs.length := by omega
      rw [List.take_length] at h1
      (have hWf := WFx.mk (And.intro @h0 <| And.intro @h1 <| And.intro @h5 <| @hml); repeat' (first | refine zS ?_ | exact zE | with_reducible apply And.intro | ((with_reducible intro hb0); revert hb0; with_reducible first | exact zB0 | refine zB fun hb => ?_ | fail) | ((with_reducible apply q_Meet); exact zM) | exact zC | refine zT ?_ | fail))
end Go.Proofs.Ytngobmjdbjlkcaa

/- Data TyItem over the second engine: how they lie, own and lent; copies, sizes, comparisons, marks. Printed by gen2.py. -/
namespace Go.Proofs.Ytngobmjdbjlkcaa
set_option linter.unusedVariables false
set_option linter.unusedSimpArgs false
attribute [local go_sem] List.length_set List.set_set
open Go.RowKit Go.ChangeShapes Go.WideShapes
def TyI.enc (x : TyI) : List D := [.s (.int .i64 x.v), .s (.string x.name), .s (.int .i64 x.ar)]
theorem TyI.enc_eq (x : TyI) : x.enc = [.s (.int .i64 x.v), .s (.string x.name), .s (.int .i64 x.ar)] := rfl
abbrev TyI.own (x : TyI) : List D := x.enc
theorem TyI.own_eq (x : TyI) : x.own = [.s (.int .i64 x.v), .s (.string x.name), .s (.int .i64 x.ar)] := rfl
theorem TyI.frz_eq (x : TyI) : frzL x.own = x.enc := by
  simp only [TyI.own_eq, TyI.enc_eq, frzL, frz]
def TyI.sm (x : TyI) : Prop := x.name.size ≤ 1048576
def TyI.cnt (x : TyI) : Nat := 3
def TyI.mark (k : Int) (x : TyI) : TyI := ⟨k, mkB (k + 1), ((k + 1) + 1)⟩
theorem TyI.cnt_eq (x : TyI) : x.cnt = 3 := rfl
theorem TyI.mark_eq (k : Int) (x : TyI) : TyI.mark k x = ⟨k, mkB (k + 1), ((k + 1) + 1)⟩ := rfl
theorem TyI.pure (x : TyI) : ∀ d ∈ x.own, Pure d := by
  simp only [TyI.own_eq, List.forall_mem_cons, List.not_mem_nil, false_imp_iff, implies_true, and_true]
  exact ⟨.s _, .s _, .s _⟩
theorem TyI.pureS (e k : Nat) (xs : List TyI) : Pure (.osl e k (xs.map TyI.own)) = True := eq_true (pure_rows TyI.pure e k xs)
attribute [go_sem] TyI.pureS
theorem TyI.frzS (xs : List TyI) : frzLL (xs.map TyI.own) = xs.map TyI.enc := frz_rows TyI.frz_eq xs
attribute [go_sem] TyI.frzS
set_option maxRecDepth 100000 in
set_option maxHeartbeats 1000000 in
theorem c_toTyItem (x : TyI) (hs : x.sm) : FCon Try.prog 112 [.ag x.enc] (fun r _ => r = .ag x.own) := by
  refine FCon.intro PM _ Try.func112 (by kernel_rfl) rfl _ Try.ntmps112 rfl [] (by decide +kernel) (by simp) (by simp) rfl (by first | rfl | simp only [go_sem]) ?_
  (have hWf := WFx.mk (And.intro @TyI.enc_eq <| @TyI.own_eq); repeat' (first | refine zS ?_ | exact zE | with_reducible apply And.intro | ((with_reducible intro hb0); revert hb0; with_reducible first | exact zB0 | refine zB fun hb => ?_ | fail) | ((with_reducible apply q_Meet); exact zM) | exact zC | refine zT ?_ | fail))
set_option maxRecDepth 100000 in
set_option maxHeartbeats 1000000 in
theorem c_toTyItemS (xs : List TyI) (hs : smS TyI.sm xs) : FCon Try.prog 62 [.sl 3 (xs.map TyI.enc)] (fun r _ => r = .osl 31 3 (xs.map TyI.own)) := by
  have hl := hs.1
  refine FCon.intro PM _ Try.func62 (by kernel_rfl) rfl _ Try.ntmps62 rfl [] (by decide +kernel) (by simp) (by simp) rfl (by first | rfl | simp only [go_sem]) ?_
  (have hWf := f0; repeat' (first | refine zS ?_ | exact zE | with_reducible apply And.intro | ((with_reducible intro hb0); revert hb0; with_reducible first | exact zB0 | refine zB fun hb => ?_ | fail) | ((with_reducible apply q_Meet); exact zM) | exact zC | refine zT ?_ | fail))
  refine AC_loop (fun n σ => ∃ k : Nat, k ≤ xs.length ∧ n = xs.length - k ∧ σ.t 0 = .sl 3 (xs.map TyI.enc) ∧ σ.t 3 = .bs 7 3 xs.length ∧ σ.t 4 = .s (.int .i64 k) ∧ σ.b 7 = some (.arr 31 3 (partR TyI.own [.s (.int .i64 0), .s (.string ⟨#[]⟩), .s (.int .i64 0)] xs k))) xs.length ⟨0, by omega, by omega, ?_⟩ ?_
  · simp only [go_sem, simprocAttr, partR_zero, Int.natCast_zero]
  · rintro n σ ⟨k, hk, rfl, h0, h3, h4, h7⟩ K' hK
    by_cases hlt : k < xs.length
    · have hx := getD_map TyI.enc xs k hlt
      have he := TyI.enc_eq xs[k]
      have hpl := partR_len (f := TyI.own) (z := [.s (.int .i64 0), .s (.string ⟨#[]⟩), .s (.int .i64 0)]) (Nat.le_of_lt hlt)
      have hg := partR_get (f := TyI.own) (z := [.s (.int .i64 0), .s (.string ⟨#[]⟩), .s (.int .i64 0)]) hlt
      have hst := partR_set (f := TyI.own) (z := [.s (.int .i64 0), .s (.string ⟨#[]⟩), .s (.int .i64 0)]) hlt
      rw [TyI.own_eq] at hst
      (have hWf := WFx.mk (And.intro @h0 <| And.intro @h3 <| And.intro @h4 <| And.intro @h7 <| And.intro @hx <| And.intro @he <| And.intro @TyI.own_eq <| And.intro @hpl <| And.intro @hg <| @hst); repeat' (first | refine zS ?_ | exact zE | with_reducible apply And.intro | ((with_reducible apply q_CallG); refine zG (c_toTyItem xs[k] (hs.2 _ (List.getElem_mem hlt))) ?_) | ((with_reducible apply q_CallQ); refine CallQ_mk (c_toTyItem xs[k] (hs.2 _ (List.getElem_mem hlt))) ?_) | ((with_reducible intro hb0); revert hb0; with_reducible first | exact zB0 | refine zB fun hb => ?_ | fail) | ((with_reducible apply q_Meet); exact zM) | exact zC | refine zT ?_ | fail))
      refine hK (xs.length - (k + 1)) _ (by omega) ⟨k + 1, by omega, rfl, ?_⟩
      simp only [go_sem, simprocAttr, h0, h3, h4, h7, Int.natCast_succ]
    · obtain rfl : k = xs.length := by omega
      rw [partR_all] at h7
      (have hWf := WFx.mk (And.intro @h0 <| And.intro @h3 <| And.intro @h4 <| @h7); repeat' (first | refine zS ?_ | exact zE | with_reducible apply And.intro | ((with_reducible intro hb0); revert hb0; with_reducible first | exact zB0 | refine zB fun hb => ?_ | fail) | ((with_reducible apply q_Meet); exact zM) | exact zC | refine zT ?_ | fail))
set_option maxRecDepth 100000 in
set_option maxHeartbeats 1000000 in
theorem c_szTyItem (x : TyI) (ho : x.ok) (left : Int) (h0 : 0 ≤ left) (h1 : left ≤ 1048576) : FCon Try.prog 110 [.ag x.enc, .s (.int .i64 left)] (fun r _ => RsZ left x.sm r) := by
  have hz1 := ho.2.1
  unfold maxLen at hz1
  refine FCon.intro PM _ Try.func110 (by kernel_rfl) rfl _ Try.ntmps110 rfl [] (by decide +kernel) (by simp) (by simp) rfl (by first | rfl | simp only [go_sem]) ?_
  (have hWf := WFx.mk @TyI.enc_eq; repeat' (first | refine zS ?_ | exact zE | with_reducible apply And.intro | ((with_reducible intro hb0); revert hb0; with_reducible first | exact zB0 | refine zB fun hb => ?_ | fail) | ((with_reducible apply q_Meet); exact zM) | exact zC | refine zT ?_ | fail))
  all_goals (first | exact ⟨_, rfl, by omega, by omega, by omega⟩ | exact ⟨_, rfl, by omega, by omega, fun _ => (show x.name.size ≤ 1048576 from (by omega))⟩)
set_option maxRecDepth 100000 in
set_option maxHeartbeats 1000000 in
theorem c_szTyItemS (xs : List TyI) (ho : ∀ x ∈ xs, x.ok) (left : Int) (h0 : 0 ≤ left) (h1 : left ≤ 1048576) : FCon Try.prog 59 [.sl 3 (xs.map TyI.enc), .s (.int .i64 left)] (fun r _ => RsZ left (smS TyI.sm xs) r) := by
  refine FCon.intro PM _ Try.func59 (by kernel_rfl) rfl _ Try.ntmps59 rfl [] (by decide +kernel) (by simp) (by simp) rfl (by first | rfl | simp only [go_sem]) ?_
  refine AC_len 0 rfl trivial fun hlen => ?_
  simp only [List.length_map] at hlen
  by_cases hll : left < xs.length
  · (have hWf := f0; repeat' (first | refine zS ?_ | exact zE | with_reducible apply And.intro | ((with_reducible intro hb0); revert hb0; with_reducible first | exact zB0 | refine zB fun hb => ?_ | fail) | ((with_reducible apply q_Meet); exact zM) | exact zC | refine zT ?_ | fail))
    all_goals exact ⟨_, rfl, by omega, by omega, by omega⟩
  · (have hWf := f0; repeat' (first | refine zS ?_ | exact zE | with_reducible apply And.intro | ((with_reducible intro hb0); revert hb0; with_reducible first | exact zB0 | refine zB fun hb => ?_ | fail) | ((with_reducible apply q_Meet); exact zM) | exact zC | refine zT ?_ | fail))
    refine AC_loop (fun n σ => ∃ (k : Nat) (l : Int), k ≤ xs.length ∧ n = xs.length - k ∧ σ.t 0 = .sl 3 (xs.map TyI.enc) ∧ σ.t 1 = .s (.int .i64 l) ∧ σ.t 5 = .s (.int .i64 k) ∧ 0 ≤ l ∧ l ≤ left ∧ ∀ x ∈ xs.take k, x.sm) xs.length ⟨0, left - xs.length, by omega, by omega, ?_⟩ ?_
    · simp only [go_sem, simprocAttr, Int.natCast_zero]
      first | exact ⟨by omega, by omega, by simp⟩ | omega
    · rintro n σ ⟨k, l, hk, rfl, s0, s1, s5, hl0, hl1, hsm⟩ K' hK
      by_cases hlt : k < xs.length
      · have hx := getD_map TyI.enc xs k hlt
        have he := TyI.enc_eq xs[k]
        (have hWf := WFx.mk (And.intro @s0 <| And.intro @s1 <| And.intro @s5 <| And.intro @hx <| @he); repeat' (first | refine zS ?_ | exact zE | with_reducible apply And.intro | ((with_reducible apply q_CallG); refine CallG_mk (c_szTyItem xs[k] (ho _ (List.getElem_mem hlt)) l hl0 (by omega)) ?_; rintro _ _ ⟨z, rfl, za, zb, zc⟩) | ((with_reducible apply q_CallQ); refine CallQ_mk (c_szTyItem xs[k] (ho _ (List.getElem_mem hlt)) l hl0 (by omega)) ?_) | ((with_reducible intro hb0); revert hb0; with_reducible first | exact zB0 | refine zB fun hb => ?_ | fail) | ((with_reducible apply q_Meet); exact zM) | exact zC | refine zT ?_ | fail))
        · exact ⟨_, rfl, by omega, by omega, by omega⟩
        · refine hK (xs.length - (k + 1)) _ (by omega) ⟨k + 1, z, by omega, rfl, ?_⟩
          simp only [go_sem, simprocAttr, s0, s1, s5, Int.natCast_succ]
          refine ⟨by omega, by omega, fun x hx => ?_⟩
          rw [List.take_succ_eq_append_getElem hlt] at hx
          rcases List.mem_append.1 hx with hx | hx
          · exact hsm x hx
          · simp at hx; rw [hx]; exact zc (by omega)
      · obtain rfl : k = xs.length := by omega
        (have hWf := WFx.mk (And.intro @s0 <| And.intro @s1 <| @s5); repeat' (first | refine zS ?_ | exact zE | with_reducible apply And.intro | ((with_reducible intro hb0); revert hb0; with_reducible first | exact zB0 | refine zB fun hb => ?_ | fail) | ((with_reducible apply q_Meet); exact zM) | exact zC | refine zT ?_ | fail))
        exact ⟨_, rfl, by omega, by omega, fun _ => ⟨by omega, by simpa using hsm⟩⟩
set_option maxRecDepth 100000 in
set_option maxHeartbeats 1000000 in
theorem c_eqTyItem (x : TyI) : FCon Try.prog 113 [.ag x.enc, .ag x.enc] (fun r _ => r = .s (.bool true)) := by
  refine FCon.intro PM _ Try.func113 (by kernel_rfl) rfl _ Try.ntmps113 rfl [] (by decide +kernel) (by simp) (by simp) rfl (by first | rfl | simp only [go_sem]) ?_
  (have hWf := WFx.mk @TyI.enc_eq; repeat' (first | refine zS ?_ | exact zE | with_reducible apply And.intro | ((with_reducible intro hb0); revert hb0; with_reducible first | exact zB0 | refine zB fun hb => ?_ | fail) | ((with_reducible apply q_Meet); exact zM) | exact zC | refine zT ?_ | fail))
set_option maxRecDepth 100000 in
set_option maxHeartbeats 1000000 in
theorem c_eqTyItemS (xs : List TyI) : FCon Try.prog 65 [.sl 3 (xs.map TyI.enc), .sl 3 (xs.map TyI.enc)] (fun r _ => r = .s (.bool true)) := by
  refine FCon.intro PM _ Try.func65 (by kernel_rfl) rfl _ Try.ntmps65 rfl [(6, 8, [], [], (lin [] [0, 1, 2, 3, 4, 5, 6, 7]))] (by decide +kernel) (by simp) (by simp) rfl (by first | rfl | simp only [go_sem]) ?_
  refine AC_len 0 rfl trivial fun hlen => ?_
  simp only [List.length_map] at hlen
  (have hWf := f0; repeat' (first | refine zS ?_ | exact zE | with_reducible apply And.intro | ((with_reducible intro hb0); revert hb0; with_reducible first | exact zB0 | refine zB fun hb => ?_ | fail) | ((with_reducible apply q_Meet); exact zM) | exact zC | refine zT ?_ | fail))
  refine AC_loop (fun n σ => ∃ k : Nat, k ≤ xs.length ∧ n = xs.length - k ∧ σ.t 0 = .sl 3 (xs.map TyI.enc) ∧ σ.t 1 = .sl 3 (xs.map TyI.enc) ∧ σ.t 5 = .s (.int .i64 k)) xs.length ⟨0, by omega, by omega, ?_⟩ ?_
  · simp only [go_sem, simprocAttr, Int.natCast_zero]
  · rintro n σ ⟨k, hk, rfl, h0, h1, h5⟩ K' hK
    by_cases hlt : k < xs.length
    · have hx := getD_map TyI.enc xs k hlt
      have he := TyI.enc_eq xs[k]
      (have hWf := WFx.mk (And.intro @h0 <| And.intro @h1 <| And.intro @h5 <| And.intro @hx <| @he); repeat' (first | refine zS ?_ | exact zE | with_reducible apply And.intro | refine zK (c_eqTyItem xs[k]) ?_ | ((with_reducible intro hb0); revert hb0; with_reducible first | exact zB0 | refine zB fun hb => ?_ | fail) | ((with_reducible apply q_Meet); exact zM) | exact zC | refine zT ?_ | fail))
      all_goals
        refine hK (xs.length - (k + 1)) _ (by omega) ⟨k + 1, by omega, rfl, ?_⟩
        simp only [go_sem, simprocAttr, h0, h1, h5, Int.natCast_succ]
    · (have hWf := WFx.mk (And.intro @h0 <| And.intro @h1 <| @h5); repeat' (first | refine zS ?_ | exact zE | with_reducible apply And.intro | ((with_reducible intro hb0); revert hb0; with_reducible first | exact zB0 | refine zB fun hb => ?_ | fail) | ((with_reducible apply q_Meet); exact zM) | exact zC | refine zT ?_ | fail))
set_option maxRecDepth 100000 in
set_option maxHeartbeats 1000000 in
theorem c_markTyItemS (xs : List TyI) (hl : xs.length ≤ 1048576) (k : Int) (h0 : 0 ≤ k) (hk : k + cnts TyI.cnt xs ≤ 4611686018427387904) : FCon Try.prog 67 [.osl 31 3 (xs.map TyI.own), .s (.int .i64 k)] (fun r o => r = .s (.int .i64 (k + cnts TyI.cnt xs)) ∧ o = [.osl 31 3 ((marks TyI.cnt TyI.mark k xs).map TyI.own), .un]) := by
  refine FCon.intro PM _ Try.func67 (by kernel_rfl) rfl _ Try.ntmps67 rfl [] (by decide +kernel) (by simp) (by simp) rfl (by first | rfl | simp only [go_sem]) ?_
  (have hWf := f0; repeat' (first | refine zS ?_ | exact zE | with_reducible apply And.intro | ((with_reducible intro hb0); revert hb0; with_reducible first | exact zB0 | refine zB fun hb => ?_ | fail) | ((with_reducible apply q_Meet); exact zM) | exact zC | refine zT ?_ | fail))
  refine AC_loop (fun n σ => ∃ i : Nat, i ≤ xs.length ∧ n = xs.length - i ∧ σ.t 0 = .bs 900000 3 xs.length ∧ σ.t 1 = .s (.int .i64 (k + cnts TyI.cnt (xs.take i))) ∧ σ.t 5 = .s (.int .i64 i) ∧ σ.b 900000 = some (.arr 31 3 ((stM TyI.cnt TyI.mark k xs i).map TyI.own))) xs.length ⟨0, by omega, by omega, ?_⟩ ?_
  · simp only [go_sem, simprocAttr, Int.natCast_zero, stM_zero, List.take_zero, cnts, Int.add_zero]
  · rintro n σ ⟨i, hi, rfl, h0, h1, h5, h9⟩ K' hK
    by_cases hlt : i < xs.length
    · have hc := cnts_step (c := TyI.cnt) hlt
      have hc' := cnts_le (c := TyI.cnt) xs (i + 1)
      have hx := stM_get (c := TyI.cnt) (m := TyI.mark) k hlt TyI.own
      have hpl := stM_len (c := TyI.cnt) (m := TyI.mark) k (Nat.le_of_lt hlt)
      have hst := stM_set (c := TyI.cnt) (m := TyI.mark) k hlt TyI.own
      have hgs : ∀ r, (((stM TyI.cnt TyI.mark k xs i).map TyI.own).set i r).getD i [] = r := fun r => by rw [List.getD_eq_getElem?_getD, List.getElem?_set_self (by rw [List.length_map, hpl]; exact hlt)]; rfl
      simp only [TyI.own_eq, TyI.mark] at hx hst
      simp only [TyI.cnt] at hc
      (have hWf := WFx.mk (And.intro @h0 <| And.intro @h1 <| And.intro @h5 <| And.intro @h9 <| And.intro @hx <| And.intro @hpl <| And.intro @hgs <| And.intro @hst <| @TyI.own_eq); repeat' (first | refine zS ?_ | exact zE | with_reducible apply And.intro | ((with_reducible apply q_CallG); refine zG (c_markText ((k + (cnts TyI.cnt (xs.take i) : Nat)) + 1) (by omega)) ?_) | ((with_reducible apply q_CallQ); refine CallQ_mk (c_markText ((k + (cnts TyI.cnt (xs.take i) : Nat)) + 1) (by omega)) ?_) | ((with_reducible intro hb0); revert hb0; with_reducible first | exact zB0 | refine zB fun hb => ?_ | fail) | ((with_reducible apply q_Meet); exact zM) | exact zC | refine zT ?_ | fail))
      refine hK (xs.length - (i + 1)) _ (by omega) ⟨i + 1, by omega, rfl, ?_⟩
      simp only [go_sem, simprocAttr, h0, h1, h5, h9, Int.natCast_succ, hst]
      exact sI_congr (by rw [hc]; push_cast; omega)
    · obtain rfl : i = xs.length := by omega
      rw [stM_all] at h9
      rw [List.take_length] at h1
      (have hWf := WFx.mk (And.intro @h0 <| And.intro @h1 <| And.intro @h5 <| And.intro @h9 <| @marks_len); repeat' (first | refine zS ?_ | exact zE | with_reducible apply And.intro | ((with_reducible intro hb0); revert hb0; with_reducible first | exact zB0 | refine zB fun hb => ?_ | fail) | ((with_reducible apply q_Meet); exact zM) | exact zC | refine zT ?_ | fail))
set_option maxRecDepth 100000 in
set_option maxHeartbeats 1000000 in
theorem c_heldTyItemS (xs : List TyI) (hl : xs.length ≤ 1048576) (k : Int) (h0 : 0 ≤ k) (hk : k + cnts TyI.cnt xs ≤ 4611686018427387904) : FCon Try.prog 68 [.sl 3 ((marks TyI.cnt TyI.mark k xs).map TyI.enc), .s (.int .i64 k)] (fun r _ => r = .s (.int .i64 (k + cnts TyI.cnt xs))) := by
  refine FCon.intro PM _ Try.func68 (by kernel_rfl) rfl _ Try.ntmps68 rfl [(7, 7, [], [], (lin [] [0, 1, 2, 3, 4, 5, 6]))] (by decide +kernel) (by simp) (by simp) rfl (by first | rfl | simp only [go_sem]) ?_
  have hml := marks_len (c := TyI.cnt) (m := TyI.mark) k xs
  (have hWf := f0; repeat' (first | refine zS ?_ | exact zE | with_reducible apply And.intro | ((with_reducible intro hb0); revert hb0; with_reducible first | exact zB0 | refine zB fun hb => ?_ | fail) | ((with_reducible apply q_Meet); exact zM) | exact zC | refine zT ?_ | fail))
  refine AC_loop (fun n σ => ∃ i : Nat, i ≤ xs.length ∧ n = xs.length - i ∧ σ.t 0 = .sl 3 ((marks TyI.cnt TyI.mark k xs).map TyI.enc) ∧ σ.t 1 = .s (.int .i64 (k + cnts TyI.cnt (xs.take i))) ∧ σ.t 5 = .s (.int .i64 i)) xs.length ⟨0, by omega, by omega, ?_⟩ ?_
  · simp only [go_sem, simprocAttr, Int.natCast_zero, List.take_zero, cnts, Int.add_zero]
  · rintro n σ ⟨i, hi, rfl, h0, h1, h5⟩ K' hK
    by_cases hlt : i < xs.length
    · have hc := cnts_step (c := TyI.cnt) hlt
      have hc' := cnts_le (c := TyI.cnt) xs (i + 1)
      have hx := marks_get (c := TyI.cnt) (m := TyI.mark) k hlt TyI.enc
      simp only [TyI.enc_eq, TyI.mark] at hx
      simp only [TyI.cnt] at hc
      (have hWf := WFx.mk (And.intro @h0 <| And.intro @h1 <| And.intro @h5 <| And.intro @hx <| @hml); repeat' (first | refine zS ?_ | exact zE | with_reducible apply And.intro | ((with_reducible apply q_CallG); refine zG (c_markText ((k + (cnts TyI.cnt (xs.take i) : Nat)) + 1) (by omega)) ?_) | ((with_reducible apply q_CallQ); refine CallQ_mk (c_markText ((k + (cnts TyI.cnt (xs.take i) : Nat)) + 1) (by omega)) ?_) | ((with_reducible intro hb0); revert hb0; with_reducible first | exact zB0 | refine zB fun hb => ?_ | fail) | ((with_reducible apply q_Meet); exact zM) | exact zC | refine zT ?_ | fail))
      all_goals
        refine hK (xs.length - (i + 1)) _ (by omega) ⟨i + 1, by omega, rfl, ?_⟩
        simp only [go_sem, simprocAttr, h0, h1, h5, Int.natCast_succ]
        exact sI_congr (by rw [hc]; push_cast; omega)
    · obtain rfl : i = xs.length := by omega
      rw [List.take_length] at h1
      (have hWf := WFx.mk (And.intro @h0 <| And.intro @h1 <| And.intro @h5 <| @hml); repeat' (first | refine zS ?_ | exact zE | with_reducible apply And.intro | ((with_reducible intro hb0); revert hb0; with_reducible first | exact zB0 | refine zB fun hb => ?_ | fail) | ((with_reducible apply q_Meet); exact zM) | exact zC | refine zT ?_ | fail))
end Go.Proofs.Ytngobmjdbjlkcaa

/- Data Ty over the second engine: how they lie, own and lent; copies, sizes, comparisons, marks. Printed by gen2.py. -/
namespace Go.Proofs.Ytngobmjdbjlkcaa
set_option linter.unusedVariables false
set_option linter.unusedSimpArgs false
attribute [local go_sem] List.length_set List.set_set
open Go.RowKit Go.ChangeShapes Go.WideShapes
structure MTy where
  items : List TyI
def MTy.enc (x : MTy) : List D := [.sl 3 (x.items.map TyI.enc)]
theorem MTy.enc_eq (x : MTy) : x.enc = [.sl 3 (x.items.map TyI.enc)] := rfl
def MTy.own (x : MTy) : List D := [.osl 31 3 (x.items.map TyI.own)]
theorem MTy.own_eq (x : MTy) : x.own = [.osl 31 3 (x.items.map TyI.own)] := rfl
theorem MTy.frz_eq (x : MTy) : frzL x.own = x.enc := by
  simp only [MTy.own_eq, MTy.enc_eq, frzL, frz, frz_rows TyI.frz_eq]
def MTy.ok (x : MTy) : Prop := (∀ y ∈ x.items, y.ok)
def MTy.sm (x : MTy) : Prop := smS TyI.sm x.items
def MTy.cnt (x : MTy) : Nat := cnts TyI.cnt x.items
def MTy.mark (k : Int) (x : MTy) : MTy := ⟨marks TyI.cnt TyI.mark k x.items⟩
theorem MTy.cnt_eq (x : MTy) : x.cnt = cnts TyI.cnt x.items := rfl
theorem MTy.mark_eq (k : Int) (x : MTy) : MTy.mark k x = ⟨marks TyI.cnt TyI.mark k x.items⟩ := rfl
theorem MTy.pure (x : MTy) : ∀ d ∈ x.own, Pure d := by
  simp only [MTy.own_eq, List.forall_mem_cons, List.not_mem_nil, false_imp_iff, implies_true, and_true]
  exact pure_rows TyI.pure _ _ _
theorem MTy.pureS (e k : Nat) (xs : List MTy) : Pure (.osl e k (xs.map MTy.own)) = True := eq_true (pure_rows MTy.pure e k xs)
attribute [go_sem] MTy.pureS
theorem MTy.frzS (xs : List MTy) : frzLL (xs.map MTy.own) = xs.map MTy.enc := frz_rows MTy.frz_eq xs
attribute [go_sem] MTy.frzS
set_option maxRecDepth 100000 in
set_option maxHeartbeats 1000000 in
theorem c_toTy (x : MTy) (hs : x.sm) : FCon Try.prog 18 [.ag x.enc] (fun r _ => r = .ag x.own) := by
  refine FCon.intro PM _ Try.func18 (by kernel_rfl) rfl _ Try.ntmps18 rfl [] (by decide +kernel) (by simp) (by simp) rfl (by first | rfl | simp only [go_sem]) ?_
  (have hWf := WFx.mk (And.intro @MTy.enc_eq <| @MTy.own_eq); repeat' (first | refine zS ?_ | exact zE | with_reducible apply And.intro | refine zK (c_toTyItemS x.items (hs)) ?_ | ((with_reducible intro hb0); revert hb0; with_reducible first | exact zB0 | refine zB fun hb => ?_ | fail) | ((with_reducible apply q_Meet); exact zM) | exact zC | refine zT ?_ | fail))
set_option maxRecDepth 100000 in
set_option maxHeartbeats 1000000 in
theorem c_szTy (x : MTy) (ho : x.ok) (left : Int) (h0 : 0 ≤ left) (h1 : left ≤ 1048576) : FCon Try.prog 15 [.ag x.enc, .s (.int .i64 left)] (fun r _ => RsZ left x.sm r) := by
  refine FCon.intro PM _ Try.func15 (by kernel_rfl) rfl _ Try.ntmps15 rfl [] (by decide +kernel) (by simp) (by simp) rfl (by first | rfl | simp only [go_sem]) ?_
  (have hWf := WFx.mk @MTy.enc_eq; repeat' (first | refine zS ?_ | exact zE | with_reducible apply And.intro | ((with_reducible apply q_CallG); refine CallG_mk (c_szTyItemS x.items (ho) _ (by omega) (by omega)) ?_; rintro _ _ ⟨z0, rfl, z0a, z0b, z0c⟩) | ((with_reducible apply q_CallQ); refine CallQ_mk (c_szTyItemS x.items (ho) _ (by omega) (by omega)) ?_) | ((with_reducible intro hb0); revert hb0; with_reducible first | exact zB0 | refine zB fun hb => ?_ | fail) | ((with_reducible apply q_Meet); exact zM) | exact zC | refine zT ?_ | fail))
  all_goals (first | exact ⟨_, rfl, by omega, by omega, by omega⟩ | exact ⟨_, rfl, by omega, by omega, fun _ => (show smS TyI.sm x.items from (z0c (by omega)))⟩)
set_option maxRecDepth 100000 in
set_option maxHeartbeats 1000000 in
theorem c_eqTy (x : MTy) : FCon Try.prog 21 [.ag x.enc, .ag x.enc] (fun r _ => r = .s (.bool true)) := by
  refine FCon.intro PM _ Try.func21 (by kernel_rfl) rfl _ Try.ntmps21 rfl [] (by decide +kernel) (by simp) (by simp) rfl (by first | rfl | simp only [go_sem]) ?_
  (have hWf := WFx.mk @MTy.enc_eq; repeat' (first | refine zS ?_ | exact zE | with_reducible apply And.intro | refine zK (c_eqTyItemS x.items) ?_ | ((with_reducible intro hb0); revert hb0; with_reducible first | exact zB0 | refine zB fun hb => ?_ | fail) | ((with_reducible apply q_Meet); exact zM) | exact zC | refine zT ?_ | fail))
set_option maxRecDepth 100000 in
set_option maxHeartbeats 1000000 in
theorem c_markTy (x : MTy) (hs : x.sm) (k : Int) (h0 : 0 ≤ k) (hk : k + x.cnt ≤ 4611686018427387904) : FCon Try.prog 23 [.ag x.own, .s (.int .i64 k)] (fun r o => r = .s (.int .i64 (k + x.cnt)) ∧ o = [.ag (MTy.mark k x).own, .un]) := by
  simp only [MTy.cnt] at hk
  refine FCon.intro PM _ Try.func23 (by kernel_rfl) rfl _ Try.ntmps23 rfl [] (by decide +kernel) (by simp) (by simp) rfl (by first | rfl | simp only [go_sem]) ?_
  (have hWf := WFx.mk (And.intro @MTy.own_eq <| And.intro @marks_len <| And.intro @MTy.cnt_eq <| @MTy.mark_eq); repeat' (first | refine zS ?_ | exact zE | with_reducible apply And.intro | ((with_reducible apply q_CallG); refine CallG_mk (c_markTyItemS x.items (hs).1 _ (by omega) (by omega)) ?_; rintro _ _ ⟨rfl, rfl⟩) | ((with_reducible apply q_CallQ); refine CallQ_mk (c_markTyItemS x.items (hs).1 _ (by omega) (by omega)) ?_) | ((with_reducible intro hb0); revert hb0; with_reducible first | exact zB0 | refine zB fun hb => ?_ | fail) | ((with_reducible apply q_Meet); exact zM) | exact zC | refine zT ?_ | fail))
set_option maxRecDepth 100000 in
set_option maxHeartbeats 1000000 in
theorem c_heldTy (x : MTy) (hs : x.sm) (k : Int) (h0 : 0 ≤ k) (hk : k + x.cnt ≤ 4611686018427387904) : FCon Try.prog 25 [.ag (MTy.mark k x).enc, .s (.int .i64 k)] (fun r _ => r = .s (.int .i64 (k + x.cnt))) := by
  simp only [MTy.cnt] at hk
  refine FCon.intro PM _ Try.func25 (by kernel_rfl) rfl _ Try.ntmps25 rfl [] (by decide +kernel) (by simp) (by simp) rfl (by first | rfl | simp only [go_sem]) ?_
  (have hWf := WFx.mk (And.intro @MTy.enc_eq <| And.intro @MTy.mark_eq <| @MTy.cnt_eq); repeat' (first | refine zS ?_ | exact zE | with_reducible apply And.intro | ((with_reducible apply q_CallG); refine zG (c_heldTyItemS x.items (hs).1 _ (by omega) (by omega)) ?_) | ((with_reducible apply q_CallQ); refine CallQ_mk (c_heldTyItemS x.items (hs).1 _ (by omega) (by omega)) ?_) | ((with_reducible intro hb0); revert hb0; with_reducible first | exact zB0 | refine zB fun hb => ?_ | fail) | ((with_reducible apply q_Meet); exact zM) | exact zC | refine zT ?_ | fail))
end Go.Proofs.Ytngobmjdbjlkcaa

/- Data Sub over the second engine: how they lie, own and lent; copies, sizes, comparisons, marks. Printed by gen2.py. -/
namespace Go.Proofs.Ytngobmjdbjlkcaa
set_option linter.unusedVariables false
set_option linter.unusedSimpArgs false
attribute [local go_sem] List.length_set List.set_set
open Go.RowKit Go.ChangeShapes Go.WideShapes
structure SubM where
  v : Int
  ty : List TyI
def SubM.enc (x : SubM) : List D := [.s (.int .i64 x.v), .sl 3 (x.ty.map TyI.enc)]
theorem SubM.enc_eq (x : SubM) : x.enc = [.s (.int .i64 x.v), .sl 3 (x.ty.map TyI.enc)] := rfl
def SubM.own (x : SubM) : List D := [.s (.int .i64 x.v), .osl 31 3 (x.ty.map TyI.own)]
theorem SubM.own_eq (x : SubM) : x.own = [.s (.int .i64 x.v), .osl 31 3 (x.ty.map TyI.own)] := rfl
theorem SubM.frz_eq (x : SubM) : frzL x.own = x.enc := by
  simp only [SubM.own_eq, SubM.enc_eq, frzL, frz, frz_rows TyI.frz_eq]
def SubM.ok (x : SubM) : Prop := I64 x.v ∧ (∀ y ∈ x.ty, y.ok)
def SubM.sm (x : SubM) : Prop := smS TyI.sm x.ty
def SubM.cnt (x : SubM) : Nat := 1 + cnts TyI.cnt x.ty
def SubM.mark (k : Int) (x : SubM) : SubM := ⟨k, marks TyI.cnt TyI.mark (k + 1) x.ty⟩
theorem SubM.cnt_eq (x : SubM) : x.cnt = 1 + cnts TyI.cnt x.ty := rfl
theorem SubM.mark_eq (k : Int) (x : SubM) : SubM.mark k x = ⟨k, marks TyI.cnt TyI.mark (k + 1) x.ty⟩ := rfl
theorem SubM.pure (x : SubM) : ∀ d ∈ x.own, Pure d := by
  simp only [SubM.own_eq, List.forall_mem_cons, List.not_mem_nil, false_imp_iff, implies_true, and_true]
  exact ⟨.s _, pure_rows TyI.pure _ _ _⟩
theorem SubM.pureS (e k : Nat) (xs : List SubM) : Pure (.osl e k (xs.map SubM.own)) = True := eq_true (pure_rows SubM.pure e k xs)
attribute [go_sem] SubM.pureS
theorem SubM.frzS (xs : List SubM) : frzLL (xs.map SubM.own) = xs.map SubM.enc := frz_rows SubM.frz_eq xs
attribute [go_sem] SubM.frzS
set_option maxRecDepth 100000 in
set_option maxHeartbeats 1000000 in
theorem c_toSub (x : SubM) (hs : x.sm) : FCon Try.prog 63 [.ag x.enc] (fun r _ => r = .ag x.own) := by
  refine FCon.intro PM _ Try.func63 (by kernel_rfl) rfl _ Try.ntmps63 rfl [] (by decide +kernel) (by simp) (by simp) rfl (by first | rfl | simp only [go_sem]) ?_
  (have hWf := WFx.mk (And.intro @SubM.enc_eq <| And.intro @SubM.own_eq <| And.intro @MTy.enc_eq <| @MTy.own_eq); repeat' (first | refine zS ?_ | exact zE | with_reducible apply And.intro | refine zK (c_toTy ⟨x.ty⟩ (hs)) ?_ | ((with_reducible intro hb0); revert hb0; with_reducible first | exact zB0 | refine zB fun hb => ?_ | fail) | ((with_reducible apply q_Meet); exact zM) | exact zC | refine zT ?_ | fail))
set_option maxRecDepth 100000 in
set_option maxHeartbeats 1000000 in
theorem c_toSubS (xs : List SubM) (hs : smS SubM.sm xs) : FCon Try.prog 19 [.sl 2 (xs.map SubM.enc)] (fun r _ => r = .osl 77 2 (xs.map SubM.own)) := by
  have hl := hs.1
  refine FCon.intro PM _ Try.func19 (by kernel_rfl) rfl _ Try.ntmps19 rfl [] (by decide +kernel) (by simp) (by simp) rfl (by first | rfl | simp only [go_sem]) ?_
  (have hWf := f0; repeat' (first | refine zS ?_ | exact zE | with_reducible apply And.intro | ((with_reducible intro hb0); revert hb0; with_reducible first | exact zB0 | refine zB fun hb => ?_ | fail) | ((with_reducible apply q_Meet); exact zM) | exact zC | refine zT ?_ | fail))
  refine AC_loop (fun n σ => ∃ k : Nat, k ≤ xs.length ∧ n = xs.length - k ∧ σ.t 0 = .sl 2 (xs.map SubM.enc) ∧ σ.t 3 = .bs 7 2 xs.length ∧ σ.t 4 = .s (.int .i64 k) ∧ σ.b 7 = some (.arr 77 2 (partR SubM.own [.s (.int .i64 0), .nil] xs k))) xs.length ⟨0, by omega, by omega, ?_⟩ ?_
  · simp only [go_sem, simprocAttr, partR_zero, Int.natCast_zero]
  · rintro n σ ⟨k, hk, rfl, h0, h3, h4, h7⟩ K' hK
    by_cases hlt : k < xs.length
    · have hx := getD_map SubM.enc xs k hlt
      have he := SubM.enc_eq xs[k]
      have hpl := partR_len (f := SubM.own) (z := [.s (.int .i64 0), .nil]) (Nat.le_of_lt hlt)
      have hg := partR_get (f := SubM.own) (z := [.s (.int .i64 0), .nil]) hlt
      have hst := partR_set (f := SubM.own) (z := [.s (.int .i64 0), .nil]) hlt
      rw [SubM.own_eq] at hst
      (have hWf := WFx.mk (And.intro @h0 <| And.intro @h3 <| And.intro @h4 <| And.intro @h7 <| And.intro @hx <| And.intro @he <| And.intro @SubM.own_eq <| And.intro @hpl <| And.intro @hg <| @hst); repeat' (first | refine zS ?_ | exact zE | with_reducible apply And.intro | ((with_reducible apply q_CallG); refine zG (c_toSub xs[k] (hs.2 _ (List.getElem_mem hlt))) ?_) | ((with_reducible apply q_CallQ); refine CallQ_mk (c_toSub xs[k] (hs.2 _ (List.getElem_mem hlt))) ?_) | ((with_reducible intro hb0); revert hb0; with_reducible first | exact zB0 | refine zB fun hb => ?_ | fail) | ((with_reducible apply q_Meet); exact zM) | exact zC | refine zT ?_ | fail))
      refine hK (xs.length - (k + 1)) _ (by omega) ⟨k + 1, by omega, rfl, ?_⟩
      simp only [go_sem, simprocAttr, h0, h3, h4, h7, Int.natCast_succ]
    · obtain rfl : k = xs.length := by omega
      rw [partR_all] at h7
      (have hWf := WFx.mk (And.intro @h0 <| And.intro @h3 <| And.intro @h4 <| @h7); repeat' (first | refine zS ?_ | exact zE | with_reducible apply And.intro | ((with_reducible intro hb0); revert hb0; with_reducible first | exact zB0 | refine zB fun hb => ?_ | fail) | ((with_reducible apply q_Meet); exact zM) | exact zC | refine zT ?_ | fail))
set_option maxRecDepth 100000 in
set_option maxHeartbeats 1000000 in
theorem c_szSub (x : SubM) (ho : x.ok) (left : Int) (h0 : 0 ≤ left) (h1 : left ≤ 1048576) : FCon Try.prog 60 [.ag x.enc, .s (.int .i64 left)] (fun r _ => RsZ left x.sm r) := by
  refine FCon.intro PM _ Try.func60 (by kernel_rfl) rfl _ Try.ntmps60 rfl [] (by decide +kernel) (by simp) (by simp) rfl (by first | rfl | simp only [go_sem]) ?_
  (have hWf := WFx.mk (And.intro @SubM.enc_eq <| @MTy.enc_eq); repeat' (first | refine zS ?_ | exact zE | with_reducible apply And.intro | ((with_reducible apply q_CallG); refine CallG_mk (c_szTy ⟨x.ty⟩ (ho.2) _ (by omega) (by omega)) ?_; rintro _ _ ⟨z0, rfl, z0a, z0b, z0c⟩) | ((with_reducible apply q_CallQ); refine CallQ_mk (c_szTy ⟨x.ty⟩ (ho.2) _ (by omega) (by omega)) ?_) | ((with_reducible intro hb0); revert hb0; with_reducible first | exact zB0 | refine zB fun hb => ?_ | fail) | ((with_reducible apply q_Meet); exact zM) | exact zC | refine zT ?_ | fail))
  all_goals (first | exact ⟨_, rfl, by omega, by omega, by omega⟩ | exact ⟨_, rfl, by omega, by omega, fun _ => (show smS TyI.sm x.ty from (z0c (by omega)))⟩)
set_option maxRecDepth 100000 in
set_option maxHeartbeats 1000000 in
theorem c_szSubS (xs : List SubM) (ho : ∀ x ∈ xs, x.ok) (left : Int) (h0 : 0 ≤ left) (h1 : left ≤ 1048576) : FCon Try.prog 16 [.sl 2 (xs.map SubM.enc), .s (.int .i64 left)] (fun r _ => RsZ left (smS SubM.sm xs) r) := by
  refine FCon.intro PM _ Try.func16 (by kernel_rfl) rfl _ Try.ntmps16 rfl [] (by decide +kernel) (by simp) (by simp) rfl (by first | rfl | simp only [go_sem]) ?_
  refine AC_len 0 rfl trivial fun hlen => ?_
  simp only [List.length_map] at hlen
  by_cases hll : left < xs.length
  · (have hWf := f0; repeat' (first | refine zS ?_ | exact zE | with_reducible apply And.intro | ((with_reducible intro hb0); revert hb0; with_reducible first | exact zB0 | refine zB fun hb => ?_ | fail) | ((with_reducible apply q_Meet); exact zM) | exact zC | refine zT ?_ | fail))
    all_goals exact ⟨_, rfl, by omega, by omega, by omega⟩
  · (have hWf := f0; repeat' (first | refine zS ?_ | exact zE | with_reducible apply And.intro | ((with_reducible intro hb0); revert hb0; with_reducible first | exact zB0 | refine zB fun hb => ?_ | fail) | ((with_reducible apply q_Meet); exact zM) | exact zC | refine zT ?_ | fail))
    refine AC_loop (fun n σ => ∃ (k : Nat) (l : Int), k ≤ xs.length ∧ n = xs.length - k ∧ σ.t 0 = .sl 2 (xs.map SubM.enc) ∧ σ.t 1 = .s (.int .i64 l) ∧ σ.t 5 = .s (.int .i64 k) ∧ 0 ≤ l ∧ l ≤ left ∧ ∀ x ∈ xs.take k, x.sm) xs.length ⟨0, left - xs.length, by omega, by omega, ?_⟩ ?_
    · simp only [go_sem, simprocAttr, Int.natCast_zero]
      first | exact ⟨by omega, by omega, by simp⟩ | omega
    · rintro n σ ⟨k, l, hk, rfl, s0, s1, s5, hl0, hl1, hsm⟩ K' hK
      by_cases hlt : k < xs.length
      · have hx := getD_map SubM.enc xs k hlt
        have he := SubM.enc_eq xs[k]
        (have hWf := WFx.mk (And.intro @s0 <| And.intro @s1 <| And.intro @s5 <| And.intro @hx <| @he); repeat' (first | refine zS ?_ | exact zE | with_reducible apply And.intro | ((with_reducible apply q_CallG); refine CallG_mk (c_szSub xs[k] (ho _ (List.getElem_mem hlt)) l hl0 (by omega)) ?_; rintro _ _ ⟨z, rfl, za, zb, zc⟩) | ((with_reducible apply q_CallQ); refine CallQ_mk (c_szSub xs[k] (ho _ (List.getElem_mem hlt)) l hl0 (by omega)) ?_) | ((with_reducible intro hb0); revert hb0; with_reducible first | exact zB0 | refine zB fun hb => ?_ | fail) | ((with_reducible apply q_Meet); exact zM) | exact zC | refine zT ?_ | fail))
        · exact ⟨_, rfl, by omega, by omega, by omega⟩
        · refine hK (xs.length - (k + 1)) _ (by omega) ⟨k + 1, z, by omega, rfl, ?_⟩
          simp only [go_sem, simprocAttr, s0, s1, s5, Int.natCast_succ]
          refine ⟨by omega, by omega, fun x hx => ?_⟩
          rw [List.take_succ_eq_append_getElem hlt] at hx
          rcases List.mem_append.1 hx with hx | hx
          · exact hsm x hx
          · simp at hx; rw [hx]; exact zc (by omega)
      · obtain rfl : k = xs.length := by omega
        (have hWf := WFx.mk (And.intro @s0 <| And.intro @s1 <| @s5); repeat' (first | refine zS ?_ | exact zE | with_reducible apply And.intro | ((with_reducible intro hb0); revert hb0; with_reducible first | exact zB0 | refine zB fun hb => ?_ | fail) | ((with_reducible apply q_Meet); exact zM) | exact zC | refine zT ?_ | fail))
        exact ⟨_, rfl, by omega, by omega, fun _ => ⟨by omega, by simpa using hsm⟩⟩
set_option maxRecDepth 100000 in
set_option maxHeartbeats 1000000 in
theorem c_eqSub (x : SubM) : FCon Try.prog 66 [.ag x.enc, .ag x.enc] (fun r _ => r = .s (.bool true)) := by
  refine FCon.intro PM _ Try.func66 (by kernel_rfl) rfl _ Try.ntmps66 rfl [] (by decide +kernel) (by simp) (by simp) rfl (by first | rfl | simp only [go_sem]) ?_
  (have hWf := WFx.mk (And.intro @SubM.enc_eq <| @MTy.enc_eq); repeat' (first | refine zS ?_ | exact zE | with_reducible apply And.intro | refine zK (c_eqTy ⟨x.ty⟩) ?_ | ((with_reducible intro hb0); revert hb0; with_reducible first | exact zB0 | refine zB fun hb => ?_ | fail) | ((with_reducible apply q_Meet); exact zM) | exact zC | refine zT ?_ | fail))
set_option maxRecDepth 100000 in
set_option maxHeartbeats 1000000 in
theorem c_eqSubS (xs : List SubM) : FCon Try.prog 22 [.sl 2 (xs.map SubM.enc), .sl 2 (xs.map SubM.enc)] (fun r _ => r = .s (.bool true)) := by
  refine FCon.intro PM _ Try.func22 (by kernel_rfl) rfl _ Try.ntmps22 rfl [(6, 8, [], [], (lin [] [0, 1, 2, 3, 4, 5, 6, 7]))] (by decide +kernel) (by simp) (by simp) rfl (by first | rfl | simp only [go_sem]) ?_
  refine AC_len 0 rfl trivial fun hlen => ?_
  simp only [List.length_map] at hlen
  (have hWf := f0; repeat' (first | refine zS ?_ | exact zE | with_reducible apply And.intro | ((with_reducible intro hb0); revert hb0; with_reducible first | exact zB0 | refine zB fun hb => ?_ | fail) | ((with_reducible apply q_Meet); exact zM) | exact zC | refine zT ?_ | fail))
  refine AC_loop (fun n σ => ∃ k : Nat, k ≤ xs.length ∧ n = xs.length - k ∧ σ.t 0 = .sl 2 (xs.map SubM.enc) ∧ σ.t 1 = .sl 2 (xs.map SubM.enc) ∧ σ.t 5 = .s (.int .i64 k)) xs.length ⟨0, by omega, by omega, ?_⟩ ?_
  · simp only [go_sem, simprocAttr, Int.natCast_zero]
  · rintro n σ ⟨k, hk, rfl, h0, h1, h5⟩ K' hK
    by_cases hlt : k < xs.length
    · have hx := getD_map SubM.enc xs k hlt
      have he := SubM.enc_eq xs[k]
      (have hWf := WFx.mk (And.intro @h0 <| And.intro @h1 <| And.intro @h5 <| And.intro @hx <| @he); repeat' (first | refine zS ?_ | exact zE | with_reducible apply And.intro | refine zK (c_eqSub xs[k]) ?_ | ((with_reducible intro hb0); revert hb0; with_reducible first | exact zB0 | refine zB fun hb => ?_ | fail) | ((with_reducible apply q_Meet); exact zM) | exact zC | refine zT ?_ | fail))
      all_goals
        refine hK (xs.length - (k + 1)) _ (by omega) ⟨k + 1, by omega, rfl, ?_⟩
        simp only [go_sem, simprocAttr, h0, h1, h5, Int.natCast_succ]
    · (have hWf := WFx.mk (And.intro @h0 <| And.intro @h1 <| @h5); repeat' (first | refine zS ?_ | exact zE | with_reducible apply And.intro | ((with_reducible intro hb0); revert hb0; with_reducible first | exact zB0 | refine zB fun hb => ?_ | fail) | ((with_reducible apply q_Meet); exact zM) | exact zC | refine zT ?_ | fail))
set_option maxRecDepth 100000 in
set_option maxHeartbeats 1000000 in
theorem c_markSubS (xs : List SubM) (hs : smS SubM.sm xs) (k : Int) (h0 : 0 ≤ k) (hk : k + cnts SubM.cnt xs ≤ 4611686018427387904) : FCon Try.prog 24 [.osl 77 2 (xs.map SubM.own), .s (.int .i64 k)] (fun r o => r = .s (.int .i64 (k + cnts SubM.cnt xs)) ∧ o = [.osl 77 2 ((marks SubM.cnt SubM.mark k xs).map SubM.own), .un]) := by
  refine FCon.intro PM _ Try.func24 (by kernel_rfl) rfl _ Try.ntmps24 rfl [] (by decide +kernel) (by simp) (by simp) rfl (by first | rfl | simp only [go_sem]) ?_
  (have hWf := f0; repeat' (first | refine zS ?_ | exact zE | with_reducible apply And.intro | ((with_reducible intro hb0); revert hb0; with_reducible first | exact zB0 | refine zB fun hb => ?_ | fail) | ((with_reducible apply q_Meet); exact zM) | exact zC | refine zT ?_ | fail))
  refine AC_loopW (fun n σ => ∃ i : Nat, i ≤ xs.length ∧ n = xs.length - i ∧ σ.t 0 = .bs 900000 2 xs.length ∧ σ.t 1 = .s (.int .i64 (k + cnts SubM.cnt (xs.take i))) ∧ σ.t 5 = .s (.int .i64 i) ∧ σ.b 900000 = some (.arr 77 2 ((stM SubM.cnt SubM.mark k xs i).map SubM.own))) xs.length ⟨0, by omega, by omega, ?_⟩ ?_
  · simp only [go_sem, simprocAttr, Int.natCast_zero, stM_zero, List.take_zero, cnts, Int.add_zero]
  · rintro n σ ⟨i, hi, rfl, h0, h1, h5, h9⟩ K' hK
    by_cases hlt : i < xs.length
    · have hc := cnts_step (c := SubM.cnt) hlt
      have hc' := cnts_le (c := SubM.cnt) xs (i + 1)
      have hx := stM_get (c := SubM.cnt) (m := SubM.mark) k hlt SubM.own
      have hpl := stM_len (c := SubM.cnt) (m := SubM.mark) k (Nat.le_of_lt hlt)
      have hst := stM_set (c := SubM.cnt) (m := SubM.mark) k hlt SubM.own
      have hgs : ∀ r, (((stM SubM.cnt SubM.mark k xs i).map SubM.own).set i r).getD i [] = r := fun r => by rw [List.getD_eq_getElem?_getD, List.getElem?_set_self (by rw [List.length_map, hpl]; exact hlt)]; rfl
      simp only [SubM.own_eq, SubM.mark] at hx hst
      simp only [SubM.cnt] at hc
      have hrow : ((stM SubM.cnt SubM.mark k xs i).map SubM.own)[i]? = some (SubM.own xs[i]) := by
        have h1 : i < ((stM SubM.cnt SubM.mark k xs i).map SubM.own).length := by simpa [hpl] using hlt
        rw [List.getElem?_eq_getElem h1, ← getD_of (List.getElem?_eq_getElem h1), hx]
        rfl
      have hsx := hs.2 _ (List.getElem_mem hlt)
      have hl := hs.1
      (refine AC_go ?_; simp only [go_sem, simprocAttr, h0, h1, h5]; (have hWf := WFx.mk (And.intro @h0 <| And.intro @h1 <| @h5); repeat' (first | refine zY ?_ | with_reducible apply And.intro | ((with_reducible intro hb0); revert hb0; with_reducible first | exact zB0 | refine zB fun hb => ?_ | fail) | ((with_reducible apply q_Meet); exact zM) | exact zC | refine zT ?_ | fail)))
      (refine AC_go ?_; simp only [go_sem, simprocAttr, h0, h1, h5]; (have hWf := WFx.mk (And.intro @h0 <| And.intro @h1 <| @h5); repeat' (first | refine zY ?_ | with_reducible apply And.intro | ((with_reducible intro hb0); revert hb0; with_reducible first | exact zB0 | refine zB fun hb => ?_ | fail) | ((with_reducible apply q_Meet); exact zM) | exact zC | refine zT ?_ | fail)))
      (refine AC_go ?_; simp only [go_sem, simprocAttr, h0, h1, h5]; (have hWf := WFx.mk (And.intro @h0 <| And.intro @h1 <| @h5); repeat' (first | refine zY ?_ | with_reducible apply And.intro | ((with_reducible intro hb0); revert hb0; with_reducible first | exact zB0 | refine zB fun hb => ?_ | fail) | ((with_reducible apply q_Meet); exact zM) | exact zC | refine zT ?_ | fail)))
      (refine AC_go ?_; simp only [go_sem, simprocAttr, h0, h1, h5, h9, hx, hpl, hgs, List.set_set, List.length_set, SubM.own_eq]; (have hWf := WFx.mk (And.intro @h0 <| And.intro @h1 <| And.intro @h5 <| And.intro @h9 <| And.intro @hx <| And.intro @hpl <| And.intro @hgs <| @SubM.own_eq); repeat' (first | refine zY ?_ | with_reducible apply And.intro | ((with_reducible intro hb0); revert hb0; with_reducible first | exact zB0 | refine zB fun hb => ?_ | fail) | ((with_reducible apply q_Meet); exact zM) | exact zC | refine zT ?_ | fail)))
      (refine AC_go ?_; simp only [go_sem, simprocAttr, h0, h1, h5, h9, hx, hpl, hgs, List.set_set, List.length_set, SubM.own_eq]; (have hWf := WFx.mk (And.intro @h0 <| And.intro @h1 <| And.intro @h5 <| And.intro @h9 <| And.intro @hx <| And.intro @hpl <| And.intro @hgs <| @SubM.own_eq); repeat' (first | refine zY ?_ | with_reducible apply And.intro | ((with_reducible intro hb0); revert hb0; with_reducible first | exact zB0 | refine zB fun hb => ?_ | fail) | ((with_reducible apply q_Meet); exact zM) | exact zC | refine zT ?_ | fail)))
      refine AC_open 900000 i 1 1000000001 (e := 77) (k := 2) (rows := ((stM SubM.cnt SubM.mark k xs i).map SubM.own).set i [.s (.int .i64 (k + (cnts SubM.cnt (xs.take i) : Nat))), .osl 31 3 (xs[i].ty.map TyI.own)]) (row := [.s (.int .i64 (k + (cnts SubM.cnt (xs.take i) : Nat))), .osl 31 3 (xs[i].ty.map TyI.own)]) (d := .osl 31 3 (xs[i].ty.map TyI.own)) (by simp only [go_sem, simprocAttr, h9]) (List.getElem?_set_self (by rw [List.length_map, hpl]; exact hlt)) rfl rfl (by decide) (by decide) ?_
      (have hWf := WFx.mk (And.intro @h0 <| And.intro @h1 <| And.intro @h5 <| And.intro @h9 <| And.intro @hx <| And.intro @hpl <| And.intro @hgs <| And.intro @SubM.own_eq <| @marks_len); repeat' (first | refine zS ?_ | exact zE | with_reducible apply And.intro | ((with_reducible apply q_CallG); refine CallG_mk (c_markTyItemS xs[i].ty (hsx).1 _ (by omega) (by omega)) ?_; rintro _ _ ⟨rfl, rfl⟩) | ((with_reducible apply q_CallQ); refine CallQ_mk (c_markTyItemS xs[i].ty (hsx).1 _ (by omega) (by omega)) ?_) | ((with_reducible intro hb0); revert hb0; with_reducible first | exact zB0 | refine zB fun hb => ?_ | fail) | ((with_reducible apply q_Meet); exact zM) | exact zC | refine zT ?_ | fail))
      refine hK (xs.length - (i + 1)) _ _ (by omega) (Wk_close 900000 1000000001 (e := 77) (k := 2) (i := i) (j := 1) (rows := ((stM SubM.cnt SubM.mark k xs i).map SubM.own).set i [.s (.int .i64 (k + (cnts SubM.cnt (xs.take i) : Nat))), .osl 31 3 (xs[i].ty.map TyI.own)]) (r := .bs 1000000001 3 xs[i].ty.length) (d := .osl 31 3 ((marks TyI.cnt TyI.mark ((k + (cnts SubM.cnt (xs.take i) : Nat)) + 1) xs[i].ty).map TyI.own)) (ob := 3 = 3 ∧ xs[i].ty.length ≤ ((marks TyI.cnt TyI.mark ((k + (cnts SubM.cnt (xs.take i) : Nat)) + 1) xs[i].ty).map TyI.own).length) ?_ ?_ ⟨rfl, by rw [List.length_map, marks_len]; exact Nat.le_refl _⟩ rfl (by decide)) ⟨i + 1, by omega, rfl, ?_⟩
      · simp only [go_sem, simprocAttr, h9, hgs]
      · simp only [go_sem, simprocAttr, marks_len]
      · simp only [go_sem, simprocAttr, h0, h1, h5, h9, Int.natCast_succ, hst, hgs, List.set_set, List.set_cons_succ, List.set_cons_zero]
        exact sI_congr (by rw [hc]; push_cast; omega)
    · obtain rfl : i = xs.length := by omega
      rw [stM_all] at h9
      rw [List.take_length] at h1
      (have hWf := WFx.mk (And.intro @h0 <| And.intro @h1 <| And.intro @h5 <| And.intro @h9 <| @marks_len); repeat' (first | refine zS ?_ | exact zE | with_reducible apply And.intro | ((with_reducible intro hb0); revert hb0; with_reducible first | exact zB0 | refine zB fun hb => ?_ | fail) | ((with_reducible apply q_Meet); exact zM) | exact zC | refine zT ?_ | fail))
set_option maxRecDepth 100000 in
set_option maxHeartbeats 1000000 in
theorem c_heldSubS (xs : List SubM) (hs : smS SubM.sm xs) (k : Int) (h0 : 0 ≤ k) (hk : k + cnts SubM.cnt xs ≤ 4611686018427387904) : FCon Try.prog 37 [.sl 2 ((marks SubM.cnt SubM.mark k xs).map SubM.enc), .s (.int .i64 k)] (fun r _ => r = .s (.int .i64 (k + cnts SubM.cnt xs))) := by
  have hl := hs.1
  refine FCon.intro PM _ Try.func37 (by kernel_rfl) rfl _ Try.ntmps37 rfl [] (by decide +kernel) (by simp) (by simp) rfl (by first | rfl | simp only [go_sem]) ?_
  have hml := marks_len (c := SubM.cnt) (m := SubM.mark) k xs
  (have hWf := f0; repeat' (first | refine zS ?_ | exact zE | with_reducible apply And.intro | ((with_reducible intro hb0); revert hb0; with_reducible first | exact zB0 | refine zB fun hb => ?_ | fail) | ((with_reducible apply q_Meet); exact zM) | exact zC | refine zT ?_ | fail))
  refine AC_loop (fun n σ => ∃ i : Nat, i ≤ xs.length ∧ n = xs.length - i ∧ σ.t 0 = .sl 2 ((marks SubM.cnt SubM.mark k xs).map SubM.enc) ∧ σ.t 1 = .s (.int .i64 (k + cnts SubM.cnt (xs.take i))) ∧ σ.t 5 = .s (.int .i64 i)) xs.length ⟨0, by omega, by omega, ?_⟩ ?_
  · simp only [go_sem, simprocAttr, Int.natCast_zero, List.take_zero, cnts, Int.add_zero]
  · rintro n σ ⟨i, hi, rfl, h0, h1, h5⟩ K' hK
    by_cases hlt : i < xs.length
    · have hc := cnts_step (c := SubM.cnt) hlt
      have hc' := cnts_le (c := SubM.cnt) xs (i + 1)
      have hx := marks_get (c := SubM.cnt) (m := SubM.mark) k hlt SubM.enc
      simp only [SubM.enc_eq, SubM.mark] at hx
      simp only [SubM.cnt] at hc
      have hsx := hs.2 _ (List.getElem_mem hlt)
      (have hWf := WFx.mk (And.intro @h0 <| And.intro @h1 <| And.intro @h5 <| And.intro @hx <| @hml); repeat' (first | refine zS ?_ | exact zE | with_reducible apply And.intro | ((with_reducible apply q_CallG); refine zG (c_heldTyItemS xs[i].ty (hsx).1 _ (by omega) (by omega)) ?_) | ((with_reducible apply q_CallQ); refine CallQ_mk (c_heldTyItemS xs[i].ty (hsx).1 _ (by omega) (by omega)) ?_) | ((with_reducible intro hb0); revert hb0; with_reducible first | exact zB0 | refine zB fun hb => ?_ | fail) | ((with_reducible apply q_Meet); exact zM) | exact zC | refine zT ?_ | fail))
      all_goals
        refine hK (xs.length - (i + 1)) _ (by omega) ⟨i + 1, by omega, rfl, ?_⟩
        simp only [go_sem, simprocAttr, h0, h1, h5, Int.natCast_succ]
        exact sI_congr (by rw [hc]; push_cast; omega)
    · obtain rfl : i = xs.length := by omega
      rw [List.take_length] at h1
      (have hWf := WFx.mk (And.intro @h0 <| And.intro @h1 <| And.intro @h5 <| @hml); repeat' (first | refine zS ?_ | exact zE | with_reducible apply And.intro | ((with_reducible intro hb0); revert hb0; with_reducible first | exact zB0 | refine zB fun hb => ?_ | fail) | ((with_reducible apply q_Meet); exact zM) | exact zC | refine zT ?_ | fail))
end Go.Proofs.Ytngobmjdbjlkcaa
