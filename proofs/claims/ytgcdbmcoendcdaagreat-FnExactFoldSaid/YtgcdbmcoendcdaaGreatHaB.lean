import Derived.Test.YtgcdbmcoendcdaaGreatBase
import Derived.Test.YtgcdbmcoendcdaaGreatGwB
import Derived.Test.YtgcdbmcoendcdaaGreatDecB
/- When a list of items is a type: plain. -/
set_option maxRecDepth 100000
set_option maxHeartbeats 1000000
namespace Go.Proofs.YtgcdbmcoendcdaaGreat
set_option linter.unusedVariables false
set_option linter.unusedSimpArgs false
structure TyI where
  v : Int
  name : ByteArray
  ar : Int
def TyI.ok (x : TyI) : Prop := I64 x.v ∧ x.name.size ≤ maxLen ∧ I64 x.ar
def itemM (x : TyI) : Bool :=
  if x.name.toList.isEmpty then decide (0 ≤ x.v) && decide (x.v ≤ 9999) && (x.ar == 0)
  else (x.v == 0) && (if x.name.toList == [45, 62] || x.name.toList == [42] then x.ar == 2 else if x.name.toList == [114, 101, 102] then x.ar == 1 else nameM x.name && decide (0 ≤ x.ar) && decide (x.ar ≤ 2))
theorem itemM_ar {x : TyI} (h : itemM x = true) : 0 ≤ x.ar ∧ x.ar ≤ 2 := by
  unfold itemM at h
  split at h
  · simp only [Bool.and_eq_true, decide_eq_true_eq, beq_iff_eq] at h; omega
  · split at h
    · simp only [Bool.and_eq_true, decide_eq_true_eq, beq_iff_eq] at h; omega
    · split at h <;> simp only [Bool.and_eq_true, decide_eq_true_eq, beq_iff_eq] at h <;> omega
def scan : List Nat → Nat → Option Nat
  | _, 0 => some 0
  | [], _ + 1 => none
  | a :: l, m + 1 => (scan l (m + a)).map (· + 1)
theorem scan_zero (l : List Nat) : scan l 0 = some 0 := by cases l <;> rfl
theorem scan_le : ∀ (l : List Nat) (m k : Nat), scan l m = some k → k ≤ l.length
  | l, 0, k, h => by rw [scan_zero] at h; cases h; exact Nat.zero_le _
  | [], m + 1, k, h => by cases h
  | a :: l, m + 1, k, h => by
    rw [scan] at h
    cases e : scan l (m + a) with
    | none => rw [e] at h; cases h
    | some j =>
      rw [e] at h
      have := scan_le l _ _ e
      have h2 : j + 1 = k := by simpa using h
      simp only [List.length_cons]
      omega
theorem scan_add : ∀ (l : List Nat) (m n : Nat), scan l (m + n) = (scan l m).bind fun k => (scan (l.drop k) n).map (· + k)
  | l, 0, n => by rw [scan_zero, Nat.zero_add]; simp
  | [], m + 1, n => by rw [show m + 1 + n = m + n + 1 by omega]; rfl
  | a :: l, m + 1, n => by
    rw [show m + 1 + n = m + n + 1 by omega, scan, scan, show m + n + a = (m + a) + n by omega, scan_add l (m + a) n]
    cases scan l (m + a) with
    | none => rfl
    | some k =>
      simp only [Option.bind_some, Option.map_some, List.drop_succ_cons]
      cases scan (l.drop k) n with
      | none => rfl
      | some j => simp; omega
def arsM (xs : List TyI) : List Nat := xs.map fun x => x.ar.toNat
def endM (xs : List TyI) (k : Nat) : Int := match scan ((arsM xs).drop k) 1 with
  | some j => ((k + j : Nat) : Int)
  | none => -1
def endsM (xs : List TyI) (k i : Nat) : Int := match scan ((arsM xs).drop k) i with
  | some j => ((k + j : Nat) : Int)
  | none => -1
theorem endsM_zero (xs : List TyI) (k : Nat) : endsM xs k 0 = k := by unfold endsM; rw [scan_zero]; rfl
theorem endM_ends (xs : List TyI) (k : Nat) : endM xs k = endsM xs k 1 := rfl
theorem arsM_drop (xs : List TyI) (k : Nat) (h : k < xs.length) : (arsM xs).drop k = xs[k].ar.toNat :: (arsM xs).drop (k + 1) := by
  have hl : k < (arsM xs).length := by unfold arsM; simpa using h
  rw [List.drop_eq_getElem_cons hl]
  congr 1
  exact List.getElem_map _
theorem endM_step (xs : List TyI) (k : Nat) (h : k < xs.length) : endM xs k = endsM xs (k + 1) xs[k].ar.toNat := by
  unfold endM endsM
  rw [arsM_drop xs k h, scan, Nat.zero_add]
  cases scan ((arsM xs).drop (k + 1)) xs[k].ar.toNat with
  | none => rfl
  | some j => simp only [Option.map_some]; congr 1; omega
theorem endM_end (xs : List TyI) (k : Nat) (h : xs.length ≤ k) : endM xs k = -1 := by
  unfold endM
  rw [List.drop_eq_nil_of_le (by unfold arsM; simpa using h)]
  rfl
theorem endsM_neg (xs : List TyI) (k i : Nat) (h : endsM xs k i < 0) : ∀ j, i ≤ j → endsM xs k j = -1 := by
  intro j hj
  unfold endsM at h ⊢
  cases e : scan ((arsM xs).drop k) i with
  | some q => rw [e] at h; simp only at h; omega
  | none =>
    rw [show j = i + (j - i) by omega, scan_add, e]
    rfl
theorem endsM_succ (xs : List TyI) (k i : Nat) (n : Nat) (h : endsM xs k i = n) : endsM xs k (i + 1) = endM xs n := by
  unfold endsM at h
  cases e : scan ((arsM xs).drop k) i with
  | none => rw [e] at h; simp only at h; omega
  | some q =>
    rw [e] at h
    simp only at h
    obtain rfl : n = k + q := by omega
    unfold endsM endM
    rw [scan_add, e, Option.bind_some, List.drop_drop]
    cases scan ((arsM xs).drop (k + q)) 1 with
    | none => rfl
    | some j => simp only [Option.map_some]; congr 1; omega
theorem endsM_bd (xs : List TyI) (k i : Nat) (hk : k ≤ xs.length) : endsM xs k i = -1 ∨ ∃ n : Nat, endsM xs k i = n ∧ k ≤ n ∧ n ≤ xs.length := by
  unfold endsM
  cases e : scan ((arsM xs).drop k) i with
  | none => exact .inl rfl
  | some q =>
    refine .inr ⟨k + q, rfl, by omega, ?_⟩
    have := scan_le _ _ _ e
    have hl : ((arsM xs).drop k).length = xs.length - k := by unfold arsM; simp
    omega
def tyItemsM (xs : List TyI) : Bool := xs.all itemM && decide (endM xs 0 = xs.length)
def tyOkM (xs : List TyI) : Bool := decide (xs.length ≤ 200) && tyItemsM xs
def restM (xs : List TyI) (k m : Nat) : Bool := (xs.drop k).all itemM && decide (endsM xs k m = xs.length)
theorem restM_start (xs : List TyI) : restM xs 0 1 = tyItemsM xs := by unfold restM tyItemsM; rw [endM_ends]; rfl
theorem restM_zero (xs : List TyI) (k : Nat) (h : k < xs.length) : restM xs k 0 = false := by
  unfold restM
  rw [endsM_zero, decide_eq_false (by omega), Bool.and_false]
theorem restM_bad (xs : List TyI) (k m : Nat) (h : k < xs.length) (hb : itemM xs[k] = false) : restM xs k m = false := by
  unfold restM
  rw [List.drop_eq_getElem_cons h, List.all_cons, hb]; rfl
theorem restM_step (xs : List TyI) (k m : Nat) (h : k < xs.length) (hb : itemM xs[k] = true) : restM xs k (m + 1) = restM xs (k + 1) (m + xs[k].ar.toNat) := by
  unfold restM
  rw [List.drop_eq_getElem_cons h, List.all_cons, hb, Bool.true_and]
  congr 1
  have : endsM xs k (m + 1) = endsM xs (k + 1) (m + xs[k].ar.toNat) := by
    unfold endsM
    rw [arsM_drop xs k h, scan]
    cases scan ((arsM xs).drop (k + 1)) (m + xs[k].ar.toNat) with
    | none => rfl
    | some j => simp only [Option.map_some]; congr 1; omega
  rw [this]
theorem restM_end (xs : List TyI) (k m : Nat) (h : k = xs.length) : restM xs k m = decide (m = 0) := by
  subst h
  unfold restM endsM
  rw [List.drop_eq_nil_of_le (Nat.le_refl _), List.drop_eq_nil_of_le (by unfold arsM; simp)]
  cases m with
  | zero => simp [scan]
  | succ m => simp [scan]
end Go.Proofs.YtgcdbmcoendcdaaGreat

namespace Go.Proofs.YtgcdbmcoendcdaaGreat
set_option linter.unusedVariables false
set_option linter.unusedSimpArgs false
open Go.RowKit
def markT (k : Int) : List UInt8 := 109 :: decL k.toNat
theorem markT_len {k : Int} (h : k ≤ 4611686018427387904) : (markT k).length ≤ 20 := by
  have := decL_len 18 k.toNat (by omega)
  unfold markT; simp; omega
theorem markT_pos {K : Nat} (l : List UInt8) (h : decL K = l) : (⟨#[109]⟩ : ByteArray) ++ bs l = bs (markT (K : Int)) := by
  unfold markT; rw [Int.toNat_natCast, h]; exact str_app [109] l
def mInv (K n : Nat) (l : List UInt8) : Prop := (0 < n → decL K = decL n ++ l) ∧ (n = 0 → decL K = l) ∧ l.length ≤ 20
theorem mInv_step {K n : Nat} {l : List UInt8} (h : mInv K n l) (h0 : 0 < n) (hK : K ≤ 4611686018427387904) : mInv K (n / 10) (dgt (n % 10) :: l) := by
  have e := h.1 h0
  have key : decL K = (if 0 < n / 10 then decL (n / 10) ++ (dgt (n % 10) :: l) else dgt (n % 10) :: l) := by
    by_cases q : 0 < n / 10
    · rw [if_pos q, e, decL_big (by omega)]; simp
    · rw [if_neg q, e, decL_small (by omega), Nat.mod_eq_of_lt (by omega)]; simp
  refine ⟨fun q => by rw [key, if_pos q], fun q => by rw [key, if_neg (by omega)], ?_⟩
  have hl := decL_len 18 K (by omega)
  rw [key] at hl
  split at hl
  · rw [List.length_append] at hl; omega
  · omega
theorem laws_markText (w : World) (k : Int) (hk : k ≤ 4611686018427387904) : Calls Tryz.prog 86 #[.int .i64 k] w fun e w' => e = .returned (.string (bs (markT k))) ∧ Below w.heap.size w w' := by
  by_cases h0 : k ≤ 0
  · have e : bs (markT k) = (⟨#[109, 48]⟩ : ByteArray) := by
      have : k.toNat = 0 := by omega
      unfold markT; rw [this, decL_small (by omega)]; rfl
    rw [e]
    go_enter Tryz.func86, Tryz.ntmps86
    go_wp2_with fail
    go_ret
    exact ⟨rfl, (by repeat (first | with_reducible exact Below.refl _ _ | with_reducible assumption | with_reducible refine Below.setCell ?_ ?_ _ | with_reducible refine Below.alloc ?_ ?_ _ | with_reducible refine Below.drew ?_ | (with_reducible apply below_chain; with_reducible assumption) | exact Nat.le_refl _ | omega | (simp <;> omega)))⟩
  · obtain ⟨K, rfl⟩ : ∃ K : Nat, k = K := ⟨k.toNat, by omega⟩
    go_enter Tryz.func86, Tryz.ntmps86
    go_wp2_with fail
    go_loopw [0, 3] (fun kv ov wr => ∃ (n : Nat) (l : List UInt8), n ≤ K ∧ kv = .int .i64 n ∧ ov = .string (bs l) ∧ mInv K n l ∧ Below w.heap.size w wr) (fun kv _ _ => (intOf kv).toNat)
    case atStart => exact ⟨K, [], by omega, rfl, rfl, ⟨fun _ => by simp, fun q => by omega, by simp⟩, Below.refl _ _⟩
    case round =>
      obtain ⟨n, l, hn, rfl, rfl, hinv, hbel⟩ := hrel
      have HI := Lib.hid hinv
      have hl := hinv.2.2
      clear hinv
      by_cases hp : 0 < n
      · have hp' : ((n : Nat) : Int) > 0 := by omega
        have hd : n % 10 < 10 := Nat.mod_lt _ (by omega)
        have e1 : Int.tmod (n : Int) 10 = ((n % 10 : Nat) : Int) := by rw [Int.tmod_eq_emod_of_nonneg (by omega)]; rfl
        have e2 : Int.tdiv (n : Int) 10 = ((n / 10 : Nat) : Int) := by rw [Int.tdiv_eq_ediv_of_nonneg (by omega)]; rfl
        have hcv := run_str_one (48 + ((n % 10 : Nat) : Int)) _ (dgtV hd)
        have e3 : IntKind.i64.wrap (48 + ((n % 10 : Nat) : Int)) = 48 + ((n % 10 : Nat) : Int) := IntWalk.i64_in _ (by omega)
        have e4 : IntKind.u8.wrap (48 + ((n % 10 : Nat) : Int)) = 48 + ((n % 10 : Nat) : Int) := IntWalk.u8_in _ (by omega)
        have z1 : (bs l).size ≤ 20 := by rw [bs_size]; exact hl
        have z2 : (bs [dgt (n % 10)]).size ≤ 1 := by rw [bs_size]; simp
        have HS := Lib.hid (mInv_step HI.out hp (by omega))
        go_wp2_with fail
        go_roundw
        case rel => exact ⟨n / 10, dgt (n % 10) :: l, by omega, congrArg (Value.int .i64) (by omega), by rw [str_app]; rfl, HS.out, (by first | exact hbel.alloc hbel.size _ | exact hbel)⟩
        case measure => simp [intOf]; omega
      · have hn0 : n = 0 := by omega
        have hp' : ¬ ((n : Nat) : Int) > 0 := by omega
        have z1 : (bs l).size ≤ 20 := by rw [bs_size]; exact hl
        have HE := Lib.hid (markT_pos l (HI.out.2.1 hn0))
        clear hn0
        go_wp2_with fail
        go_ret
        exact ⟨by rw [← HE.out]; rfl, (by repeat (first | with_reducible exact Below.refl _ _ | with_reducible assumption | with_reducible refine Below.setCell ?_ ?_ _ | with_reducible refine Below.alloc ?_ ?_ _ | with_reducible refine Below.drew ?_ | (with_reducible apply below_chain; with_reducible assumption) | exact Nat.le_refl _ | omega | (simp <;> omega)))⟩
def mkB (k : Int) : ByteArray := bs (markT k)
theorem mkB_len {k : Int} (h : k ≤ 4611686018427387904) : (mkB k).size ≤ 20 := by unfold mkB; rw [bs_size]; exact markT_len h
theorem c_markText (k : Int) (hk : k ≤ 4611686018427387904) : FCon Tryz.prog 86 [.s (.int .i64 k)] (fun r _ => r = .s (.string (mkB k))) := by
  refine FCon.ofBelow (Rv := fun v => v = .string (mkB k)) Tryz.func86 rfl rfl ?_ rfl ?_
  · rintro _ rfl; exact ⟨rfl, rfl⟩
  · intro w S up vs hl hv
    obtain ⟨v, rfl, h⟩ := one_arg (P := fun _ d u => RB S up w d u) hl hv
    have := Rep.s_inv (show Rep S up w none (.s (.int .i64 k)) v from h)
    subst this
    exact (laws_markText w k hk).mono fun e w' h => ⟨_, h.1, rfl, h.2⟩
end Go.Proofs.YtgcdbmcoendcdaaGreat

namespace Go.Proofs.YtgcdbmcoendcdaaGreat
set_option linter.unusedVariables false
set_option linter.unusedSimpArgs false
open Go.RowKit
def iE (n : Int) : List D := [.s (.int .i64 n)]
theorem iE_eq (n : Int) : iE n = [.s (.int .i64 n)] := rfl
abbrev intsD (l : List Int) : D := .sl 1 (l.map iE)
def partR {α : Type} (f : α → List D) (z : List D) (xs : List α) (i : Nat) : List (List D) := (xs.take i).map f ++ List.replicate (xs.length - i) z
section
variable {α : Type} {f : α → List D} {z : List D} {xs : List α} {i : Nat}
theorem partR_zero : partR f z xs 0 = List.replicate xs.length z := by simp [partR]
theorem partR_all : partR f z xs xs.length = xs.map f := by simp [partR]
theorem partR_len (h : i ≤ xs.length) : (partR f z xs i).length = xs.length := by simp [partR]; omega
theorem partR_set (h : i < xs.length) : (partR f z xs i).set i (f xs[i]) = partR f z xs (i + 1) := by
  unfold partR
  have e : (xs.length - i) = (xs.length - (i + 1)) + 1 := by omega
  rw [List.set_append_right _ _ (by simp; omega), List.length_map, List.length_take, Nat.min_eq_left (by omega), Nat.sub_self, e, List.replicate_succ, List.set_cons_zero, List.take_succ_eq_append_getElem h, List.map_append]
  simp
theorem partR_get (h : i < xs.length) : (partR f z xs i).getD i [] = z := by
  unfold partR
  rw [List.getD_eq_getElem?_getD, List.getElem?_append_right (by simp; omega)]
  have e : (xs.length - i) = (xs.length - (i + 1)) + 1 := by omega
  simp [Nat.min_eq_left (Nat.le_of_lt h), e, List.replicate_succ]
theorem take_all (f : α → List D) (xs : List α) : (xs.map f).take xs.length = xs.map f := List.take_of_length_le (by simp)
theorem frz_rows {g : α → List D} (h : ∀ x, frzL (f x) = g x) (xs : List α) : frzLL (xs.map f) = xs.map g := by
  rw [frzLL_map, List.map_map]; exact List.map_congr_left fun x _ => h x
end
theorem takeL {α : Type} {l : List α} {i : Nat} (h : l.length = i) : l.take i = l := List.take_of_length_le (by omega)
theorem frzLL_app (a b : List (List D)) : frzLL (a ++ b) = frzLL a ++ frzLL b := by rw [frzLL_map, frzLL_map, frzLL_map, List.map_append]
theorem frzLL_nil : frzLL [] = [] := rfl
theorem frzLL_cons (r : List D) (l : List (List D)) : frzLL (r :: l) = frzL r :: frzLL l := rfl
def RsZ (left : Int) (P : Prop) (r : D) : Prop := ∃ z : Int, r = .s (.int .i64 z) ∧ -1 ≤ z ∧ z ≤ left ∧ (0 ≤ z → P)
def smS {α : Type} (s : α → Prop) (xs : List α) : Prop := xs.length ≤ 1048576 ∧ ∀ x ∈ xs, s x
theorem sI_congr {a b : Int} (h : a = b) : D.s (.int .i64 a) = .s (.int .i64 b) := by rw [h]
/-! ### marks -/
def cnts {α : Type} (c : α → Nat) : List α → Nat
  | [] => 0
  | x :: l => c x + cnts c l
def marks {α : Type} (c : α → Nat) (m : Int → α → α) : Int → List α → List α
  | _, [] => []
  | k, x :: l => m k x :: marks c m (k + c x) l
section
variable {α : Type} {c : α → Nat} {m : Int → α → α}
theorem marks_len : ∀ (k : Int) (xs : List α), (marks c m k xs).length = xs.length
  | _, [] => rfl
  | k, x :: l => by simp [marks, marks_len (k + c x) l]
theorem cnts_const {n : Nat} (hc : ∀ x, c x = n) : ∀ (xs : List α), cnts c xs = n * xs.length
  | [] => rfl
  | x :: l => by rw [cnts, hc, cnts_const hc l, List.length_cons, Nat.mul_add]; omega
theorem cnts_app : ∀ (a b : List α), cnts c (a ++ b) = cnts c a + cnts c b
  | [], b => by simp [cnts]
  | x :: l, b => by simp [cnts, cnts_app l b]; omega
theorem cnts_step {xs : List α} {i : Nat} (h : i < xs.length) : cnts c (xs.take (i + 1)) = cnts c (xs.take i) + c xs[i] := by
  rw [List.take_succ_eq_append_getElem h, cnts_app]; simp [cnts]
theorem cnts_le (xs : List α) (i : Nat) : cnts c (xs.take i) ≤ cnts c xs := by
  have := cnts_app (c := c) (xs.take i) (xs.drop i)
  rw [List.take_append_drop] at this; omega
theorem marks_app : ∀ (k : Int) (a b : List α), marks c m k (a ++ b) = marks c m k a ++ marks c m (k + cnts c a) b
  | k, [], b => by simp [marks, cnts]
  | k, x :: l, b => by
    have e : k + (c x : Int) + (cnts c l : Int) = k + ((c x + cnts c l : Nat) : Int) := by push_cast; omega
    simp [marks, cnts, marks_app (k + c x) l b, Int.add_assoc]
theorem take_marks (k : Int) (xs : List α) (f : α → List D) : ((marks c m k xs).map f).take xs.length = (marks c m k xs).map f := List.take_of_length_le (by simp [marks_len])
def stM (c : α → Nat) (m : Int → α → α) (k : Int) (xs : List α) (i : Nat) : List α := marks c m k (xs.take i) ++ xs.drop i
theorem stM_zero (k : Int) (xs : List α) : stM c m k xs 0 = xs := by simp [stM, marks]
theorem stM_all (k : Int) (xs : List α) : stM c m k xs xs.length = marks c m k xs := by simp [stM]
theorem stM_len (k : Int) {xs : List α} {i : Nat} (h : i ≤ xs.length) : (stM c m k xs i).length = xs.length := by simp [stM, marks_len]; omega
theorem stM_get (k : Int) {xs : List α} {i : Nat} (h : i < xs.length) (f : α → List D) : ((stM c m k xs i).map f).getD i [] = f xs[i] := by
  rw [List.getD_eq_getElem?_getD, List.getElem?_map, stM, List.getElem?_append_right (by simp [marks_len]; omega)]
  have e : i - (marks c m k (xs.take i)).length = 0 := by simp [marks_len]; omega
  rw [e, List.drop_eq_getElem_cons h]; rfl
theorem stM_set (k : Int) {xs : List α} {i : Nat} (h : i < xs.length) (f : α → List D) : ((stM c m k xs i).map f).set i (f (m (k + cnts c (xs.take i)) xs[i])) = (stM c m k xs (i + 1)).map f := by
  rw [← List.map_set]
  congr 1
  unfold stM
  have hl : (marks c m k (xs.take i)).length = i := by simp [marks_len]; omega
  rw [List.set_append_right _ _ (by omega), hl, Nat.sub_self, List.drop_eq_getElem_cons h, List.set_cons_zero, List.take_succ_eq_append_getElem h, marks_app, List.append_assoc]
  rfl
theorem marks_get (k : Int) {xs : List α} {i : Nat} (h : i < xs.length) (f : α → List D) : ((marks c m k xs).map f).getD i [] = f (m (k + cnts c (xs.take i)) xs[i]) := by
  have e := stM_set (c := c) (m := m) k h f
  have hs : marks c m k xs = stM c m k xs (i + 1) ++ [] ∨ True := .inr trivial
  have : marks c m k xs = marks c m k (xs.take i) ++ marks c m (k + cnts c (xs.take i)) (xs.drop i) := by rw [← marks_app, List.take_append_drop]
  rw [this, List.getD_eq_getElem?_getD, List.getElem?_map, List.getElem?_append_right (by simp [marks_len]; omega)]
  have e : i - (marks c m k (xs.take i)).length = 0 := by simp [marks_len]; omega
  rw [e, List.drop_eq_getElem_cons h]; rfl
end
attribute [go_sem] take_all take_marks takeL frzLL_app frzLL_nil frzLL_cons Nat.le_refl
end Go.Proofs.YtgcdbmcoendcdaaGreat

namespace Go.Proofs.YtgcdbmcoendcdaaGreat
set_option linter.unusedVariables false
set_option linter.unusedSimpArgs false
attribute [local go_sem] List.length_set List.set_set
open Go.RowKit Go.ChangeShapes Go.WideShapes
theorem iE_frz (x : Int) : frzL (iE x) = iE x := rfl
theorem iE_pure (x : Int) : ∀ d ∈ iE x, Pure d := by
  simp only [iE_eq, List.forall_mem_cons, List.not_mem_nil, false_imp_iff, implies_true, and_true]
  exact .s _
theorem iE_pureS (e k : Nat) (xs : List Int) : Pure (.osl e k (xs.map iE)) = True := eq_true (pure_rows iE_pure e k xs)
attribute [go_sem] iE_pureS
theorem iE_frzS (xs : List Int) : frzLL (xs.map iE) = xs.map iE := frz_rows iE_frz xs
attribute [go_sem] iE_frzS
theorem c_toIntS (xs : List Int) (hs : smS (fun _ : Int => True) xs) : FCon Tryz.prog 158 [.sl 1 (xs.map iE)] (fun r _ => r = .osl 3 1 (xs.map iE)) := by
  have hl := hs.1
  refine FCon.intro PM _ Tryz.func158 (by kernel_rfl) rfl _ Tryz.ntmps158 rfl [] (by decide +kernel) (by simp) (by simp) rfl (by first | rfl | simp only [go_sem]) ?_
  (have hWf := f0; repeat' (first | refine zS ?_ | exact zE | with_reducible apply And.intro | with_reducible exact zB0 | with_reducible refine zB fun hb => ?_ | exact zC | refine zT ?_ | fail))
  refine AC_loop (fun n σ => ∃ k : Nat, k ≤ xs.length ∧ n = xs.length - k ∧ σ.t 0 = .sl 1 (xs.map iE) ∧ σ.t 3 = .bs 7 1 xs.length ∧ σ.t 4 = .s (.int .i64 k) ∧ σ.b 7 = some (.arr 3 1 (partR iE [.s (.int .i64 0)] xs k))) xs.length ⟨0, by omega, by omega, ?_⟩ ?_
  · simp only [go_sem, simprocAttr, partR_zero, Int.natCast_zero]
  · rintro n σ ⟨k, hk, rfl, h0, h3, h4, h7⟩ K' hK
    by_cases hlt : k < xs.length
    · have hx := getD_map iE xs k hlt
      have he := iE_eq xs[k]
      have hpl := partR_len (f := iE) (z := [.s (.int .i64 0)]) (Nat.le_of_lt hlt)
      have hg := partR_get (f := iE) (z := [.s (.int .i64 0)]) hlt
      have hst := partR_set (f := iE) (z := [.s (.int .i64 0)]) hlt
      rw [iE_eq] at hst
      (have hWf := WFx.mk (ai @h0 <| ai @h3 <| ai @h4 <| ai @h7 <| ai @hx <| ai @he <| ai @iE_eq <| ai @hpl <| ai @hg <| @hst); repeat' (first | refine zS ?_ | exact zE | with_reducible apply And.intro | with_reducible exact zB0 | with_reducible refine zB fun hb => ?_ | exact zC | refine zT ?_ | fail))
      refine hK (xs.length - (k + 1)) _ (by omega) ⟨k + 1, by omega, rfl, ?_⟩
      simp only [go_sem, simprocAttr, h0, h3, h4, h7, Int.natCast_succ]
    · obtain rfl : k = xs.length := by omega
      rw [partR_all] at h7
      (have hWf := WFx.mk (ai @h0 <| ai @h3 <| ai @h4 <| @h7); repeat' (first | refine zS ?_ | exact zE | with_reducible apply And.intro | with_reducible exact zB0 | with_reducible refine zB fun hb => ?_ | exact zC | refine zT ?_ | fail))
theorem c_eqIntS (xs : List Int) : FCon Tryz.prog 167 [.sl 1 (xs.map iE), .sl 1 (xs.map iE)] (fun r _ => r = .s (.bool true)) := by
  refine FCon.intro PM _ Tryz.func167 (by kernel_rfl) rfl _ Tryz.ntmps167 rfl [(6, 8, [], [], (lin [] [0, 1, 2, 3, 4, 5, 6, 7]))] (by decide +kernel) (by simp) (by simp) rfl (by first | rfl | simp only [go_sem]) ?_
  refine AC_len 0 rfl trivial fun hlen => ?_
  simp only [List.length_map] at hlen
  (have hWf := f0; repeat' (first | refine zS ?_ | exact zE | with_reducible apply And.intro | with_reducible exact zB0 | with_reducible refine zB fun hb => ?_ | exact zC | refine zT ?_ | fail))
  refine AC_loop (fun n σ => ∃ k : Nat, k ≤ xs.length ∧ n = xs.length - k ∧ σ.t 0 = .sl 1 (xs.map iE) ∧ σ.t 1 = .sl 1 (xs.map iE) ∧ σ.t 5 = .s (.int .i64 k)) xs.length ⟨0, by omega, by omega, ?_⟩ ?_
  · simp only [go_sem, simprocAttr, Int.natCast_zero]
  · rintro n σ ⟨k, hk, rfl, h0, h1, h5⟩ K' hK
    by_cases hlt : k < xs.length
    · have hx := getD_map iE xs k hlt
      have he := iE_eq xs[k]
      (have hWf := WFx.mk (ai @h0 <| ai @h1 <| ai @h5 <| ai @hx <| @he); repeat' (first | refine zS ?_ | exact zE | with_reducible apply And.intro | with_reducible exact zB0 | with_reducible refine zB fun hb => ?_ | exact zC | refine zT ?_ | fail))
      all_goals
        refine hK (xs.length - (k + 1)) _ (by omega) ⟨k + 1, by omega, rfl, ?_⟩
        simp only [go_sem, simprocAttr, h0, h1, h5, Int.natCast_succ]
    · (have hWf := WFx.mk (ai @h0 <| ai @h1 <| @h5); repeat' (first | refine zS ?_ | exact zE | with_reducible apply And.intro | with_reducible exact zB0 | with_reducible refine zB fun hb => ?_ | exact zC | refine zT ?_ | fail))
theorem c_markIntS (xs : List Int) (hl : xs.length ≤ 1048576) (k : Int) (h0 : 0 ≤ k) (hk : k + cnts (fun _ : Int => 1) xs ≤ 4611686018427387904) : FCon Tryz.prog 88 [.osl 3 1 (xs.map iE), .s (.int .i64 k)] (fun r o => r = .s (.int .i64 (k + cnts (fun _ : Int => 1) xs)) ∧ o = [.osl 3 1 ((marks (fun _ : Int => 1) (fun k _ => k) k xs).map iE), .un]) := by
  refine FCon.intro PM _ Tryz.func88 (by kernel_rfl) rfl _ Tryz.ntmps88 rfl [] (by decide +kernel) (by simp) (by simp) rfl (by first | rfl | simp only [go_sem]) ?_
  (have hWf := f0; repeat' (first | refine zS ?_ | exact zE | with_reducible apply And.intro | with_reducible exact zB0 | with_reducible refine zB fun hb => ?_ | exact zC | refine zT ?_ | fail))
  refine AC_loop (fun n σ => ∃ i : Nat, i ≤ xs.length ∧ n = xs.length - i ∧ σ.t 0 = .bs 900000 1 xs.length ∧ σ.t 1 = .s (.int .i64 (k + cnts (fun _ : Int => 1) (xs.take i))) ∧ σ.t 5 = .s (.int .i64 i) ∧ σ.b 900000 = some (.arr 3 1 ((stM (fun _ : Int => 1) (fun k _ => k) k xs i).map iE))) xs.length ⟨0, by omega, by omega, ?_⟩ ?_
  · simp only [go_sem, simprocAttr, Int.natCast_zero, stM_zero, List.take_zero, cnts, Int.add_zero]
  · rintro n σ ⟨i, hi, rfl, h0, h1, h5, h9⟩ K' hK
    by_cases hlt : i < xs.length
    · have hc := cnts_step (c := (fun _ : Int => 1)) hlt
      have hc' := cnts_le (c := (fun _ : Int => 1)) xs (i + 1)
      have hx := stM_get (c := (fun _ : Int => 1)) (m := (fun k _ => k)) k hlt iE
      have hpl := stM_len (c := (fun _ : Int => 1)) (m := (fun k _ => k)) k (Nat.le_of_lt hlt)
      have hst := stM_set (c := (fun _ : Int => 1)) (m := (fun k _ => k)) k hlt iE
      have hgs : ∀ r, (((stM (fun _ : Int => 1) (fun k _ => k) k xs i).map iE).set i r).getD i [] = r := fun r => by rw [List.getD_eq_getElem?_getD, List.getElem?_set_self (by rw [List.length_map, hpl]; exact hlt)]; rfl
      simp only [iE_eq] at hx hst
      (have hWf := WFx.mk (ai @h0 <| ai @h1 <| ai @h5 <| ai @h9 <| ai @hx <| ai @hpl <| ai @hgs <| ai @hst <| @iE_eq); repeat' (first | refine zS ?_ | exact zE | with_reducible apply And.intro | with_reducible exact zB0 | with_reducible refine zB fun hb => ?_ | exact zC | refine zT ?_ | fail))
      refine hK (xs.length - (i + 1)) _ (by omega) ⟨i + 1, by omega, rfl, ?_⟩
      simp only [go_sem, simprocAttr, h0, h1, h5, h9, Int.natCast_succ, hst]
      exact sI_congr (by rw [hc]; push_cast; omega)
    · obtain rfl : i = xs.length := by omega
      rw [stM_all] at h9
      rw [List.take_length] at h1
      (have hWf := WFx.mk (ai @h0 <| ai @h1 <| ai @h5 <| ai @h9 <| @marks_len); repeat' (first | refine zS ?_ | exact zE | with_reducible apply And.intro | with_reducible exact zB0 | with_reducible refine zB fun hb => ?_ | exact zC | refine zT ?_ | fail))
theorem c_heldIntS (xs : List Int) (hl : xs.length ≤ 1048576) (k : Int) (h0 : 0 ≤ k) (hk : k + cnts (fun _ : Int => 1) xs ≤ 4611686018427387904) : FCon Tryz.prog 91 [.sl 1 ((marks (fun _ : Int => 1) (fun k _ => k) k xs).map iE), .s (.int .i64 k)] (fun r _ => r = .s (.int .i64 (k + cnts (fun _ : Int => 1) xs))) := by
  refine FCon.intro PM _ Tryz.func91 (by kernel_rfl) rfl _ Tryz.ntmps91 rfl [] (by decide +kernel) (by simp) (by simp) rfl (by first | rfl | simp only [go_sem]) ?_
  have hml := marks_len (c := (fun _ : Int => 1)) (m := (fun k _ => k)) k xs
  (have hWf := f0; repeat' (first | refine zS ?_ | exact zE | with_reducible apply And.intro | with_reducible exact zB0 | with_reducible refine zB fun hb => ?_ | exact zC | refine zT ?_ | fail))
  refine AC_loop (fun n σ => ∃ i : Nat, i ≤ xs.length ∧ n = xs.length - i ∧ σ.t 0 = .sl 1 ((marks (fun _ : Int => 1) (fun k _ => k) k xs).map iE) ∧ σ.t 1 = .s (.int .i64 (k + cnts (fun _ : Int => 1) (xs.take i))) ∧ σ.t 5 = .s (.int .i64 i)) xs.length ⟨0, by omega, by omega, ?_⟩ ?_
  · simp only [go_sem, simprocAttr, Int.natCast_zero, List.take_zero, cnts, Int.add_zero]
  · rintro n σ ⟨i, hi, rfl, h0, h1, h5⟩ K' hK
    by_cases hlt : i < xs.length
    · have hc := cnts_step (c := (fun _ : Int => 1)) hlt
      have hc' := cnts_le (c := (fun _ : Int => 1)) xs (i + 1)
      have hx := marks_get (c := (fun _ : Int => 1)) (m := (fun k _ => k)) k hlt iE
      simp only [iE_eq] at hx
      (have hWf := WFx.mk (ai @h0 <| ai @h1 <| ai @h5 <| ai @hx <| @hml); repeat' (first | refine zS ?_ | exact zE | with_reducible apply And.intro | with_reducible exact zB0 | with_reducible refine zB fun hb => ?_ | exact zC | refine zT ?_ | fail))
      all_goals
        refine hK (xs.length - (i + 1)) _ (by omega) ⟨i + 1, by omega, rfl, ?_⟩
        simp only [go_sem, simprocAttr, h0, h1, h5, Int.natCast_succ]
        exact sI_congr (by rw [hc]; push_cast; omega)
    · obtain rfl : i = xs.length := by omega
      rw [List.take_length] at h1
      (have hWf := WFx.mk (ai @h0 <| ai @h1 <| ai @h5 <| @hml); repeat' (first | refine zS ?_ | exact zE | with_reducible apply And.intro | with_reducible exact zB0 | with_reducible refine zB fun hb => ?_ | exact zC | refine zT ?_ | fail))
end Go.Proofs.YtgcdbmcoendcdaaGreat

namespace Go.Proofs.YtgcdbmcoendcdaaGreat
set_option linter.unusedVariables false
set_option linter.unusedSimpArgs false
attribute [local go_sem] List.length_set List.set_set
open Go.RowKit Go.ChangeShapes Go.WideShapes
def TyI.enc (x : TyI) : List D := [.s (.int .i64 x.v), .s (.string x.name), .s (.int .i64 x.ar)]
theorem TyI.enc_eq (x : TyI) : x.enc = [.s (.int .i64 x.v), .s (.string x.name), .s (.int .i64 x.ar)] := rfl
abbrev TyI.own (x : TyI) : List D := x.enc
theorem TyI.own_eq (x : TyI) : x.own = [.s (.int .i64 x.v), .s (.string x.name), .s (.int .i64 x.ar)] := rfl
theorem TyI.frz_eq (x : TyI) : frzL x.own = x.enc := by
  simp only [TyI.own_eq, TyI.enc_eq, frzL, frz]
def TyI.sm (x : TyI) : Prop := x.name.size ≤ 1048576
def TyI.cnt (x : TyI) : Nat := 3
def TyI.mark (k : Int) (x : TyI) : TyI := ⟨k, mkB (k + 1), ((k + 1) + 1)⟩
theorem TyI.cnt_eq (x : TyI) : x.cnt = 3 := rfl
theorem TyI.mark_eq (k : Int) (x : TyI) : TyI.mark k x = ⟨k, mkB (k + 1), ((k + 1) + 1)⟩ := rfl
theorem TyI.pure (x : TyI) : ∀ d ∈ x.own, Pure d := by
  simp only [TyI.own_eq, List.forall_mem_cons, List.not_mem_nil, false_imp_iff, implies_true, and_true]
  exact ⟨.s _, .s _, .s _⟩
theorem TyI.pureS (e k : Nat) (xs : List TyI) : Pure (.osl e k (xs.map TyI.own)) = True := eq_true (pure_rows TyI.pure e k xs)
attribute [go_sem] TyI.pureS
theorem TyI.frzS (xs : List TyI) : frzLL (xs.map TyI.own) = xs.map TyI.enc := frz_rows TyI.frz_eq xs
attribute [go_sem] TyI.frzS
theorem c_toTyItem (x : TyI) (hs : x.sm) : FCon Tryz.prog 274 [.ag x.enc] (fun r _ => r = .ag x.own) := by
  refine FCon.intro PM _ Tryz.func274 (by kernel_rfl) rfl _ Tryz.ntmps274 rfl [] (by decide +kernel) (by simp) (by simp) rfl (by first | rfl | simp only [go_sem]) ?_
  (have hWf := WFx.mk (ai @TyI.enc_eq <| @TyI.own_eq); repeat' (first | refine zS ?_ | exact zE | with_reducible apply And.intro | with_reducible exact zB0 | with_reducible refine zB fun hb => ?_ | exact zC | refine zT ?_ | fail))
theorem c_toTyItemS (xs : List TyI) (hs : smS TyI.sm xs) : FCon Tryz.prog 268 [.sl 3 (xs.map TyI.enc)] (fun r _ => r = .osl 159 3 (xs.map TyI.own)) := by
  have hl := hs.1
  refine FCon.intro PM _ Tryz.func268 (by kernel_rfl) rfl _ Tryz.ntmps268 rfl [] (by decide +kernel) (by simp) (by simp) rfl (by first | rfl | simp only [go_sem]) ?_
  (have hWf := f0; repeat' (first | refine zS ?_ | exact zE | with_reducible apply And.intro | with_reducible exact zB0 | with_reducible refine zB fun hb => ?_ | exact zC | refine zT ?_ | fail))
  refine AC_loop (fun n σ => ∃ k : Nat, k ≤ xs.length ∧ n = xs.length - k ∧ σ.t 0 = .sl 3 (xs.map TyI.enc) ∧ σ.t 3 = .bs 7 3 xs.length ∧ σ.t 4 = .s (.int .i64 k) ∧ σ.b 7 = some (.arr 159 3 (partR TyI.own [.s (.int .i64 0), .s (.string ⟨#[]⟩), .s (.int .i64 0)] xs k))) xs.length ⟨0, by omega, by omega, ?_⟩ ?_
  · simp only [go_sem, simprocAttr, partR_zero, Int.natCast_zero]
  · rintro n σ ⟨k, hk, rfl, h0, h3, h4, h7⟩ K' hK
    by_cases hlt : k < xs.length
    · have hx := getD_map TyI.enc xs k hlt
      have he := TyI.enc_eq xs[k]
      have hpl := partR_len (f := TyI.own) (z := [.s (.int .i64 0), .s (.string ⟨#[]⟩), .s (.int .i64 0)]) (Nat.le_of_lt hlt)
      have hg := partR_get (f := TyI.own) (z := [.s (.int .i64 0), .s (.string ⟨#[]⟩), .s (.int .i64 0)]) hlt
      have hst := partR_set (f := TyI.own) (z := [.s (.int .i64 0), .s (.string ⟨#[]⟩), .s (.int .i64 0)]) hlt
      rw [TyI.own_eq] at hst
      (have hWf := WFx.mk (ai @h0 <| ai @h3 <| ai @h4 <| ai @h7 <| ai @hx <| ai @he <| ai @TyI.own_eq <| ai @hpl <| ai @hg <| @hst); repeat' (first | refine zS ?_ | exact zE | with_reducible apply And.intro | ((with_reducible apply q_CallG); refine zG (c_toTyItem xs[k] (hs.2 _ (List.getElem_mem hlt))) ?_) | ((with_reducible apply q_CallQ); refine CallQ_mk (c_toTyItem xs[k] (hs.2 _ (List.getElem_mem hlt))) ?_) | with_reducible exact zB0 | with_reducible refine zB fun hb => ?_ | exact zC | refine zT ?_ | fail))
      refine hK (xs.length - (k + 1)) _ (by omega) ⟨k + 1, by omega, rfl, ?_⟩
      simp only [go_sem, simprocAttr, h0, h3, h4, h7, Int.natCast_succ]
    · obtain rfl : k = xs.length := by omega
      rw [partR_all] at h7
      (have hWf := WFx.mk (ai @h0 <| ai @h3 <| ai @h4 <| @h7); repeat' (first | refine zS ?_ | exact zE | with_reducible apply And.intro | with_reducible exact zB0 | with_reducible refine zB fun hb => ?_ | exact zC | refine zT ?_ | fail))
theorem c_eqTyItem (x : TyI) : FCon Tryz.prog 275 [.ag x.enc, .ag x.enc] (fun r _ => r = .s (.bool true)) := by
  refine FCon.intro PM _ Tryz.func275 (by kernel_rfl) rfl _ Tryz.ntmps275 rfl [] (by decide +kernel) (by simp) (by simp) rfl (by first | rfl | simp only [go_sem]) ?_
  (have hWf := WFx.mk @TyI.enc_eq; repeat' (first | refine zS ?_ | exact zE | with_reducible apply And.intro | with_reducible exact zB0 | with_reducible refine zB fun hb => ?_ | exact zC | refine zT ?_ | fail))
theorem c_eqTyItemS (xs : List TyI) : FCon Tryz.prog 270 [.sl 3 (xs.map TyI.enc), .sl 3 (xs.map TyI.enc)] (fun r _ => r = .s (.bool true)) := by
  refine FCon.intro PM _ Tryz.func270 (by kernel_rfl) rfl _ Tryz.ntmps270 rfl [(6, 8, [], [], (lin [] [0, 1, 2, 3, 4, 5, 6, 7]))] (by decide +kernel) (by simp) (by simp) rfl (by first | rfl | simp only [go_sem]) ?_
  refine AC_len 0 rfl trivial fun hlen => ?_
  simp only [List.length_map] at hlen
  (have hWf := f0; repeat' (first | refine zS ?_ | exact zE | with_reducible apply And.intro | with_reducible exact zB0 | with_reducible refine zB fun hb => ?_ | exact zC | refine zT ?_ | fail))
  refine AC_loop (fun n σ => ∃ k : Nat, k ≤ xs.length ∧ n = xs.length - k ∧ σ.t 0 = .sl 3 (xs.map TyI.enc) ∧ σ.t 1 = .sl 3 (xs.map TyI.enc) ∧ σ.t 5 = .s (.int .i64 k)) xs.length ⟨0, by omega, by omega, ?_⟩ ?_
  · simp only [go_sem, simprocAttr, Int.natCast_zero]
  · rintro n σ ⟨k, hk, rfl, h0, h1, h5⟩ K' hK
    by_cases hlt : k < xs.length
    · have hx := getD_map TyI.enc xs k hlt
      have he := TyI.enc_eq xs[k]
      (have hWf := WFx.mk (ai @h0 <| ai @h1 <| ai @h5 <| ai @hx <| @he); repeat' (first | refine zS ?_ | exact zE | with_reducible apply And.intro | refine zK (c_eqTyItem xs[k]) ?_ | with_reducible exact zB0 | with_reducible refine zB fun hb => ?_ | exact zC | refine zT ?_ | fail))
      all_goals
        refine hK (xs.length - (k + 1)) _ (by omega) ⟨k + 1, by omega, rfl, ?_⟩
        simp only [go_sem, simprocAttr, h0, h1, h5, Int.natCast_succ]
    · (have hWf := WFx.mk (ai @h0 <| ai @h1 <| @h5); repeat' (first | refine zS ?_ | exact zE | with_reducible apply And.intro | with_reducible exact zB0 | with_reducible refine zB fun hb => ?_ | exact zC | refine zT ?_ | fail))
theorem c_markTyItemS (xs : List TyI) (hl : xs.length ≤ 1048576) (k : Int) (h0 : 0 ≤ k) (hk : k + cnts TyI.cnt xs ≤ 4611686018427387904) : FCon Tryz.prog 169 [.osl 159 3 (xs.map TyI.own), .s (.int .i64 k)] (fun r o => r = .s (.int .i64 (k + cnts TyI.cnt xs)) ∧ o = [.osl 159 3 ((marks TyI.cnt TyI.mark k xs).map TyI.own), .un]) := by
  refine FCon.intro PM _ Tryz.func169 (by kernel_rfl) rfl _ Tryz.ntmps169 rfl [] (by decide +kernel) (by simp) (by simp) rfl (by first | rfl | simp only [go_sem]) ?_
  (have hWf := f0; repeat' (first | refine zS ?_ | exact zE | with_reducible apply And.intro | with_reducible exact zB0 | with_reducible refine zB fun hb => ?_ | exact zC | refine zT ?_ | fail))
  refine AC_loop (fun n σ => ∃ i : Nat, i ≤ xs.length ∧ n = xs.length - i ∧ σ.t 0 = .bs 900000 3 xs.length ∧ σ.t 1 = .s (.int .i64 (k + cnts TyI.cnt (xs.take i))) ∧ σ.t 5 = .s (.int .i64 i) ∧ σ.b 900000 = some (.arr 159 3 ((stM TyI.cnt TyI.mark k xs i).map TyI.own))) xs.length ⟨0, by omega, by omega, ?_⟩ ?_
  · simp only [go_sem, simprocAttr, Int.natCast_zero, stM_zero, List.take_zero, cnts, Int.add_zero]
  · rintro n σ ⟨i, hi, rfl, h0, h1, h5, h9⟩ K' hK
    by_cases hlt : i < xs.length
    · have hc := cnts_step (c := TyI.cnt) hlt
      have hc' := cnts_le (c := TyI.cnt) xs (i + 1)
      have hx := stM_get (c := TyI.cnt) (m := TyI.mark) k hlt TyI.own
      have hpl := stM_len (c := TyI.cnt) (m := TyI.mark) k (Nat.le_of_lt hlt)
      have hst := stM_set (c := TyI.cnt) (m := TyI.mark) k hlt TyI.own
      have hgs : ∀ r, (((stM TyI.cnt TyI.mark k xs i).map TyI.own).set i r).getD i [] = r := fun r => by rw [List.getD_eq_getElem?_getD, List.getElem?_set_self (by rw [List.length_map, hpl]; exact hlt)]; rfl
      simp only [TyI.own_eq, TyI.mark] at hx hst
      simp only [TyI.cnt] at hc
      (have hWf := WFx.mk (ai @h0 <| ai @h1 <| ai @h5 <| ai @h9 <| ai @hx <| ai @hpl <| ai @hgs <| ai @hst <| @TyI.own_eq); repeat' (first | refine zS ?_ | exact zE | with_reducible apply And.intro | ((with_reducible apply q_CallG); refine zG (c_markText ((k + (cnts TyI.cnt (xs.take i) : Nat)) + 1) (by omega)) ?_) | ((with_reducible apply q_CallQ); refine CallQ_mk (c_markText ((k + (cnts TyI.cnt (xs.take i) : Nat)) + 1) (by omega)) ?_) | with_reducible exact zB0 | with_reducible refine zB fun hb => ?_ | exact zC | refine zT ?_ | fail))
      refine hK (xs.length - (i + 1)) _ (by omega) ⟨i + 1, by omega, rfl, ?_⟩
      simp only [go_sem, simprocAttr, h0, h1, h5, h9, Int.natCast_succ, hst]
      exact sI_congr (by rw [hc]; push_cast; omega)
    · obtain rfl : i = xs.length := by omega
      rw [stM_all] at h9
      rw [List.take_length] at h1
      (have hWf := WFx.mk (ai @h0 <| ai @h1 <| ai @h5 <| ai @h9 <| @marks_len); repeat' (first | refine zS ?_ | exact zE | with_reducible apply And.intro | with_reducible exact zB0 | with_reducible refine zB fun hb => ?_ | exact zC | refine zT ?_ | fail))
theorem c_heldTyItemS (xs : List TyI) (hl : xs.length ≤ 1048576) (k : Int) (h0 : 0 ≤ k) (hk : k + cnts TyI.cnt xs ≤ 4611686018427387904) : FCon Tryz.prog 171 [.sl 3 ((marks TyI.cnt TyI.mark k xs).map TyI.enc), .s (.int .i64 k)] (fun r _ => r = .s (.int .i64 (k + cnts TyI.cnt xs))) := by
  refine FCon.intro PM _ Tryz.func171 (by kernel_rfl) rfl _ Tryz.ntmps171 rfl [(7, 7, [], [], (lin [] [0, 1, 2, 3, 4, 5, 6]))] (by decide +kernel) (by simp) (by simp) rfl (by first | rfl | simp only [go_sem]) ?_
  have hml := marks_len (c := TyI.cnt) (m := TyI.mark) k xs
  (have hWf := f0; repeat' (first | refine zS ?_ | exact zE | with_reducible apply And.intro | with_reducible exact zB0 | with_reducible refine zB fun hb => ?_ | exact zC | refine zT ?_ | fail))
  refine AC_loop (fun n σ => ∃ i : Nat, i ≤ xs.length ∧ n = xs.length - i ∧ σ.t 0 = .sl 3 ((marks TyI.cnt TyI.mark k xs).map TyI.enc) ∧ σ.t 1 = .s (.int .i64 (k + cnts TyI.cnt (xs.take i))) ∧ σ.t 5 = .s (.int .i64 i)) xs.length ⟨0, by omega, by omega, ?_⟩ ?_
  · simp only [go_sem, simprocAttr, Int.natCast_zero, List.take_zero, cnts, Int.add_zero]
  · rintro n σ ⟨i, hi, rfl, h0, h1, h5⟩ K' hK
    by_cases hlt : i < xs.length
    · have hc := cnts_step (c := TyI.cnt) hlt
      have hc' := cnts_le (c := TyI.cnt) xs (i + 1)
      have hx := marks_get (c := TyI.cnt) (m := TyI.mark) k hlt TyI.enc
      simp only [TyI.enc_eq, TyI.mark] at hx
      simp only [TyI.cnt] at hc
      (have hWf := WFx.mk (ai @h0 <| ai @h1 <| ai @h5 <| ai @hx <| @hml); repeat' (first | refine zS ?_ | exact zE | with_reducible apply And.intro | ((with_reducible apply q_CallG); refine zG (c_markText ((k + (cnts TyI.cnt (xs.take i) : Nat)) + 1) (by omega)) ?_) | ((with_reducible apply q_CallQ); refine CallQ_mk (c_markText ((k + (cnts TyI.cnt (xs.take i) : Nat)) + 1) (by omega)) ?_) | with_reducible exact zB0 | with_reducible refine zB fun hb => ?_ | exact zC | refine zT ?_ | fail))
      all_goals
        refine hK (xs.length - (i + 1)) _ (by omega) ⟨i + 1, by omega, rfl, ?_⟩
        simp only [go_sem, simprocAttr, h0, h1, h5, Int.natCast_succ]
        exact sI_congr (by rw [hc]; push_cast; omega)
    · obtain rfl : i = xs.length := by omega
      rw [List.take_length] at h1
      (have hWf := WFx.mk (ai @h0 <| ai @h1 <| ai @h5 <| @hml); repeat' (first | refine zS ?_ | exact zE | with_reducible apply And.intro | with_reducible exact zB0 | with_reducible refine zB fun hb => ?_ | exact zC | refine zT ?_ | fail))
end Go.Proofs.YtgcdbmcoendcdaaGreat

namespace Go.Proofs.YtgcdbmcoendcdaaGreat
set_option linter.unusedVariables false
set_option linter.unusedSimpArgs false
open Go.RowKit Go.ChangeShapes Go.WideShapes
structure MTy where
  items : List TyI
def MTy.enc (x : MTy) : List D := [.sl 3 (x.items.map TyI.enc)]
theorem MTy.enc_eq (x : MTy) : x.enc = [.sl 3 (x.items.map TyI.enc)] := rfl
def MTy.own (x : MTy) : List D := [.osl 159 3 (x.items.map TyI.own)]
theorem MTy.own_eq (x : MTy) : x.own = [.osl 159 3 (x.items.map TyI.own)] := rfl
theorem MTy.frz_eq (x : MTy) : frzL x.own = x.enc := by
  simp only [MTy.own_eq, MTy.enc_eq, frzL, frz, frz_rows TyI.frz_eq]
def MTy.ok (x : MTy) : Prop := (∀ y ∈ x.items, y.ok)
def MTy.sm (x : MTy) : Prop := smS TyI.sm x.items
def MTy.cnt (x : MTy) : Nat := cnts TyI.cnt x.items
def MTy.mark (k : Int) (x : MTy) : MTy := ⟨marks TyI.cnt TyI.mark k x.items⟩
theorem MTy.cnt_eq (x : MTy) : x.cnt = cnts TyI.cnt x.items := rfl
theorem MTy.mark_eq (k : Int) (x : MTy) : MTy.mark k x = ⟨marks TyI.cnt TyI.mark k x.items⟩ := rfl
theorem MTy.pure (x : MTy) : ∀ d ∈ x.own, Pure d := by
  simp only [MTy.own_eq, List.forall_mem_cons, List.not_mem_nil, false_imp_iff, implies_true, and_true]
  exact pure_rows TyI.pure _ _ _
theorem MTy.pureS (e k : Nat) (xs : List MTy) : Pure (.osl e k (xs.map MTy.own)) = True := eq_true (pure_rows MTy.pure e k xs)
attribute [go_sem] MTy.pureS
theorem MTy.frzS (xs : List MTy) : frzLL (xs.map MTy.own) = xs.map MTy.enc := frz_rows MTy.frz_eq xs
attribute [go_sem] MTy.frzS
theorem c_toTy (x : MTy) (hs : x.sm) : FCon Tryz.prog 251 [.ag x.enc] (fun r _ => r = .ag x.own) := by
  refine FCon.intro PM _ Tryz.func251 (by kernel_rfl) rfl _ Tryz.ntmps251 rfl [] (by decide +kernel) (by simp) (by simp) rfl (by first | rfl | simp only [go_sem]) ?_
  (have hWf := WFx.mk (ai @MTy.enc_eq <| @MTy.own_eq); repeat' (first | refine zS ?_ | exact zE | with_reducible apply And.intro | refine zK (c_toTyItemS x.items (hs)) ?_ | with_reducible exact zB0 | with_reducible refine zB fun hb => ?_ | exact zC | refine zT ?_ | fail))
theorem c_eqTy (x : MTy) : FCon Tryz.prog 254 [.ag x.enc, .ag x.enc] (fun r _ => r = .s (.bool true)) := by
  refine FCon.intro PM _ Tryz.func254 (by kernel_rfl) rfl _ Tryz.ntmps254 rfl [] (by decide +kernel) (by simp) (by simp) rfl (by first | rfl | simp only [go_sem]) ?_
  (have hWf := WFx.mk @MTy.enc_eq; repeat' (first | refine zS ?_ | exact zE | with_reducible apply And.intro | refine zK (c_eqTyItemS x.items) ?_ | with_reducible exact zB0 | with_reducible refine zB fun hb => ?_ | exact zC | refine zT ?_ | fail))
end Go.Proofs.YtgcdbmcoendcdaaGreat

namespace Go.Proofs.YtgcdbmcoendcdaaGreat
set_option linter.unusedVariables false
set_option linter.unusedSimpArgs false
open Go.RowKit
theorem pure_tupL (xs : List D) : Pure (.tup xs) = ∀ d ∈ xs, Pure d := propext ⟨fun h d hd => by
  obtain ⟨j, hj⟩ := List.mem_iff_getElem?.1 hd
  cases h with
  | tup h => exact h j d hj, fun h => .tup fun j d hj => h d (List.mem_of_getElem? hj)⟩
theorem cnts_bound {α : Type} {c : α → Nat} {B : Nat} : ∀ l : List α, (∀ x ∈ l, c x ≤ B) → cnts c l ≤ l.length * B
  | [], _ => by simp [cnts]
  | x :: l, h => by
    have := cnts_bound l fun y hy => h y (by simp [hy])
    have h2 := h x (by simp)
    rw [cnts, List.length_cons, Nat.add_mul]; omega
end Go.Proofs.YtgcdbmcoendcdaaGreat
