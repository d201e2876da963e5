import Derived.Test.YtngobmjdbjlkcaaHLexB
import Derived.Test.YtngobmjdbjlkcaaBase
import Derived.Test.YtngobmjdbjlkcaaDecB
import Derived.Deep.QuietTactic
import Derived.BigQuiet
import Derived.Lib.SlBytesConst
/- The signs of both sides. -/
namespace Go.Proofs.Ytngobmjdbjlkcaa
set_option linter.unusedVariables false
set_option linter.unusedSimpArgs false
open Go.RowKit
/-- a text in a row of its own. -/
def stE (p : ByteArray) : List D := [.s (.string p)]
theorem stE_eq (p : ByteArray) : stE p = [.s (.string p)] := rfl
theorem signs_size : ∀ p ∈ signs, p.size ≤ 2 := by decide +kernel
theorem signs_len : signs.length = 22 := rfl
def signR (s : ByteArray) (i k : Nat) : ByteArray := ((signs.drop k).find? fun p => hasM s p i).getD noB
theorem signR_hit {s : ByteArray} {i k : Nat} (h : k < signs.length) (hh : hasM s signs[k] i = true) : signR s i k = signs[k] := by
  unfold signR; rw [List.drop_eq_getElem_cons h, List.find?_cons, hh]; rfl
theorem signR_pass {s : ByteArray} {i k : Nat} (h : k < signs.length) (hh : hasM s signs[k] i = false) : signR s i k = signR s i (k + 1) := by
  unfold signR; rw [List.drop_eq_getElem_cons h, List.find?_cons, hh]
theorem signR_end {s : ByteArray} {i k : Nat} (h : signs.length ≤ k) : signR s i k = noB := by
  unfold signR; rw [List.drop_eq_nil_of_le h]; rfl
set_option maxRecDepth 100000 in
theorem c_l02Sign (s : ByteArray) (i : Nat) (hs : s.size ≤ 1048576) (hi : i < s.size) : FCon Try.prog 76 [.s (.string s), .s (.int .i64 i)] (fun r _ => r = .s (.string (signM s i))) := by
  refine FCon.intro PM _ Try.func76 (by kernel_rfl) rfl _ Try.ntmps76 rfl [] (by decide +kernel) (by simp) (by simp) rfl (by first | rfl | simp only [go_sem]) ?_
  repeat' (first | with_reducible refine ACallQ_no (.s (.bool false)) ?_ | ((with_reducible first | refine AC_go ?_ | refine ACallQ_go ?_ | refine (?_ : aft _ _ _ _ _ _) | refine (?_ : aops _ _ _ _ _) | refine (?_ : aqsN _ _ _ _ _ _ _ _)); simp only [go_sem, ↓reduceIte, Nat.reduceAdd, Nat.reduceSub, Nat.reduceMul, Nat.reduceMod, Nat.reduceDiv, Nat.reduceEqDiff, Nat.reduceBNe, Nat.reduceBEq, Nat.reduceLeDiff, Nat.reduceLT, reduceCtorEq]; fail_if_success (with_reducible refine (?_ : False))) | with_reducible refine And.intro ?_ ?_ | with_reducible refine CallQ_no ?_ | with_reducible exact False.elim | ((with_reducible refine (?_ : _ → AC _ _ _ _ _ _)); (intro hb; (try simp only [decide_eq_true_eq, decide_eq_false_iff_not, Bool.and_eq_true, Bool.or_eq_true, Bool.and_eq_false_iff, Bool.or_eq_false_iff, Bool.not_eq_true', Bool.not_eq_false', beq_iff_eq, beq_eq_false_iff_ne, bne_iff_ne, bne_eq_false_iff_eq, gt_iff_lt, ge_iff_le, Int.not_lt, Int.not_le] at hb); (try (exfalso; omega)))) | omega | simp only [go_sem, ↓reduceIte, Nat.reduceAdd, Nat.reduceSub, Nat.reduceMul, Nat.reduceMod, Nat.reduceDiv, Nat.reduceEqDiff, Nat.reduceBNe, Nat.reduceBEq, Nat.reduceLeDiff, Nat.reduceLT, reduceCtorEq] | (intro hg; simp only [Bool.and_eq_true, Bool.or_eq_true, Bool.not_eq_true', Bool.and_eq_false_iff, Bool.or_eq_false_iff, Bool.not_eq_false', decide_eq_true_eq, decide_eq_false_iff_not, Bool.not_not, gt_iff_lt, ge_iff_le, Int.not_lt, Int.not_le] at hg ⊢; first | omega | (simp_all; done) | fail))
  refine AC_loop (fun n σ => ∃ k : Nat, k ≤ 22 ∧ n = 22 - k ∧ signR s i k = signM s i ∧ σ.t 0 = .s (.string s) ∧ σ.t 1 = .s (.int .i64 i) ∧ σ.t 7 = .bs 7 1 22 ∧ σ.b 7 = some (.arr 9 1 (signs.map stE)) ∧ σ.t 8 = .s (.int .i64 (22 : Nat)) ∧ σ.t 9 = .s (.int .i64 k)) 22 ⟨0, by omega, by omega, rfl, ?_⟩ ?_
  · simp only [go_sem, ↓reduceIte, Nat.reduceAdd, Nat.reduceSub, Nat.reduceMul, Nat.reduceMod, Nat.reduceDiv, Nat.reduceEqDiff, Nat.reduceBNe, Nat.reduceBEq, Nat.reduceLeDiff, Nat.reduceLT, reduceCtorEq, Int.natCast_zero]
    rfl
  · rintro n σ ⟨k, hk, rfl, hr, h0, h1, h7, hb7, h8, h9⟩ K' hK
    by_cases hlt : k < 22
    · have hlt' : k < signs.length := hlt
      have hx := getD_map stE signs k hlt'
      have he := stE_eq signs[k]
      have hl : ((signs.map stE).length : Nat) = 22 := rfl
      have hb1 := natI_lt hlt
      have hsz := signs_size _ (List.getElem_mem hlt')
      cases q : hasM s signs[k] i with
      | true =>
        rw [signR_hit hlt' q] at hr
        repeat' (first | with_reducible refine ACallQ_no (.s (.bool false)) ?_ | ((with_reducible first | refine AC_go ?_ | refine ACallQ_go ?_ | refine (?_ : aft _ _ _ _ _ _) | refine (?_ : aops _ _ _ _ _) | refine (?_ : aqsN _ _ _ _ _ _ _ _)); simp only [go_sem, ↓reduceIte, Nat.reduceAdd, Nat.reduceSub, Nat.reduceMul, Nat.reduceMod, Nat.reduceDiv, Nat.reduceEqDiff, Nat.reduceBNe, Nat.reduceBEq, Nat.reduceLeDiff, Nat.reduceLT, reduceCtorEq, h0, h1, h7, hb7, h8, h9, hx, he, hl, hb1, q, ← hr]; fail_if_success (with_reducible refine (?_ : False))) | with_reducible refine And.intro ?_ ?_ | (refine CallG_mk (FCon.noout (c_l02Has s i signs[k] hs (by omega) (by omega))) ?_; rintro _ _ ⟨rfl, rfl⟩) | (refine CallQ_mk (c_l02Has s i signs[k] hs (by omega) (by omega)) ?_) | with_reducible refine CallQ_no ?_ | with_reducible exact False.elim | ((with_reducible refine (?_ : _ → AC _ _ _ _ _ _)); (intro hb; (try simp only [decide_eq_true_eq, decide_eq_false_iff_not, Bool.and_eq_true, Bool.or_eq_true, Bool.and_eq_false_iff, Bool.or_eq_false_iff, Bool.not_eq_true', Bool.not_eq_false', beq_iff_eq, beq_eq_false_iff_ne, bne_iff_ne, bne_eq_false_iff_eq, gt_iff_lt, ge_iff_le, Int.not_lt, Int.not_le] at hb); (try (exfalso; omega)))) | omega | simp only [go_sem, ↓reduceIte, Nat.reduceAdd, Nat.reduceSub, Nat.reduceMul, Nat.reduceMod, Nat.reduceDiv, Nat.reduceEqDiff, Nat.reduceBNe, Nat.reduceBEq, Nat.reduceLeDiff, Nat.reduceLT, reduceCtorEq, h0, h1, h7, hb7, h8, h9, hx, he, hl, hb1, q, ← hr] | (intro hg; simp only [Bool.and_eq_true, Bool.or_eq_true, Bool.not_eq_true', Bool.and_eq_false_iff, Bool.or_eq_false_iff, Bool.not_eq_false', decide_eq_true_eq, decide_eq_false_iff_not, Bool.not_not, gt_iff_lt, ge_iff_le, Int.not_lt, Int.not_le] at hg ⊢; first | omega | (simp_all; done) | fail))
      | false =>
        rw [signR_pass hlt' q] at hr
        repeat' (first | with_reducible refine ACallQ_no (.s (.bool false)) ?_ | ((with_reducible first | refine AC_go ?_ | refine ACallQ_go ?_ | refine (?_ : aft _ _ _ _ _ _) | refine (?_ : aops _ _ _ _ _) | refine (?_ : aqsN _ _ _ _ _ _ _ _)); simp only [go_sem, ↓reduceIte, Nat.reduceAdd, Nat.reduceSub, Nat.reduceMul, Nat.reduceMod, Nat.reduceDiv, Nat.reduceEqDiff, Nat.reduceBNe, Nat.reduceBEq, Nat.reduceLeDiff, Nat.reduceLT, reduceCtorEq, h0, h1, h7, hb7, h8, h9, hx, he, hl, hb1, q]; fail_if_success (with_reducible refine (?_ : False))) | with_reducible refine And.intro ?_ ?_ | (refine CallG_mk (FCon.noout (c_l02Has s i signs[k] hs (by omega) (by omega))) ?_; rintro _ _ ⟨rfl, rfl⟩) | (refine CallQ_mk (c_l02Has s i signs[k] hs (by omega) (by omega)) ?_) | with_reducible refine CallQ_no ?_ | with_reducible exact False.elim | ((with_reducible refine (?_ : _ → AC _ _ _ _ _ _)); (intro hb; (try simp only [decide_eq_true_eq, decide_eq_false_iff_not, Bool.and_eq_true, Bool.or_eq_true, Bool.and_eq_false_iff, Bool.or_eq_false_iff, Bool.not_eq_true', Bool.not_eq_false', beq_iff_eq, beq_eq_false_iff_ne, bne_iff_ne, bne_eq_false_iff_eq, gt_iff_lt, ge_iff_le, Int.not_lt, Int.not_le] at hb); (try (exfalso; omega)))) | omega | simp only [go_sem, ↓reduceIte, Nat.reduceAdd, Nat.reduceSub, Nat.reduceMul, Nat.reduceMod, Nat.reduceDiv, Nat.reduceEqDiff, Nat.reduceBNe, Nat.reduceBEq, Nat.reduceLeDiff, Nat.reduceLT, reduceCtorEq, h0, h1, h7, hb7, h8, h9, hx, he, hl, hb1, q] | (intro hg; simp only [Bool.and_eq_true, Bool.or_eq_true, Bool.not_eq_true', Bool.and_eq_false_iff, Bool.or_eq_false_iff, Bool.not_eq_false', decide_eq_true_eq, decide_eq_false_iff_not, Bool.not_not, gt_iff_lt, ge_iff_le, Int.not_lt, Int.not_le] at hg ⊢; first | omega | (simp_all; done) | fail))
        refine hK (22 - (k + 1)) _ (by omega) ⟨k + 1, by omega, rfl, hr, ?_⟩
        simp only [go_sem, ↓reduceIte, Nat.reduceAdd, Nat.reduceSub, Nat.reduceMul, Nat.reduceMod, Nat.reduceDiv, Nat.reduceEqDiff, Nat.reduceBNe, Nat.reduceBEq, Nat.reduceLeDiff, Nat.reduceLT, reduceCtorEq, h0, h1, h7, hb7, h8, h9, cast1]
    · obtain rfl : k = 22 := by omega
      rw [signR_end (k := 22) (by rw [signs_len]; omega)] at hr
      repeat' (first | with_reducible refine ACallQ_no (.s (.bool false)) ?_ | ((with_reducible first | refine AC_go ?_ | refine ACallQ_go ?_ | refine (?_ : aft _ _ _ _ _ _) | refine (?_ : aops _ _ _ _ _) | refine (?_ : aqsN _ _ _ _ _ _ _ _)); simp only [go_sem, ↓reduceIte, Nat.reduceAdd, Nat.reduceSub, Nat.reduceMul, Nat.reduceMod, Nat.reduceDiv, Nat.reduceEqDiff, Nat.reduceBNe, Nat.reduceBEq, Nat.reduceLeDiff, Nat.reduceLT, reduceCtorEq, h0, h1, h7, hb7, h8, h9, ← hr, noB_eq]; fail_if_success (with_reducible refine (?_ : False))) | with_reducible refine And.intro ?_ ?_ | with_reducible refine CallQ_no ?_ | with_reducible exact False.elim | ((with_reducible refine (?_ : _ → AC _ _ _ _ _ _)); (intro hb; (try simp only [decide_eq_true_eq, decide_eq_false_iff_not, Bool.and_eq_true, Bool.or_eq_true, Bool.and_eq_false_iff, Bool.or_eq_false_iff, Bool.not_eq_true', Bool.not_eq_false', beq_iff_eq, beq_eq_false_iff_ne, bne_iff_ne, bne_eq_false_iff_eq, gt_iff_lt, ge_iff_le, Int.not_lt, Int.not_le] at hb); (try (exfalso; omega)))) | omega | simp only [go_sem, ↓reduceIte, Nat.reduceAdd, Nat.reduceSub, Nat.reduceMul, Nat.reduceMod, Nat.reduceDiv, Nat.reduceEqDiff, Nat.reduceBNe, Nat.reduceBEq, Nat.reduceLeDiff, Nat.reduceLT, reduceCtorEq, h0, h1, h7, hb7, h8, h9, ← hr, noB_eq] | (intro hg; simp only [Bool.and_eq_true, Bool.or_eq_true, Bool.not_eq_true', Bool.and_eq_false_iff, Bool.or_eq_false_iff, Bool.not_eq_false', decide_eq_true_eq, decide_eq_false_iff_not, Bool.not_not, gt_iff_lt, ge_iff_le, Int.not_lt, Int.not_le] at hg ⊢; first | omega | (simp_all; done) | fail))
/-! the program's symbols, by the elder road: a text turned into bytes. -/
theorem impl_starts (w : World) (b off i : Nat) (s p : ByteArray) (hs : s.size ≤ 1048576) (hi : i ≤ 1048578) (hp : p.size ≤ 1048576) (h0 : w.cell? ⟨b, off, none⟩ = some (.string s)) (h1 : w.cell? ⟨b, off + 1, none⟩ = some (.int .i64 i)) :
    Calls Try.prog 78 #[.pointer (some ⟨b, off, none⟩), .string p] w fun e w' => e = .returned (.bool (hasM s p i)) ∧ Below w.heap.size w w' := by
  have e1 : IntKind.i64.wrap ((i : Int) + p.size) = (i : Int) + p.size := IntWalk.i64_in _ (by omega)
  have e2 : ((i : Int) + p.size).toNat = i + p.size := by omega
  by_cases hh : i + p.size ≤ s.size
  · have g1 : decide ((i : Int) + p.size ≤ s.size) = true := by simp; omega
    have g2 : (i : Int) + p.size ≤ s.size := by omega
    have g3 : (i : Int) ≤ (i : Int) + p.size := by omega
    go_enter Try.func78, Try.ntmps78
    go_wp2
    go_quiet (fail)
    go_wp2
    go_ret
    exact ⟨ret_b (by unfold hasM; simp [hh]), ⟨rfl, rfl, rfl, Nat.le_refl _, fun _ _ => rfl⟩⟩
  · have g1 : decide ((i : Int) + p.size ≤ s.size) = false := by simp; omega
    have g2 : (s.size : Int) < (i : Int) + p.size := by omega
    go_enter Try.func78, Try.ntmps78
    go_wp2
    go_quiet (fail)
    go_wp2
    go_ret
    exact ⟨ret_b (by unfold hasM; simp [hh]), ⟨rfl, rfl, rfl, Nat.le_refl _, fun _ _ => rfl⟩⟩
theorem sign2_step {s : ByteArray} {i k : Nat} (h : k < sign2.length) : (hasM s sign2[k] i = true → signR s i k = sign2[k]) ∧ (hasM s sign2[k] i = false → signR s i k = signR s i (k + 1)) := by
  have hk : k < signs.length := Nat.lt_of_lt_of_le h (by unfold signs; rw [List.length_append]; omega)
  have e : signs[k] = sign2[k] := List.getElem_append_left h
  exact ⟨fun q => (signR_hit hk (by rw [e]; exact q)).trans e, fun q => signR_pass hk (by rw [e]; exact q)⟩
theorem sign1_step {s : ByteArray} {i k : Nat} (h : k < sign1.length) : (hasM s sign1[k] i = true → signR s i (k + 5) = sign1[k]) ∧ (hasM s sign1[k] i = false → signR s i (k + 5) = signR s i (k + 6)) := by
  have hk : k + 5 < signs.length := by unfold signs; rw [List.length_append]; have : sign2.length = 5 := rfl; omega
  have e : signs[k + 5] = sign1[k] := by
    have h5 : sign2.length = 5 := rfl
    have h6 : (sign2 ++ sign1)[k + 5]'hk = sign1[k + 5 - sign2.length]'(by omega) := List.getElem_append_right (by omega)
    exact h6
  exact ⟨fun q => (signR_hit hk (by rw [e]; exact q)).trans e, fun q => signR_pass hk (by rw [e]; exact q)⟩
theorem sign2_size {k : Nat} (h : k < sign2.length) : (sign2[k]).size ≤ 2 := signs_size _ (List.mem_append_left _ (List.getElem_mem h))
def s1Z : List Int := [40, 41, 91, 93, 44, 59, 124, 61, 60, 43, 45, 42, 47, 37, 94, 33, 95]
theorem sign1_Zb : ((List.range 17).all fun k => decide ((sign1.getD k noB).data.toList = [UInt8.ofNat (s1Z.getD k 0).toNat] ∧ 0 ≤ s1Z.getD k 0 ∧ s1Z.getD k 0 < 128)) = true := by decide +kernel
theorem sign1_Z {k : Nat} (h : k < 17) : (sign1.getD k noB).data.toList = [UInt8.ofNat (s1Z.getD k 0).toNat] ∧ 0 ≤ s1Z.getD k 0 ∧ s1Z.getD k 0 < 128 := by
  have := List.all_eq_true.1 sign1_Zb k (List.mem_range.2 h)
  simpa using this
theorem hasM_one {s p : ByteArray} {z : Int} {i : Nat} (hp : p.data.toList = [UInt8.ofNat z.toNat]) (z0 : 0 ≤ z) (z1 : z < 128) (hi : i < s.size) : hasM s p i = (((s[i].toNat : Nat) : Int) == z) := by
  have hps : p.size = 1 := by
    have := congrArg List.length hp
    simpa using this
  have he : (s.extract i (i + 1)).data.toList = [s[i]] := by
    rw [ByteArray.data_extract, Array.toList_extract]
    simp only [List.extract_eq_take_drop, Nat.add_sub_cancel_left]
    rw [List.drop_eq_getElem_cons (by simpa using hi)]
    rfl
  unfold hasM
  rw [hps, ByteArray.toList_eq, ByteArray.toList_eq, he, hp, decide_eq_true (show i + 1 ≤ s.size from hi), Bool.true_and, Bool.eq_iff_iff]
  simp only [beq_iff_eq, List.cons.injEq, and_true]
  constructor
  · intro h
    rw [h, UInt8.toNat_ofNat']
    omega
  · intro h
    have : s[i].toNat = z.toNat := by omega
    rw [← this]
    exact (UInt8.ofNat_toNat).symm
theorem sign1_walk {s : ByteArray} {i k : Nat} (h : k < 17) (hi : i < s.size) : ∃ z d, s1Z[k]? = some z ∧ Value.int .u8 z = byteV d ∧ ((((s[i].toNat : Nat) : Int) == z) = true → signR s i (k + 5) = bs [d]) ∧ ((((s[i].toNat : Nat) : Int) == z) = false → signR s i (k + 5) = signR s i (k + 6)) := by
  have h1 : k < sign1.length := h
  have h2 : k < s1Z.length := h
  obtain ⟨z1, z2, z3⟩ := sign1_Z h
  rw [List.getD_eq_getElem?_getD, List.getElem?_eq_getElem h1, Option.getD_some] at z1
  rw [List.getD_eq_getElem?_getD, List.getElem?_eq_getElem h2, Option.getD_some] at z1 z2 z3
  obtain ⟨a1, a2⟩ := sign1_step (s := s) (i := i) h1
  rw [hasM_one z1 z2 z3 hi] at a1 a2
  refine ⟨s1Z[k], UInt8.ofNat (s1Z[k]).toNat, List.getElem?_eq_getElem h2, ?_, fun q => (a1 q).trans ?_, a2⟩
  · unfold byteV
    rw [UInt8.toNat_ofNat']
    congr 1
    omega
  · exact bytes_ext z1
def s1Cells : List Value := s1Z.map (Value.int .u8)
def s2Cells : List Value := sign2.map Value.string
set_option maxRecDepth 100000 in
set_option maxHeartbeats 400000 in
theorem impl_symbol (w : World) (b off i : Nat) (s : ByteArray) (hs : s.size ≤ 1048576) (hi : i < s.size) (h0 : w.cell? ⟨b, off, none⟩ = some (.string s)) (h1 : w.cell? ⟨b, off + 1, none⟩ = some (.int .i64 i)) :
    Calls Try.prog 125 #[.pointer (some ⟨b, off, none⟩)] w fun e w' => e = .returned (.string (signM s i)) ∧ Below w.heap.size w w' := by
  have hblt := cell_lt h0
  have HC : ∀ wr : World, Below (w.heap.size + 1) (w.alloc (.cells s2Cells.toArray 9)) wr → wr.cell? ⟨b, off, none⟩ = some (.string s) ∧ wr.cell? ⟨b, off + 1, none⟩ = some (.int .i64 i) ∧ (∀ k (h : k < sign2.length), wr.cell? ⟨w.heap.size, k, none⟩ = some (.string sign2[k])) ∧ Below w.heap.size w wr ∧ w.heap.size + 1 ≤ wr.heap.size := by
    intro wr hw
    have hz : (w.alloc (.cells s2Cells.toArray 9)).heap.size = w.heap.size + 1 := by simp
    refine ⟨?_, ?_, fun k h => ?_, ?_, ?_⟩
    · rw [hw.cell (p := ⟨b, off, none⟩) (by show b < _; omega), ← h0]; exact cell_of_heap (Below.heap_alloc _ _ _ hblt) _
    · rw [hw.cell (p := ⟨b, off + 1, none⟩) (by show b < _; omega), ← h1]; exact cell_of_heap (Below.heap_alloc _ _ _ hblt) _
    · rw [hw.cell (p := ⟨w.heap.size, k, none⟩) (by show w.heap.size < _; omega)]
      simp only [World.cell?, alloc_at]
      rw [if_neg (by simp)]
      simp [s2Cells]
    · exact ((Below.refl _ _).alloc (Nat.le_refl _) _).trans (hw.mono (by omega))
    · have := hw.size; omega
  have hi' : i ≤ 1048578 := by omega
  have HC := Lib.hid HC
  have HH := Lib.hid (⟨h0, h1, hblt⟩ : _ ∧ _ ∧ _)
  clear h0 h1
  go_enter Try.func125, Try.ntmps125
  go_wp2
  go_loopw [9] (fun j wr => ∃ k : Nat, k ≤ 5 ∧ j = .int .i64 k ∧ signR s i k = signM s i ∧ Below (w.heap.size + 1) (w.alloc (.cells s2Cells.toArray 9)) wr) (fun j _ => 5 - (intOf j).toNat)
  case atStart => exact ⟨0, Nat.zero_le _, rfl, rfl, Below.refl _ _⟩
  case round =>
    obtain ⟨k, hk, rfl, hr, hbel⟩ := hrel
    obtain ⟨c0, c1, c2, c3, c4⟩ := HC.out _ hbel
    have HR := Lib.hid hr
    clear hr
    by_cases hlt : k < 5
    · have hlt' : k < sign2.length := hlt
      have hcell := c2 k hlt'
      have hsz := sign2_size hlt'
      obtain ⟨hA, hB⟩ := sign2_step (s := s) (i := i) hlt'
      rw [HR.out] at hA hB
      obtain ⟨q, hqe⟩ : ∃ q, q = sign2[k]'hlt' := ⟨_, rfl⟩
      rw [← hqe] at hcell hsz hA hB
      clear hqe
      have hA := Lib.hid hA
      have hB := Lib.hid hB
      have hsz' : q.size ≤ 1048576 := Nat.le_trans hsz (by decide)
      clear c2 hsz hlt'
      cases hq : hasM s q i with
      | true =>
        go_wp2_with (go_at_call 78; refine (impl_starts _ b off i s q hs hi' hsz' c0 c1).mono ?_; rintro e w2 ⟨rfl, hb2⟩)
        go_ret
        exact ⟨by rw [hA.out hq]; rfl, c3.trans (hb2.mono (by omega))⟩
      | false =>
        go_wp2_with (go_at_call 78; refine (impl_starts _ b off i s q hs hi' hsz' c0 c1).mono ?_; rintro e w2 ⟨rfl, hb2⟩)
        go_roundw
        case rel => exact ⟨k + 1, by omega, by go_num, (hB.out hq).symm, hbel.trans (hb2.mono c4)⟩
        case measure => simp [intOf]; omega
    · obtain rfl : k = 5 := by omega
      have kc := fun (w : World) (C : Array Value) (n c : Nat) => Lib.run_convert_bytes_const (P := Try.prog) w 22 5 C n c Try.underlying22 Try.underlying5
      have HD : ∀ v : World, Below (wr.heap.size + 1) (wr.alloc (.cells s1Cells.toArray 5 (17, 18))) v → v.cell? ⟨b, off, none⟩ = some (.string s) ∧ v.cell? ⟨b, off + 1, none⟩ = some (.int .i64 i) ∧ (∀ k z, s1Z[k]? = some z → v.cell? ⟨wr.heap.size, k, none⟩ = some (.int .u8 z)) ∧ Below w.heap.size w v ∧ w.heap.size ≤ v.heap.size := by
        intro v hv
        have hz : (wr.alloc (.cells s1Cells.toArray 5 (17, 18))).heap.size = wr.heap.size + 1 := by simp
        have hbw : b < wr.heap.size := by omega
        refine ⟨?_, ?_, fun k z h => ?_, ?_, ?_⟩
        · rw [hv.cell (p := ⟨b, off, none⟩) (by show b < _; omega), ← c0]; exact cell_of_heap (Below.heap_alloc _ _ _ hbw) _
        · rw [hv.cell (p := ⟨b, off + 1, none⟩) (by show b < _; omega), ← c1]; exact cell_of_heap (Below.heap_alloc _ _ _ hbw) _
        · rw [hv.cell (p := ⟨wr.heap.size, k, none⟩) (by show wr.heap.size < _; omega)]
          simp only [World.cell?, alloc_at]
          have hk := (List.getElem?_eq_some_iff.1 h).1
          have hk : k < 17 := hk
          rw [if_neg (by simp)]
          simp [s1Cells, h]
        · exact c3.trans (((Below.refl _ _).alloc (by omega) _).trans (hv.mono (by omega)))
        · have := hv.size; omega
      have HD := Lib.hid HD
      clear c2
      go_wp2
      go_loopw [21] (fun j v => ∃ k : Nat, k ≤ 17 ∧ j = .int .i64 k ∧ signR s i (k + 5) = signM s i ∧ Below (wr.heap.size + 1) (wr.alloc (.cells s1Cells.toArray 5 (17, 18))) v) (fun j _ => 17 - (intOf j).toNat)
      case atStart => exact ⟨0, Nat.zero_le _, rfl, HR.out, Below.refl _ _⟩
      case round =>
        obtain ⟨k, hk, rfl, hr, hbel2⟩ := hrel
        obtain ⟨d0, d1, d2, d3, d4⟩ := HD.out _ hbel2
        by_cases hlt : k < 17
        · obtain ⟨z, d, hz, hzd, hA, hB⟩ := sign1_walk (s := s) hlt hi
          rw [hr] at hA hB
          have hcell := d2 k z hz
          have hcv : ∀ nq, (Go.convert 22 9 (.slice (some ⟨wr.heap.size, 0, none⟩) 1 1)).run Try.prog ((wr.drewN nq).alloc (.cells #[.int .u8 z] 5)) = .ok (.string (bs [d])) ((wr.drewN nq).alloc (.cells #[.int .u8 z] 5)) := fun nq => run_str_one z _ hzd _ _ (by
            have e : ((wr.drewN nq).alloc (.cells #[.int .u8 z] 5)).heap[wr.heap.size]? = some (.cells #[.int .u8 z] 5 (0, 0)) := by
              show (wr.heap.push _)[wr.heap.size]? = _
              simp
            simp only [World.cell?, e]
            rfl)
          have hA := Lib.hid hA
          have hB := Lib.hid hB
          clear d2 hr hz hzd
          cases hq : (((s[i].toNat : Nat) : Int) == z) with
          | true =>
            go_wp2
            go_quiet (fail)
            go_wp2
            go_ret
            exact ⟨by rw [hA.out hq]; rfl, d3.trans (((Below.refl _ _).alloc (o := .cells #[.int .u8 z] 5) d4).mono (Nat.le_refl _) |>.trans ⟨rfl, rfl, rfl, Nat.le_refl _, fun _ _ => rfl⟩)⟩
          | false =>
            go_wp2
            go_quiet (fail)
            go_wp2
            go_roundw
            case rel => exact ⟨k + 1, by omega, by go_num, (hB.out hq).symm, ⟨hbel2.os, hbel2.tape, hbel2.output, hbel2.size, hbel2.block⟩⟩
            case measure => simp [intOf]; omega
        · obtain rfl : k = 17 := by omega
          have hr := Lib.hid (hr.symm.trans (signR_end (s := s) (i := i) (k := 22) (by rw [signs_len]; omega)))
          clear d2
          go_wp2
          go_ret
          exact ⟨by rw [hr.out]; rfl, (by repeat (first | with_reducible exact Below.refl _ _ | with_reducible assumption | with_reducible refine Below.setCell ?_ ?_ _ | with_reducible refine Below.alloc ?_ ?_ _ | with_reducible refine Below.drew ?_ | (with_reducible apply below_chain; with_reducible assumption) | exact Nat.le_refl _ | omega | (simp <;> omega)))⟩
theorem c_symbol (s : ByteArray) (i : Nat) (ts : List MTok) (hs : s.size ≤ 1048576) (hi : i < s.size) : FCon Try.prog 125 [.pt [.s (.string s), .s (.int .i64 i), .sl 4 (ts.map MTok.enc), .s (.int .i64 0)]] (fun r _ => r = .s (.string (signM s i))) := by
  refine FCon.ofBelow (Rv := fun v => v = .string (signM s i)) Try.func125 rfl rfl ?_ rfl ?_
  · rintro _ rfl; exact ⟨rfl, rfl⟩
  · intro w S up vs hl hv
    obtain ⟨v, rfl, h'⟩ := one_arg (P := fun _ d u => RB S up w d u) hl hv
    have h' : Rep S up w none (.pt [.s (.string s), .s (.int .i64 i), .sl 4 (ts.map MTok.enc), .s (.int .i64 0)]) v := h'
    cases h' with
    | @pt _ _ b off us h1 h2 =>
      have a0 := (h1 0 _ rfl).2
      have a1 := (h1 1 _ rfl).2
      have b0 := Rep.s_inv (h2 0 _ rfl)
      have b1 := Rep.s_inv (h2 1 _ rfl)
      rw [b0] at a0
      rw [b1] at a1
      exact (impl_symbol w b off i s hs hi a0 a1).mono fun e w' h => ⟨_, h.1, rfl, h.2⟩
end Go.Proofs.Ytngobmjdbjlkcaa
