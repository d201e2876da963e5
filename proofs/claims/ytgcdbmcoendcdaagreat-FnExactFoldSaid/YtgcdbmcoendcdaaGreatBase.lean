import Derived.WalkKit
import Derived.Lib.Hide
import Derived.Deep.RegionLaw
import Derived.ProofKit
import Derived.Deep.Slices
import Derived.Test.YtgcdbmcoendcdaaGreatProg
/- Plain laws of 63-bit numbers: no program in sight. -/
namespace Go.Proofs.YtgcdbmcoendcdaaGreat
open Go.RowKit

def wrap63 (n : Int) : Int := wrap64 (n * 2) / 2

theorem wrap63_eq (n : Int) : wrap63 n = (n + 4611686018427387904) % 9223372036854775808 - 4611686018427387904 := by
  unfold wrap63 wrap64; omega
theorem wrap63_bd (n : Int) : -4611686018427387904 ≤ wrap63 n ∧ wrap63 n ≤ 4611686018427387903 := by
  rw [wrap63_eq]; omega
theorem wrap63_q (n : Int) : ∃ q : Int, n = wrap63 n + q * 9223372036854775808 :=
  ⟨(n + 4611686018427387904) / 9223372036854775808, by rw [wrap63_eq]; omega⟩
theorem wrap63_congr {a b : Int} (q : Int) (h : a = b + q * 9223372036854775808) : wrap63 a = wrap63 b := by
  rw [wrap63_eq, wrap63_eq, h]; omega
theorem wrap64_q (n : Int) : ∃ q : Int, n = wrap64 n + q * 18446744073709551616 :=
  ⟨(n + 9223372036854775808) / 18446744073709551616, by unfold wrap64; omega⟩
theorem wrap63_wrap64 (n : Int) : wrap63 (wrap64 n) = wrap63 n := by
  obtain ⟨q, h⟩ := wrap64_q n
  exact (wrap63_congr (q * 2) (by omega)).symm
theorem wrap63_idem (n : Int) : wrap63 (wrap63 n) = wrap63 n := by
  obtain ⟨q, h⟩ := wrap63_q n
  exact (wrap63_congr q h).symm
theorem wrap63_self {n : Int} (h0 : -4611686018427387904 ≤ n) (h1 : n ≤ 4611686018427387903) : wrap63 n = n := by
  rw [wrap63_eq]; omega
theorem wrap63_self_iff (n : Int) : wrap63 n = n ↔ -4611686018427387904 ≤ n ∧ n ≤ 4611686018427387903 := by
  rw [wrap63_eq]; omega
theorem wrap63_add (a b : Int) : wrap63 (wrap63 a + wrap63 b) = wrap63 (a + b) := by
  obtain ⟨q, h⟩ := wrap63_q a
  obtain ⟨r, h'⟩ := wrap63_q b
  exact (wrap63_congr (q + r) (by omega)).symm
theorem wrap63_add_l (a b : Int) : wrap63 (wrap63 a + b) = wrap63 (a + b) := by
  obtain ⟨q, h⟩ := wrap63_q a
  exact (wrap63_congr q (by omega)).symm
theorem wrap63_add_r (a b : Int) : wrap63 (a + wrap63 b) = wrap63 (a + b) := by
  obtain ⟨q, h⟩ := wrap63_q b
  exact (wrap63_congr q (by omega)).symm
theorem wrap63_sub (a b : Int) : wrap63 (wrap63 a - wrap63 b) = wrap63 (a - b) := by
  obtain ⟨q, h⟩ := wrap63_q a
  obtain ⟨r, h'⟩ := wrap63_q b
  exact (wrap63_congr (q - r) (by omega)).symm
theorem wrap63_sub_l (a b : Int) : wrap63 (wrap63 a - b) = wrap63 (a - b) := by
  obtain ⟨q, h⟩ := wrap63_q a
  exact (wrap63_congr q (by omega)).symm
theorem wrap63_mul_l (a b : Int) : wrap63 (wrap63 a * b) = wrap63 (a * b) := by
  obtain ⟨q, h⟩ := wrap63_q a
  refine (wrap63_congr (q * b) ?_).symm
  conv => lhs; rw [h]
  rw [Int.add_mul, Int.mul_right_comm]
theorem wrap63_mul_r (a b : Int) : wrap63 (a * wrap63 b) = wrap63 (a * b) := by
  rw [Int.mul_comm, wrap63_mul_l, Int.mul_comm]

theorem and_one (x : Int) : bits BinOp.and IntKind.i64 x 1 = x % 2 := by
  have h1 : (BitVec.ofInt 64 x &&& BitVec.ofInt 64 1).toNat = (x % 2).toNat := by
    rw [BitVec.toNat_and]
    have e1 : (BitVec.ofInt 64 (1 : Int)).toNat = 1 := by decide
    rw [e1, Nat.and_one_is_mod, BitVec.toNat_ofInt]
    omega
  have e : bits BinOp.and IntKind.i64 x 1 = IntKind.i64.wrap ((BitVec.ofInt 64 x &&& BitVec.ofInt 64 1).toNat : Int) := rfl
  rw [e, h1, IntWalk.i64_in _ (by omega)]
  omega

theorem mul_bit_one (a b : Int) (k : Nat) (h : b / 2 ^ k % 2 = 1) : a * (b % 2 ^ (k + 1)) = a * (b % 2 ^ k) + a * 2 ^ k := by
  have hp : (0 : Int) < 2 ^ k := Int.pow_pos (by decide)
  have e : b % 2 ^ (k + 1) = b % 2 ^ k + 2 ^ k := by
    have e1 := Int.emod_add_mul_ediv b (2 ^ k)
    have e2 := Int.emod_add_mul_ediv (b / 2 ^ k) 2
    rw [h] at e2
    have e3 : b = (b % 2 ^ k + 2 ^ k) + (2 ^ (k + 1)) * (b / 2 ^ k / 2) := by
      conv => lhs; rw [← e1, ← e2]
      rw [Int.pow_succ, Int.mul_add, Int.mul_one, Int.mul_assoc, Int.add_assoc]
    conv => lhs; rw [e3]
    rw [Int.add_mul_emod_self_left]
    refine Int.emod_eq_of_lt ?_ ?_
    · have := Int.emod_nonneg b (by omega : (2 : Int) ^ k ≠ 0); omega
    · have := Int.emod_lt_of_pos b hp
      rw [Int.pow_succ]; omega
  rw [e, Int.mul_add]
theorem mul_bit_zero (a b : Int) (k : Nat) (h : ¬ b / 2 ^ k % 2 = 1) : a * (b % 2 ^ (k + 1)) = a * (b % 2 ^ k) := by
  have hp : (0 : Int) < 2 ^ k := Int.pow_pos (by decide)
  have e : b % 2 ^ (k + 1) = b % 2 ^ k := by
    have h0 : b / 2 ^ k % 2 = 0 := by omega
    have e1 := Int.emod_add_mul_ediv b (2 ^ k)
    have e2 := Int.emod_add_mul_ediv (b / 2 ^ k) 2
    rw [h0, Int.zero_add] at e2
    have e3 : b = (b % 2 ^ k) + (2 ^ (k + 1)) * (b / 2 ^ k / 2) := by
      conv => lhs; rw [← e1, ← e2]
      rw [Int.pow_succ, Int.mul_assoc]
    conv => lhs; rw [e3]
    rw [Int.add_mul_emod_self_left]
    refine Int.emod_eq_of_lt ?_ ?_
    · have := Int.emod_nonneg b (by omega : (2 : Int) ^ k ≠ 0); omega
    · have := Int.emod_lt_of_pos b hp
      rw [Int.pow_succ]; omega
  rw [e]
theorem mul_last (a b : Int) : wrap63 (a * (b % 2 ^ 63)) = wrap63 (a * b) := by
  refine (wrap63_congr (a * (b / 2 ^ 63)) ?_).symm
  have := Int.emod_add_mul_ediv b (2 ^ 63)
  conv => lhs; rw [← this]
  rw [Int.mul_add, Int.mul_comm (2 ^ 63) (b / 2 ^ 63), ← Int.mul_assoc]
  rfl


theorem wrap64_congr {a b : Int} (q : Int) (h : a = b + q * 18446744073709551616) : wrap64 a = wrap64 b := by
  unfold wrap64; rw [h]; omega
theorem wrap64_self {n : Int} (h0 : -9223372036854775808 ≤ n) (h1 : n ≤ 9223372036854775807) : wrap64 n = n := by
  unfold wrap64; omega
theorem wrap64_mul_l (a b : Int) : wrap64 (wrap64 a * b) = wrap64 (a * b) := by
  obtain ⟨q, h⟩ := wrap64_q a
  refine (wrap64_congr (q * b) ?_).symm
  conv => lhs; rw [h]
  rw [Int.add_mul, Int.mul_right_comm]
theorem wrap64_sub_r (a b : Int) : wrap64 (a - wrap64 b) = wrap64 (a - b) := by
  obtain ⟨q, h⟩ := wrap64_q b
  exact (wrap64_congr (-q) (by omega)).symm
theorem natAbs_tmod_le (a b : Int) : (a.tmod b).natAbs ≤ a.natAbs := by
  rw [Int.natAbs_tmod]; exact Nat.mod_le _ _
theorem rem_eq (a b : Int) (h0 : -4611686018427387904 ≤ a) (h1 : a ≤ 4611686018427387903) :
    wrap64 (a - wrap64 (wrap64 (a.tdiv b) * b)) = a.tmod b := by
  rw [wrap64_mul_l, wrap64_sub_r]
  have e := Int.tmod_def a b
  have h := natAbs_tmod_le a b
  rw [Int.mul_comm, ← e]
  exact wrap64_self (by omega) (by omega)
theorem tmod_bd (a b : Int) (h0 : -4611686018427387904 ≤ a) (h1 : a ≤ 4611686018427387903) : -4611686018427387904 ≤ a.tmod b ∧ a.tmod b ≤ 4611686018427387904 := by
  have h := natAbs_tmod_le a b
  omega
theorem wf_i64 {a : Int} (h : (Lit.int .i64 a).wf = true) : -9223372036854775808 ≤ a ∧ a ≤ 9223372036854775807 := by
  simp only [Lit.wf, IntKind.min, IntKind.max, IntKind.signed, IntKind.bits, Bool.and_eq_true, decide_eq_true_eq, if_true] at h
  omega
end Go.Proofs.YtgcdbmcoendcdaaGreat

namespace Go.Proofs.YtgcdbmcoendcdaaGreat

def digI (n : Int) : Bool := decide (48 ≤ n) && decide (n ≤ 57)
def lowI (n : Int) : Bool := decide (97 ≤ n) && decide (n ≤ 122)
def uppI (n : Int) : Bool := decide (65 ≤ n) && decide (n ≤ 90)
def worI (n : Int) : Bool := lowI n || uppI n || digI n || n == 95
def clsI (n : Int) : Int := if lowI n then 1 else if uppI n then 2 else if digI n || n == 95 then 3 else 0

theorem cls_zero (n : Int) : (clsI n == 0) = !worI n := by grind [clsI, worI]
theorem cls_one (n : Int) : (clsI n == 1) = lowI n := by grind [clsI]
theorem cls_two (n : Int) : (clsI n == 2) = uppI n := by grind [clsI, lowI, uppI]

def worB (b : UInt8) : Bool := worI (b.toNat : Int)
def lowB (b : UInt8) : Bool := lowI (b.toNat : Int)
def uppB (b : UInt8) : Bool := uppI (b.toNat : Int)
def digB (b : UInt8) : Bool := digI (b.toNat : Int)

def allWor (l : List UInt8) : Bool := l.all worB
def wordM (l : List UInt8) : Bool := allWor l && decide (1 ≤ l.length) && decide (l.length ≤ 12)
def headIs (p : UInt8 → Bool) (l : List UInt8) : Bool := match l with | [] => false | b :: _ => p b
def conM (l : List UInt8) : Bool := wordM l && headIs uppB l

theorem allWor_take_succ (l : List UInt8) (k : Nat) (h : k < l.length) : allWor (l.take (k + 1)) = (allWor (l.take k) && worB l[k]) := by
  unfold allWor
  rw [List.take_succ_eq_append_getElem h, List.all_append, List.all_cons, List.all_nil, Bool.and_true]
theorem allWor_of_take {l : List UInt8} {k : Nat} (h : k = l.length) (ht : allWor (l.take k) = true) : allWor l = true := by
  subst h; simpa using ht
theorem allWor_false {l : List UInt8} {k : Nat} (h : k < l.length) (hw : worB l[k] = false) : allWor l = false := by
  unfold allWor
  rw [List.all_eq_false]
  exact ⟨l[k], List.getElem_mem h, by simp [hw]⟩
theorem bget (s : ByteArray) (k : Nat) (h : k < s.size) : s.data.toList[k]'h = s[k] := rfl
theorem blen (s : ByteArray) : s.data.toList.length = s.size := rfl
theorem allWor_snoc (s : ByteArray) (k : Nat) (h : k < s.size) (ha : allWor (s.data.toList.take k) = true) (hw : worI (s[k].toNat : Int) = true) : allWor (s.data.toList.take (k + 1)) = true := by
  rw [allWor_take_succ _ _ h, ha]; exact hw
theorem allWor_stop (s : ByteArray) (k : Nat) (h : k < s.size) (hw : worI (s[k].toNat : Int) = false) : allWor s.data.toList = false :=
  allWor_false (l := s.data.toList) h hw
theorem allWor_end (s : ByteArray) (k : Nat) (h : k = s.size) (ha : allWor (s.data.toList.take k) = true) : allWor s.data.toList = true :=
  allWor_of_take (l := s.data.toList) h ha
def headCls (f : Int) (l : List UInt8) : Bool := match l with | [] => false | b :: _ => clsI (b.toNat : Int) == f
def spWord (f : Int) (l : List UInt8) : Bool := decide (1 ≤ l.length) && decide (l.length ≤ 12) && headCls f l && allWor l
theorem headCls_list (f : Int) (l : List UInt8) (h : 0 < l.length) : headCls f l = (clsI (l[0].toNat : Int) == f) := by
  cases l with
  | nil => simp at h
  | cons b l => rfl
theorem headCls_at (f : Int) (s : ByteArray) (h : 0 < s.size) : headCls f s.data.toList = (clsI (s[0].toNat : Int) == f) := headCls_list f s.data.toList h
theorem headIs_list (p : UInt8 → Bool) (l : List UInt8) (h : 0 < l.length) : headIs p l = p l[0] := by
  cases l with
  | nil => simp at h
  | cons b l => rfl
theorem headIs_at (p : UInt8 → Bool) (s : ByteArray) (h : 0 < s.size) : headIs p s.data.toList = p s[0] := headIs_list p s.data.toList h
theorem spWord_len {f : Int} {s : ByteArray} (h : ¬ (1 ≤ s.size ∧ s.size ≤ 12)) : spWord f s.data.toList = false := by
  unfold spWord; rw [blen]; grind
theorem spWord_head {f : Int} {s : ByteArray} (h : 0 < s.size) (hc : (clsI (s[0].toNat : Int) != f) = true) : spWord f s.data.toList = false := by
  unfold spWord; rw [headCls_at f s h]; grind
theorem spWord_all {f : Int} {s : ByteArray} (h : 0 < s.size) (h2 : s.size ≤ 12) (hc : (clsI (s[0].toNat : Int) != f) = false) : spWord f s.data.toList = allWor s.data.toList := by
  unfold spWord; rw [headCls_at f s h, blen]; grind
theorem spWord_con (l : List UInt8) : spWord 2 l = conM l := by
  unfold spWord conM wordM
  have : headCls 2 l = headIs uppB l := by cases l <;> simp [headCls, headIs, cls_two, uppB]
  rw [this]; grind
theorem spWord_low (l : List UInt8) : spWord 1 l = (wordM l && headIs lowB l) := by
  unfold spWord wordM
  have : headCls 1 l = headIs lowB l := by cases l <;> simp [headCls, headIs, cls_one, lowB]
  rw [this]; grind
theorem wordM_pos {s : ByteArray} (h : wordM s.data.toList = true) : 0 < s.size := by
  unfold wordM at h; rw [blen] at h; grind
theorem conM_of {s : ByteArray} (h : wordM s.data.toList = true) (h0 : 0 < s.size) : uppI (s[0].toNat : Int) = conM s.data.toList := by
  unfold conM; rw [h, headIs_at _ _ h0]; rfl
theorem conM_not {s : ByteArray} (h : wordM s.data.toList = false) : false = conM s.data.toList := by
  unfold conM; rw [h]; rfl
theorem bytes_ext {a b : ByteArray} (h : a.data.toList = b.data.toList) : a = b := by
  cases a; cases b; simp at h; simp [h]
theorem str_beq (x y : ByteArray) : (x.toList == y.toList) = decide (x = y) := by
  rw [ByteArray.toList_eq, ByteArray.toList_eq, Bool.eq_iff_iff]
  simp only [beq_iff_eq, decide_eq_true_eq]
  exact ⟨bytes_ext, fun h => by rw [h]⟩
theorem str_beq_true {x y : ByteArray} (h : x = y) : (x.toList == y.toList) = true := by rw [str_beq]; simp [h]
theorem str_beq_false {x y : ByteArray} (h : x ≠ y) : (x.toList == y.toList) = false := by rw [str_beq]; simp [h]

def idxOf (x : ByteArray) : List ByteArray → Int
  | [] => -1
  | s :: l => if s = x then 0 else if idxOf x l < 0 then -1 else idxOf x l + 1
theorem idxOf_ge (x : ByteArray) (l : List ByteArray) : -1 ≤ idxOf x l := by
  induction l with
  | nil => simp [idxOf]
  | cons s l ih => simp only [idxOf]; grind
theorem idxOf_at {x : ByteArray} : ∀ {l : List ByteArray} {k : Nat} (_ : k < l.length) (_ : ∀ j, j < k → l[j]? ≠ some x) (_ : l[k]? = some x), idxOf x l = k
  | [], k, h, _, _ => by simp at h
  | s :: l, 0, _, _, h => by simp at h; simp [idxOf, h]
  | s :: l, k + 1, hk, hn, h => by
    have h0 : s ≠ x := by have := hn 0 (by omega); simpa using this
    have ih := idxOf_at (l := l) (k := k) (by simpa using hk) (fun j hj => by have := hn (j + 1) (by omega); simpa using this) (by simpa using h)
    simp only [idxOf, if_neg h0, ih]
    grind
theorem idxOf_none {x : ByteArray} : ∀ {l : List ByteArray} (_ : ∀ j, j < l.length → l[j]? ≠ some x), idxOf x l = -1
  | [], _ => rfl
  | s :: l, h => by
    have h0 : s ≠ x := by have := h 0 (by simp); simpa using this
    have ih := idxOf_none (l := l) (fun j hj => by have := h (j + 1) (by simpa using hj); simpa using this)
    simp only [idxOf, if_neg h0, ih]
    grind
theorem idxOf_mem_iff (x : ByteArray) (l : List ByteArray) : 0 ≤ idxOf x l ↔ x ∈ l := by
  induction l with
  | nil => simp [idxOf]
  | cons s l ih =>
    have h1 := idxOf_ge x l
    rw [List.mem_cons, ← ih]
    by_cases h : s = x
    · have e : idxOf x (s :: l) = 0 := by simp [idxOf, h]
      rw [e]; simp [h]
    · have e : idxOf x (s :: l) = if idxOf x l < 0 then -1 else idxOf x l + 1 := by simp [idxOf, h]
      have hx : ¬ x = s := fun e => h e.symm
      rw [e]; simp only [hx, false_or]
      grind
def inL (x : ByteArray) (l : List ByteArray) : Bool := l.any fun s => decide (s = x)
theorem inL_iff (x : ByteArray) (l : List ByteArray) : inL x l = true ↔ x ∈ l := by
  unfold inL
  rw [List.any_eq_true]
  exact ⟨fun ⟨s, hs, he⟩ => by have := of_decide_eq_true he; exact this ▸ hs, fun h => ⟨x, h, by simp⟩⟩
theorem idxOf_mem (x : ByteArray) (l : List ByteArray) : decide (0 ≤ idxOf x l) = inL x l := by
  rw [Bool.eq_iff_iff, decide_eq_true_eq, inL_iff, idxOf_mem_iff]
end Go.Proofs.YtgcdbmcoendcdaaGreat

namespace Go.Proofs.YtgcdbmcoendcdaaGreat
def kwList : List ByteArray := [⟨#[108, 101, 116]⟩, ⟨#[114, 101, 99]⟩, ⟨#[105, 110]⟩, ⟨#[102, 117, 110]⟩, ⟨#[105, 102]⟩, ⟨#[116, 104, 101, 110]⟩, ⟨#[101, 108, 115, 101]⟩, ⟨#[109, 97, 116, 99, 104]⟩, ⟨#[119, 105, 116, 104]⟩, ⟨#[101, 110, 100]⟩, ⟨#[116, 121, 112, 101]⟩, ⟨#[111, 102]⟩, ⟨#[114, 97, 105, 115, 101]⟩, ⟨#[116, 114, 121]⟩, ⟨#[114, 101, 102]⟩, ⟨#[116, 114, 117, 101]⟩, ⟨#[102, 97, 108, 115, 101]⟩]
def kwCells : List Value := kwList.map Value.string
def nameM (l : ByteArray) : Bool := wordM l.data.toList && headIs lowB l.data.toList && !inL l kwList
end Go.Proofs.YtgcdbmcoendcdaaGreat

namespace Go.Proofs.YtgcdbmcoendcdaaGreat
open Go.RowKit

abbrev Hp := Nat → Option Obj
def Sub (h : Hp) (w : World) : Prop := ∀ b o, h b = some o → w.heap[b]? = some o
def hp (w : World) : Hp := fun b => w.heap[b]?
def HLe (h h' : Hp) : Prop := ∀ b o, h b = some o → h' b = some o
theorem HLe.refl (h : Hp) : HLe h h := fun _ _ e => e
theorem HLe.trans {a b c : Hp} (x : HLe a b) (y : HLe b c) : HLe a c := fun _ _ e => y _ _ (x _ _ e)
theorem Sub.self (w : World) : Sub (hp w) w := fun _ _ h => h
theorem Sub.le {h h' : Hp} {w : World} (s : Sub h' w) (l : HLe h h') : Sub h w := fun b o e => s b o (l b o e)
theorem Sub.hle {h : Hp} {w : World} (s : Sub h w) : HLe h (hp w) := s
theorem Sub.lt {h : Hp} {w : World} (s : Sub h w) {b : Nat} {o : Obj} (e : h b = some o) : b < w.heap.size := by
  have := s b o e
  rcases Nat.lt_or_ge b w.heap.size with hl | hl
  · exact hl
  · rw [Array.getElem?_eq_none hl] at this; cases this
theorem Sub.below {h : Hp} {w w' : World} (s : Sub h w) (k : Below w.heap.size w w') : Sub h w' := fun b o e => by
  rw [k.block b (s.lt e)]; exact s b o e
theorem Sub.alloc {h : Hp} {w : World} (s : Sub h w) (x : Obj) : Sub h (w.alloc x) := s.below ((Below.refl _ _).alloc (Nat.le_refl _) _)
theorem Sub.drew {h : Hp} {w : World} (s : Sub h w) : Sub h w.drew := s
theorem Sub.setCell {h : Hp} {w : World} (s : Sub h w) {p : Addr} (hp : h p.block = none) (v : Value) : Sub h (w.setCell p v) := fun b o e => by
  have : b ≠ p.block := by intro hb; subst hb; rw [hp] at e; cases e
  rw [Below.heap_setCell _ _ _ _ this]; exact s b o e
theorem Sub.none {h : Hp} {w : World} (s : Sub h w) {b : Nat} (hb : w.heap.size ≤ b) : h b = none := by
  cases e : h b with
  | none => rfl
  | some o => have := s.lt e; omega

def CellsAt (h : Hp) (b off : Nat) (vs : List Value) : Prop :=
  ∃ c e fr, h b = some (.cells c e fr) ∧ ∀ i, i < vs.length → c[off + i]? = vs[i]?
theorem CellsAt.le {h h' : Hp} {b off : Nat} {vs : List Value} (x : CellsAt h b off vs) (l : HLe h h') : CellsAt h' b off vs :=
  let ⟨c, e, fr, hb, hc⟩ := x; ⟨c, e, fr, l _ _ hb, hc⟩
theorem CellsAt.cell {h : Hp} {w : World} {b off : Nat} {vs : List Value} (x : CellsAt h b off vs) (s : Sub h w) {i : Nat} (hi : i < vs.length) :
    w.cell? ⟨b, off + i, none⟩ = some vs[i] := by
  obtain ⟨c, e, fr, hb, hc⟩ := x
  have := s _ _ hb
  simp only [World.cell?, this]
  rw [if_neg (by simp), hc i hi, List.getElem?_eq_getElem hi]
theorem CellsAt.lt {h : Hp} {w : World} {b off : Nat} {vs : List Value} (x : CellsAt h b off vs) (s : Sub h w) : b < w.heap.size :=
  let ⟨_, _, _, hb, _⟩ := x; s.lt hb
theorem CellsAt.sub {h : Hp} {b off : Nat} {vs : List Value} (x : CellsAt h b off vs) (k n : Nat) : CellsAt h b (off + k) ((vs.drop k).take n) := by
  obtain ⟨c, e, fr, hb, hc⟩ := x
  refine ⟨c, e, fr, hb, fun i hi => ?_⟩
  have h1 : i < n := by simp at hi; omega
  have h2 : k + i < vs.length := by simp at hi; omega
  rw [List.getElem?_take_of_lt h1, List.getElem?_drop, Nat.add_assoc]
  exact hc (k + i) h2
def Sl (h : Hp) (v : Value) (vs : List Value) : Prop :=
  ∃ a c, v = .slice a vs.length c ∧ vs.length ≤ c ∧ c ≤ maxLen ∧ (vs = [] ∨ ∃ b off, a = some ⟨b, off, none⟩ ∧ CellsAt h b off vs)
theorem Sl.le {h h' : Hp} {v : Value} {vs : List Value} (x : Sl h v vs) (l : HLe h h') : Sl h' v vs :=
  let ⟨a, c, e, h1, h2, r⟩ := x; ⟨a, c, e, h1, h2, r.imp id fun ⟨b, off, ea, hc⟩ => ⟨b, off, ea, hc.le l⟩⟩
theorem addr_add (b off j : Nat) : (⟨b, off, none⟩ : Addr).add j = ⟨b, off + j, none⟩ := by
  unfold Addr.add
  split <;> simp_all
def ext (h : Hp) (B : Nat) (w : World) : Hp := fun b => if b < B then h b else w.heap[b]?
theorem ext_new {h : Hp} {B b : Nat} {w : World} (hb : B ≤ b) : ext h B w b = w.heap[b]? := by unfold ext; rw [if_neg (by omega)]
theorem ext_old {h : Hp} {B b : Nat} {w : World} (hb : b < B) : ext h B w b = h b := by unfold ext; rw [if_pos hb]
structure Live (h : Hp) (B : Nat) (h1 : Hp) (w1 : World) : Prop where
  sub : Sub h1 w1
  old : ∀ b, b < B → h1 b = h b
  le : HLe h h1
theorem Live.start {h : Hp} {w : World} (s : Sub h w) : Live h w.heap.size h w := ⟨s, fun _ _ => rfl, HLe.refl h⟩
theorem Live.call {h h1 : Hp} {B : Nat} {w1 w2 : World} (l : Live h B h1 w1) (hb : Below w1.heap.size w1 w2) (hB : B ≤ w1.heap.size) : Live h B (ext h1 w1.heap.size w2) w2 := by
  have hle : HLe h1 (ext h1 w1.heap.size w2) := fun b o e => by rw [ext_old (l.sub.lt e)]; exact e
  refine ⟨fun b o e => ?_, fun b hb' => by rw [ext_old (by omega)]; exact l.old b hb', l.le.trans hle⟩
  unfold ext at e
  split at e
  · rename_i hlt; rw [hb.block b hlt]; exact l.sub b o e
  · exact e
theorem Live.below {h h1 : Hp} {B : Nat} {w1 w2 : World} (l : Live h B h1 w1) (hb : Below w1.heap.size w1 w2) : Live h B h1 w2 := ⟨l.sub.below hb, l.old, l.le⟩
theorem Live.alloc {h h1 : Hp} {B : Nat} {w1 : World} (l : Live h B h1 w1) (o : Obj) : Live h B h1 (w1.alloc o) := ⟨l.sub.alloc o, l.old, l.le⟩
theorem Live.drew {h h1 : Hp} {B : Nat} {w1 : World} (l : Live h B h1 w1) : Live h B h1 w1.drew := ⟨l.sub, l.old, l.le⟩
theorem Live.setCell {h h1 : Hp} {B : Nat} {w1 : World} (l : Live h B h1 w1) {p : Addr} (hp : h1 p.block = none) (v : Value) : Live h B h1 (w1.setCell p v) := ⟨l.sub.setCell hp v, l.old, l.le⟩
theorem Live.out {h h1 : Hp} {B : Nat} {w1 : World} (l : Live h B h1 w1) : HLe h1 (ext h B w1) := fun b o e => by
  by_cases hb : b < B
  · rw [ext_old hb, ← l.old b hb]; exact e
  · rw [ext_new (by omega)]; exact l.sub b o e
theorem ext_le {h : Hp} {B : Nat} {w w' : World} (s : Sub h w) (hB : w.heap.size ≤ B) : HLe h (ext h B w') := fun b o e => by
  rw [ext_old (by have := s.lt e; omega)]; exact e
theorem new_cell0 (w : World) (x : Value) (t : TypeId) : (w.alloc (.cells #[x] t)).cell? ⟨w.heap.size, 0, none⟩ = some x := by
  have : (w.alloc (.cells #[x] t)).heap[w.heap.size]? = some (.cells #[x] t) := by show (w.heap.push _)[w.heap.size]? = _; simp
  simp only [World.cell?, this]
  rfl
theorem bcell {W w1 : World} (hb : Below W.heap.size W w1) : (∀ b o, b < W.heap.size → w1.cell? ⟨b, o, none⟩ = W.cell? ⟨b, o, none⟩) ∧ (∀ b o, b < W.heap.size → w1.frozen? ⟨b, o, none⟩ = W.frozen? ⟨b, o, none⟩) :=
  ⟨fun b o h => hb.cell (p := ⟨b, o, none⟩) h, fun b o h => hb.frozen (p := ⟨b, o, none⟩) h⟩
theorem below_undrew {w w' : World} (h : Below w.drew.heap.size w.drew w') : Below w.heap.size w w' := ⟨h.os, h.tape, h.output, h.size, h.block⟩
theorem below_chain {B : Nat} {a b c : World} (h : Below b.heap.size b c) (k : Below B a b) (l : B ≤ b.heap.size) : Below B a c := k.trans (h.mono l)
theorem cell_kept {w wx : World} {a : Addr} {v : Value} (hb : Below w.heap.size w wx) (h : w.cell? a = some v) : wx.cell? a = some v :=
  (hb.cell (World.block_lt_of_cell? _ _ h)).trans h
end Go.Proofs.YtgcdbmcoendcdaaGreat

namespace Go.Proofs.YtgcdbmcoendcdaaGreat
theorem step_guard {P : Program} {ops : Array Oper} {o : Oper} {a : Act} {w : World} {K : Act → World → Prop} {Q : Exit → Act → World → Prop} {E : Prop} (hg : o.guard = none) (h : Oper.wp P o a w K Q) :
    if Region.wanted o (yielded ops a.tmps) = true then Oper.wp P o a w K Q else E := by
  rw [if_pos (by simp [Region.wanted, hg])]; exact h
end Go.Proofs.YtgcdbmcoendcdaaGreat

namespace Go.Proofs.YtgcdbmcoendcdaaGreat
set_option linter.unusedVariables false
open Go.RowKit Go.ChangeShapes Go.WideShapes

section
variable {H : Type} {enc : TypeId × Value → H} {P : Program} {W : World} {held : Bool}

abbrev Rd (enc : TypeId × Value → H) (P : Program) (W : World) (fuel : Nat) (t : TypeId) (cs : List Value) (x : DataW H × List MemPlace) : Prop := DataW.trod enc P W 0 (fun _ => true) true fuel t cs = some x

theorem mapM_all {α β : Type} (f : α → Option β) : ∀ (l : List α) (ys : List β), l.mapM f = some ys → ∀ a ∈ l, ∃ y, f a = some y
  | [], _, _, a, ha => by cases ha
  | b :: l, ys, h, a, ha => by
    rw [List.mapM_cons] at h
    cases hb : f b with
    | none => rw [hb] at h; simp at h
    | some y =>
      rw [hb] at h
      cases hl : l.mapM f with
      | none => rw [hl] at h; simp at h
      | some zs =>
        rcases List.mem_cons.1 ha with rfl | ha
        · exact ⟨y, hb⟩
        · exact mapM_all f l zs hl a ha

theorem rd_fields {fuel : Nat} {t : TypeId} {fs : Array Field} {cs : List Value} {x : DataW H × List MemPlace} (hu : P.underlying t = some (.struct fs)) (h : Rd enc P W fuel t cs x) :
    cs.length = P.cellsOf t ∧ ∃ m, ∀ f ∈ fs.toList, ∃ y, Rd enc P W m f.type ((cs.drop f.offset).take (P.cellsOf f.type)) y := by
  cases fuel with
  | zero => simp [Rd, DataW.trod] at h
  | succ n =>
    unfold Rd DataW.trod at h
    rw [hu] at h
    simp only at h
    split at h
    · rename_i hl
      refine ⟨hl, n, fun f hf => ?_⟩
      cases hm : fs.toList.mapM fun f => DataW.trod enc P W 0 (fun _ => true) true n f.type ((cs.drop f.offset).take (P.cellsOf f.type)) with
      | none => rw [hm] at h; simp at h
      | some ys => exact mapM_all _ _ _ hm f hf
    · cases h

theorem cellsAt_of {b off : Nat} {cs : List Value} (hpos : 0 < cs.length) (h : ∀ i, i < cs.length → W.cell? ⟨b, off + i, none⟩ = cs[i]?) : CellsAt (hp W) b off cs := by
  have h0 := h 0 hpos
  rw [List.getElem?_eq_getElem hpos] at h0
  unfold World.cell? at h0
  split at h0
  · rename_i c e fr he
    refine ⟨c, e, fr, he, fun i hi => ?_⟩
    have := h i hi
    simp only [World.cell?, he] at this
    rw [if_neg (by simp)] at this
    exact this
  · cases h0

def SlOf {α : Type} (k : Nat) (R : Hp → List Value → α → Prop) (h : Hp) (v : Value) (xs : List α) : Prop :=
  ∃ a c, v = .slice a xs.length c ∧ xs.length ≤ c ∧ c ≤ maxLen ∧
    (xs = [] ∨ ∃ b off, a = some ⟨b, off, none⟩ ∧ ∀ i (hi : i < xs.length), ∃ r, r.length = k ∧ CellsAt h b (off + i * k) r ∧ R h r xs[i])
theorem SlOf.le {α : Type} {k : Nat} {R : Hp → List Value → α → Prop} {h h' : Hp} {v : Value} {xs : List α} (x : SlOf k R h v xs) (l : HLe h h') (hR : ∀ r x, x ∈ xs → R h r x → R h' r x) : SlOf k R h' v xs :=
  let ⟨a, c, e, h1, h2, r⟩ := x
  ⟨a, c, e, h1, h2, r.imp id fun ⟨b, off, ea, hc⟩ => ⟨b, off, ea, fun i hi => let ⟨r, l1, l2, l3⟩ := hc i hi; ⟨r, l1, l2.le l, hR _ _ (List.getElem_mem hi) l3⟩⟩⟩
theorem SlOf.nil {α : Type} (k : Nat) (R : Hp → List Value → α → Prop) (h : Hp) : SlOf k R h (.slice none 0 0) [] := ⟨none, 0, rfl, Nat.le_refl _, by decide, .inl rfl⟩

theorem list_of_fn {α : Type} {n : Nat} {p : Nat → α → Prop} (h : ∀ i, i < n → ∃ x, p i x) : ∃ xs : List α, xs.length = n ∧ ∀ i (hi : i < xs.length), p i xs[i] := by
  induction n with
  | zero => exact ⟨[], rfl, fun i hi => by simp at hi⟩
  | succ n ih =>
    obtain ⟨xs, hl, hx⟩ := ih (fun i hi => h i (by omega))
    obtain ⟨x, hxn⟩ := h n (by omega)
    refine ⟨xs ++ [x], by simp [hl], fun i hi => ?_⟩
    by_cases e : i < xs.length
    · rw [List.getElem_append_left e]; exact hx i e
    · have : i = n := by simp at hi; omega
      subst this
      rw [List.getElem_append_right (by omega)]
      simpa [hl] using hxn

theorem rd_slice {α : Type} {fuel : Nat} {t e : TypeId} {cs : List Value} {x : DataW H × List MemPlace} (k : Nat) (R : Hp → List Value → α → Prop) (hu : P.underlying t = some (.slice e)) (hk : P.cellsOf e = k) (hk0 : 0 < k)
    (hR : ∀ n cs' y, Rd enc P W n e cs' y → ∃ z, R (hp W) cs' z) (h : Rd enc P W fuel t cs x) : ∃ v xs, cs = [v] ∧ SlOf k R (hp W) v (xs : List α) := by
  rcases Deep.open_slice hu h with ⟨rfl, _⟩ | ⟨a, len, cap, m, n, D, Pl, rfl, -, hl, hm, hmm, -, hel⟩
  · exact ⟨_, [], rfl, SlOf.nil _ _ _⟩
  · have hmm' : m = cap := by simpa using hmm
    subst hmm'
    rw [hk] at hel
    by_cases h0 : len = 0
    · subst h0
      exact ⟨_, [], rfl, some a, m, rfl, Nat.zero_le _, hm, .inl rfl⟩
    · obtain ⟨b, off, spot⟩ := a
      have hspot : spot = none := by
        obtain ⟨cs', h1, _⟩ := hel 0 (by omega)
        obtain ⟨_, h2, h3⟩ := World.cells?_some h1
        have h4 := h3 0 hk0
        rw [List.getElem?_eq_getElem (by omega)] at h4
        have := World.cell?_spot h4
        simpa [Addr.add] using this
      subst hspot
      obtain ⟨xs, hxl, hxs⟩ := list_of_fn (n := len) (p := fun i x => ∃ r, r.length = k ∧ CellsAt (hp W) b (off + i * k) r ∧ R (hp W) r x) (fun i hi => by
        obtain ⟨cs', h1, h2⟩ := hel i (by omega)
        obtain ⟨_, h3, h4⟩ := World.cells?_some h1
        obtain ⟨z, hz⟩ := hR _ _ _ h2
        refine ⟨z, cs', h3, cellsAt_of (by omega) (fun j hj => ?_), hz⟩
        have := h4 j (by omega)
        rw [← this]
        rw [addr_add, addr_add])
      exact ⟨_, xs, rfl, _, m, by rw [hxl], by omega, hm, .inr ⟨b, off, rfl, fun i hi => hxs i hi⟩⟩
end
def I64 (n : Int) : Prop := -9223372036854775808 ≤ n ∧ n ≤ 9223372036854775807
theorem i64_of {z : Int} (hz : (Lit.int .i64 z).wf = true) : I64 z := by
  simp only [Lit.wf, IntKind.min, IntKind.max, IntKind.signed, IntKind.bits, Bool.and_eq_true, decide_eq_true_eq, if_true] at hz
  unfold I64
  omega
end Go.Proofs.YtgcdbmcoendcdaaGreat

namespace Go.Proofs.YtgcdbmcoendcdaaGreat
open Go.RowKit

theorem ret_b {a b : Bool} (h : a = b) : Ending.returned (.bool a) = .returned (.bool b) := by rw [h]
theorem ret_n {k : IntKind} {a b : Int} (h : a = b) : Ending.returned (.int k a) = .returned (.int k b) := by rw [h]

theorem impl_isDigit (w : World) (n : Int) : Calls Tryz.prog 236 #[.int .u8 n] w fun e w' => e = .returned (.bool (digI n)) ∧ w = w' := by
  go_enter Tryz.func236, Tryz.ntmps236
  go_wp2
  all_goals
    go_ret
    exact ⟨ret_b (by grind [digI]), rfl⟩
theorem impl_isLower (w : World) (n : Int) : Calls Tryz.prog 102 #[.int .u8 n] w fun e w' => e = .returned (.bool (lowI n)) ∧ w = w' := by
  go_enter Tryz.func102, Tryz.ntmps102
  go_wp2
  all_goals
    go_ret
    exact ⟨ret_b (by grind [lowI]), rfl⟩
theorem impl_isUpper (w : World) (n : Int) : Calls Tryz.prog 234 #[.int .u8 n] w fun e w' => e = .returned (.bool (uppI n)) ∧ w = w' := by
  go_enter Tryz.func234, Tryz.ntmps234
  go_wp2
  all_goals
    go_ret
    exact ⟨ret_b (by grind [uppI]), rfl⟩
theorem spec_l01Class (w : World) (n : Int) : Calls Tryz.prog 183 #[.int .u8 n] w fun e w' => e = .returned (.int .i64 (clsI n)) ∧ w = w' := by
  go_enter Tryz.func183, Tryz.ntmps183
  go_wp2
  all_goals
    go_ret
    exact ⟨ret_n (by grind [clsI, lowI, uppI, digI]), rfl⟩
theorem impl_isWord (w : World) (n : Int) : Calls Tryz.prog 181 #[.int .u8 n] w fun e w' => e = .returned (.bool (worI n)) ∧ w = w' := by
  go_enter Tryz.func181, Tryz.ntmps181
  go_wp2_with (first | (go_at_call 102; refine (impl_isLower _ _).mono ?_; rintro e w' ⟨rfl, rfl⟩) | (go_at_call 234; refine (impl_isUpper _ _).mono ?_; rintro e w' ⟨rfl, rfl⟩) | (go_at_call 236; refine (impl_isDigit _ _).mono ?_; rintro e w' ⟨rfl, rfl⟩))
  all_goals
    go_ret
    exact ⟨ret_b (by grind [worI]), rfl⟩
theorem impl_within (w : World) (n a b : Int) : Calls Tryz.prog 65 #[.int .i64 n, .int .i64 a, .int .i64 b] w fun e w' => e = .returned (.bool (decide (a ≤ n) && decide (n ≤ b))) ∧ w = w' := by
  go_enter Tryz.func65, Tryz.ntmps65
  go_wp2
  all_goals
    go_ret
    exact ⟨ret_b (by grind), rfl⟩

theorem impl_wordOk (w : World) (s : ByteArray) (hs : s.size ≤ maxLen) : Calls Tryz.prog 101 #[.string s] w fun e w' => e = .returned (.bool (wordM s.data.toList)) ∧ w = w' := by
  unfold maxLen at hs
  go_enter Tryz.func101, Tryz.ntmps101
  go_wp2
  go_loop [6] (fun i => ∃ k : Nat, k ≤ s.size ∧ i = .int .i64 k ∧ allWor (s.data.toList.take k) = true) (fun i => s.size - (intOf i).toNat)
  case atStart => exact ⟨0, Nat.zero_le _, rfl, rfl⟩
  case round =>
    obtain ⟨k, hk, rfl, hall⟩ := hrel
    have HA := Lib.hid hall
    clear hall
    by_cases hlt : k < s.size
    · cases hw : worI (s[k].toNat : Int)
      · have HF := Lib.hid (allWor_stop s k hlt hw)
        go_wp2_with (first | (go_at_call 181; refine (impl_isWord _ _).mono ?_; rintro e w' ⟨rfl, rfl⟩))
        go_ret
        exact ⟨ret_b (by rw [wordM, HF.out]; rfl), rfl⟩
      · have HF := Lib.hid (allWor_snoc s k hlt HA.out hw)
        go_wp2_with (first | (go_at_call 181; refine (impl_isWord _ _).mono ?_; rintro e w' ⟨rfl, rfl⟩))
        go_round
        case rel => exact ⟨k + 1, by omega, by go_num, HF.out⟩
        case measure => simp [intOf]; omega
    · have HF := Lib.hid (allWor_end s k (by omega) HA.out)
      go_wp2_with (first | (go_at_call 65; refine (impl_within _ _ _ _).mono ?_; rintro e w' ⟨rfl, rfl⟩))
      go_ret
      exact ⟨ret_b (by rw [wordM, HF.out, blen]; grind), rfl⟩

theorem spec_l01Word (w : World) (s : ByteArray) (f : Int) (hs : s.size ≤ maxLen) : Calls Tryz.prog 108 #[.string s, .int .i64 f] w fun e w' => e = .returned (.bool (spWord f s.data.toList)) ∧ w = w' := by
  unfold maxLen at hs
  by_cases hl : 1 ≤ s.size ∧ s.size ≤ 12
  · obtain ⟨hl1, hl2⟩ := hl
    have h0 : 0 < s.size := hl1
    cases hc : (clsI (s[0].toNat : Int) != f)
    · have HS := Lib.hid (spWord_all h0 hl2 hc)
      go_enter Tryz.func108, Tryz.ntmps108
      go_wp2_with (first | (go_at_call 183; refine (spec_l01Class _ _).mono ?_; rintro e w' ⟨rfl, rfl⟩))
      go_loop [5] (fun i => ∃ k : Nat, k ≤ s.size ∧ i = .int .i64 k ∧ allWor (s.data.toList.take k) = true) (fun i => s.size - (intOf i).toNat)
      case atStart => exact ⟨0, Nat.zero_le _, rfl, rfl⟩
      case round =>
        obtain ⟨k, hk, rfl, hall⟩ := hrel
        have HA := Lib.hid hall
        clear hall
        by_cases hlt : k < s.size
        · cases hw : worI (s[k].toNat : Int)
          · have HF := Lib.hid (allWor_stop s k hlt hw)
            have hz : (clsI (s[k].toNat : Int) == 0) = true := by rw [cls_zero, hw]; rfl
            go_wp2_with (first | (go_at_call 183; refine (spec_l01Class _ _).mono ?_; rintro e w' ⟨rfl, rfl⟩))
            go_ret
            exact ⟨ret_b (by rw [HS.out, HF.out]), rfl⟩
          · have HF := Lib.hid (allWor_snoc s k hlt HA.out hw)
            have hz : (clsI (s[k].toNat : Int) == 0) = false := by rw [cls_zero, hw]; rfl
            go_wp2_with (first | (go_at_call 183; refine (spec_l01Class _ _).mono ?_; rintro e w' ⟨rfl, rfl⟩))
            go_round
            case rel => exact ⟨k + 1, by omega, by go_num, HF.out⟩
            case measure => simp [intOf]; omega
        · have HF := Lib.hid (allWor_end s k (by omega) HA.out)
          go_wp2
          go_ret
          exact ⟨ret_b (by rw [HS.out, HF.out]), rfl⟩
    · have HS := Lib.hid (spWord_head h0 hc)
      go_enter Tryz.func108, Tryz.ntmps108
      go_wp2_with (first | (go_at_call 183; refine (spec_l01Class _ _).mono ?_; rintro e w' ⟨rfl, rfl⟩))
      go_ret
      exact ⟨ret_b HS.out.symm, rfl⟩
  · have HS := Lib.hid (spWord_len (f := f) hl)
    by_cases hl1 : s.size < 1
    all_goals
      go_enter Tryz.func108, Tryz.ntmps108
      go_wp2
      go_ret
      exact ⟨ret_b HS.out.symm, rfl⟩
theorem spec_ConOk (w : World) (s : ByteArray) (hs : s.size ≤ maxLen) : Calls Tryz.prog 110 #[.string s] w fun e w' => e = .returned (.bool (conM s.data.toList)) ∧ w = w' := by
  go_enter Tryz.func110, Tryz.ntmps110
  go_wp2_with (first | (go_at_call 108; refine (spec_l01Word _ _ _ hs).mono ?_; rintro e w' ⟨rfl, rfl⟩))
  go_ret
  exact ⟨ret_b (spWord_con _), rfl⟩
theorem impl_ConOk (w : World) (s : ByteArray) (hs : s.size ≤ maxLen) : Calls Tryz.prog 179 #[.string s] w fun e w' => e = .returned (.bool (conM s.data.toList)) ∧ w = w' := by
  cases hW : wordM s.data.toList
  · go_enter Tryz.func179, Tryz.ntmps179
    go_wp2_with (first | (go_at_call 101; refine (impl_wordOk _ _ hs).mono ?_; rintro e w' ⟨rfl, rfl⟩))
    go_ret
    exact ⟨ret_b (conM_not hW), rfl⟩
  · have h0 := wordM_pos hW
    go_enter Tryz.func179, Tryz.ntmps179
    go_wp2_with (first | (go_at_call 101; refine (impl_wordOk _ _ hs).mono ?_; rintro e w' ⟨rfl, rfl⟩) | (go_at_call 234; refine (impl_isUpper _ _).mono ?_; rintro e w' ⟨rfl, rfl⟩))
    go_ret
    exact ⟨ret_b (conM_of hW h0), rfl⟩
end Go.Proofs.YtgcdbmcoendcdaaGreat

namespace Go.Proofs.YtgcdbmcoendcdaaGreat
set_option linter.unusedVariables false
open Go.RowKit

abbrev Own (w : World) (B : Nat) (e : TypeId) (k : Nat) (v : Value) (n : Nat) (xs : List Value) : Prop := w.ownsRow B e k v n xs

theorem own_kept {w w' : World} {B C : Nat} {e : TypeId} {k n : Nat} {v : Value} {xs : List Value} (h : Own w B e k v n xs) (hb : Below C w w') (hc : w.heap.size ≤ C) : Own w' B e k v n xs := by
  obtain ⟨h1, h2⟩ := h
  refine ⟨h1, h2.imp id fun ⟨g, cap, cur, ev, hg, hh, r⟩ => ⟨g, cap, cur, ev, hg, ?_, r⟩⟩
  have : g < w.heap.size := by
    rcases Nat.lt_or_ge g w.heap.size with hl | hl
    · exact hl
    · rw [Array.getElem?_eq_none hl] at hh; cases hh
  rw [hb.block g (by omega)]; exact hh
theorem own_len {w : World} {B : Nat} {e : TypeId} {k n : Nat} {v : Value} {xs : List Value} (h : Own w B e k v n xs) : ∃ a c, v = .slice a n c ∧ n ≤ c ∧ c ≤ maxLen := by
  obtain ⟨h1, ⟨ev, h2⟩ | ⟨g, cap, cur, ev, _, _, h3, h4, _⟩⟩ := h
  · exact ⟨none, 0, by rw [ev, h2], by omega, by decide⟩
  · exact ⟨_, _, ev, h3, h4⟩
theorem own_ne_nil {w : World} {B : Nat} {e : TypeId} {k n : Nat} {v : Value} {xs : List Value} (h : Own w B e k v n xs) (hn : 0 < n) : ∃ g c, v = .slice (some ⟨g, 0, none⟩) n c := by
  obtain ⟨h1, ⟨ev, h2⟩ | ⟨g, cap, cur, ev, _⟩⟩ := h
  · omega
  · exact ⟨_, _, ev⟩
theorem own_parts {w : World} {B g n m c : Nat} {e : TypeId} {k : Nat} {xs : List Value} (h : Own w B e k (.slice (some ⟨g, 0, none⟩) m c) n xs) :
    m = n ∧ B ≤ g ∧ xs.length = n * k ∧ (∀ j, j < xs.length → w.cell? ⟨g, j, none⟩ = xs[j]?) ∧ (∀ j, w.frozen? ⟨g, j, none⟩ = false) ∧ g < w.heap.size := by
  obtain ⟨h1, ⟨ev, h2⟩ | ⟨g', cap, cur, ev, hg, hh, hc, hm, hs, ht⟩⟩ := h
  · cases ev
  · injection ev with ev e2 e3
    injection ev with ev
    injection ev with ev
    subst ev
    refine ⟨e2, hg, h1, fun j hj => ?_, fun j => ?_, ?_⟩
    · simp only [World.cell?, hh]
      rw [if_neg (by simp)]
      rw [← Array.getElem?_toList, ← ht, List.getElem?_take_of_lt (by omega)]
    · simp [World.frozen?, hh]
    · rcases Nat.lt_or_ge g w.heap.size with hl | hl
      · exact hl
      · rw [Array.getElem?_eq_none hl] at hh; cases hh
theorem own_set {w : World} {B g n m c : Nat} {e : TypeId} {k : Nat} {xs : List Value} (h : Own w B e k (.slice (some ⟨g, 0, none⟩) m c) n xs) (j : Nat) (u : Value) :
    Own (w.setCell ⟨g, j, none⟩ u) B e k (.slice (some ⟨g, 0, none⟩) m c) n (xs.set j u) := by
  obtain ⟨h1, ⟨ev, h2⟩ | ⟨g', cap, cur, ev, hg, hh, hc, hm, hs, ht⟩⟩ := h
  · cases ev
  · injection ev with ev e2 e3
    injection ev with ev
    injection ev with ev
    subst ev
    refine ⟨by simpa using h1, .inr ⟨g, cap, cur.setIfInBounds j u, by rw [e3, e2], hg, ?_, hc, hm, by simpa using hs, ?_⟩⟩
    · simp only [World.setCell, Array.getElem?_modify, if_true, hh, Option.map_some]
      rw [if_neg (by simp)]
    · rw [Array.toList_setIfInBounds, ← ht, List.take_set]
theorem own_made (w : World) (B : Nat) (hB : B ≤ w.heap.size) (e : TypeId) (k n : Nat) (vals : List Value) (hl : vals.length = n * k) (hn : n ≤ maxLen) :
    Own (w.alloc (.cells vals.toArray e)) B e k (.slice (some ⟨w.heap.size, 0, none⟩) n n) n vals := by
  refine ⟨hl, .inr ⟨w.heap.size, n, vals.toArray, rfl, hB, ?_, Nat.le_refl _, hn, by simpa using hl, by simp [List.take_of_length_le, hl]⟩⟩
  show (w.heap.push _)[w.heap.size]? = _
  simp

theorem own_read {α : Type} {w : World} {B : Nat} {e : TypeId} {k : Nat} {v : Value} (l : List α) (enc : α → List Value) (hk : ∀ x ∈ l, (enc x).length = k) (R : Hp → List Value → α → Prop) (h' : Hp) (hh' : ∀ b, B ≤ b → h' b = w.heap[b]?) (hR : ∀ x ∈ l, R h' (enc x) x)
    (h : Own w B e k v l.length (l.flatMap enc)) : SlOf k R h' v l := by
  obtain ⟨h1, ⟨rfl, h2⟩ | ⟨g, cap, cur, rfl, hg, hh, hc, hm, hs, ht⟩⟩ := h
  · have : l = [] := by simpa using h2
    subst this
    exact SlOf.nil _ _ _
  · refine ⟨_, cap, rfl, hc, hm, .inr ⟨g, 0, rfl, fun i hi => ⟨enc l[i], hk _ (List.getElem_mem hi), ⟨cur, e, (0, 0), (hh' g hg).trans hh, fun j hj => ?_⟩, hR _ (List.getElem_mem hi)⟩⟩⟩
    have hjk : j < k := by rw [hk _ (List.getElem_mem hi)] at hj; exact hj
    have hlt : i * k + j < l.length * k := by
      have : (i + 1) * k ≤ l.length * k := Nat.mul_le_mul_right _ hi
      rw [Nat.add_mul, Nat.one_mul] at this; omega
    rw [Nat.zero_add, ← Array.getElem?_toList, ← List.getElem?_take_of_lt hlt, ht]
    have key : ∀ (l : List α) (i : Nat) (hi : i < l.length), (∀ x ∈ l, (enc x).length = k) → (l.flatMap enc)[i * k + j]? = (enc l[i])[j]? := by
      intro l
      induction l with
      | nil => intro i hi; simp at hi
      | cons x l ih =>
        intro i hi hx
        have hx0 := hx x (by simp)
        rw [List.flatMap_cons]
        cases i with
        | zero =>
          rw [Nat.zero_mul, Nat.zero_add, List.getElem?_append_left (by omega)]; rfl
        | succ i =>
          rw [List.getElem?_append_right (by rw [hx0, Nat.add_mul]; omega), hx0, show (i + 1) * k + j - k = i * k + j by rw [Nat.add_mul]; omega]
          exact ih i (by simpa using hi) (fun y hy => hx y (by simp [hy]))
    exact key l i hi hk

section
variable {t e : TypeId} {z : Value} {k bytes : Nat} (ht : Tryz.prog.underlying t = some (.slice e)) (hinfo : (Tryz.prog.info? e).map (fun i => (i.zero, i.size, i.bytes)) = some (some z, k, bytes)) (hz : z.cells.size = k) (hk : 0 < k)
include ht hinfo hz hk
theorem app_at {ops : Array Oper} {rest : List Oper} {o : Oper} {a : Act} {Q : Exit → Act → World → Prop} (w : World) (hgd : o.guard = none) (s x : Operand)
    (ho : o.op = .call { callee := .builtin .append, args := #[s, x], argTypes := #[t, t] })
    (B : Nat) (v : Value) (n : Nat) (xs : List Value) (hs : a.eval s = v) (hown : Own w B e k v n xs)
    (ad : Addr) (m c : Nat) (news : List Value) (hx : a.eval x = .slice (some ad) m c) (hl : news.length = m * k)
    (hnews : ∀ j u, news[j]? = some u → w.cell? (ad.add j) = some u) (h1 : ∀ u ∈ news, u.oneCell' = true)
    (h63 : n + m ≤ maxLen) (hroom : (n + m) * bytes ≤ 140737488355328) (hbase : B ≤ w.heap.size)
    (h : ∀ v' w', Own w' B e k v' (n + m) (xs ++ news) → Below B w w' → wpList Tryz.prog ops Q rest (a.put o.dst v') w') : wpList Tryz.prog ops Q (o :: rest) a w := by
  obtain ⟨i, hi, hz0, hz1, hz2⟩ := info_parts hinfo
  refine wpList_append_own w hgd s x t ho B e i z k bytes ht hi hz0 hz1 hz2 hz hk v n xs hs hown ad m c news hx hl hnews h1 h63 hroom hbase ?_
  intro v' w' h1 h2 _
  refine h v' w' h1 ((Below.refl B w).grown h2 hbase ?_)
  intro k hk
  exact (World.ownsRow.lt hown k hk).1
theorem app_lit {ops : Array Oper} {rest : List Oper} {o : Oper} {a : Act} {Q : Exit → Act → World → Prop} (w : World) (hgd : o.guard = none) (s x : Operand)
    (ho : o.op = .call { callee := .builtin .append, args := #[s, x], argTypes := #[t, t] })
    (B : Nat) (v : Value) (n : Nat) (xs : List Value) (hs : a.eval s = v) (hown : Own w B e k v n xs)
    (m : Nat) (vals : List Value) (hx : a.eval x = .slice (some ⟨w.heap.size, 0, none⟩) m m) (news : List Value) (hn : vals = news) (hl : news.length = m * k) (h1 : ∀ u ∈ news, u.oneCell' = true)
    (h63 : n + m ≤ maxLen) (hroom : (n + m) * bytes ≤ 140737488355328) (hbase : B ≤ w.heap.size)
    (h : ∀ v' w', Own w' B e k v' (n + m) (xs ++ news) → Below B w w' → wpList Tryz.prog ops Q rest (a.put o.dst v') w') :
    wpList Tryz.prog ops Q (o :: rest) a (w.alloc (.cells vals.toArray e)) := by
  subst hn
  refine app_at ht hinfo hz hk _ hgd s x ho B v n xs hs (World.ownsRow.alloc hown _) ⟨w.heap.size, 0, none⟩ m m vals hx hl (fun j u hj => ?_) h1 h63 hroom ?_ ?_
  · rw [addr_add]
    simp only [World.cell?]
    have : (w.alloc (.cells vals.toArray e)).heap[w.heap.size]? = some (.cells vals.toArray e) := by show (w.heap.push _)[w.heap.size]? = _; simp
    rw [this]
    simpa using hj
  · have : (w.alloc (.cells vals.toArray e)).heap.size = w.heap.size + 1 := by simp
    omega
  · intro v' w' h1 h2
    exact h v' w' h1 (((Below.refl B w).alloc hbase _).trans h2)
omit hz hk in
theorem make_n {ops : Array Oper} {rest : List Oper} {o : Oper} {a : Act} {Q : Exit → Act → World → Prop} (w : World) (hgd : o.guard = none) (l c : Operand)
    (hop : o.op = Op.makeSlice t l c) (B : Nat) (L C : Int) (n : Nat) (hl : a.eval l = .int .i64 L) (hc : a.eval c = .int .i64 C) (hL : L = (n : Int)) (hC : C = (n : Int)) (b2 : bytes * n ≤ 281474976710656) (b3 : n ≤ maxLen) (b4 : B ≤ w.heap.size)
    (h : ∀ w', Own w' B e k (.slice (some ⟨w.heap.size, 0, none⟩) n n) n (madeCells z.cells (n * k)).toList → Below w.heap.size w w' → wpList Tryz.prog ops Q rest (a.put o.dst (.slice (some ⟨w.heap.size, 0, none⟩) n n)) w') : wpList Tryz.prog ops Q (o :: rest) a w := by
  obtain ⟨i, hi, hz0, hz1, hz2⟩ := info_parts hinfo
  refine wpList_make_full w hgd l c t hop B e i z k ht hi hz0 hz1 .i64 .i64 L C n hl hc hL hC (by rw [hz2]; exact b2) b3 b4 ?_
  intro w' h1 h2
  exact h w' h1 ((Below.refl w.heap.size w).grown h2 (Nat.le_refl _) (fun k hk => by cases hk))
end
end Go.Proofs.YtgcdbmcoendcdaaGreat

namespace Go.Proofs.YtgcdbmcoendcdaaGreat
open Go.RowKit

theorem slices_Index_string_string_ (w : World) (h : Hp) (hs : Sub h w) (v : Value) (ss : List ByteArray) (x : ByteArray) (hv : Sl h v (ss.map Value.string)) : Calls Tryz.prog 182 #[v, .string x] w fun e w' => e = .returned (.int .i64 (idxOf x ss)) ∧ w = w' := by
  obtain ⟨a, c, rfl, h1, h2, hr⟩ := hv
  unfold maxLen at h2
  rw [List.length_map] at *
  go_enter Tryz.func182, Tryz.ntmps182
  go_wp2
  go_loop [8] (fun i => ∃ k : Nat, k ≤ ss.length ∧ i = .int .i64 k ∧ (∀ j, j < k → ss[j]? ≠ some x)) (fun i => ss.length - (intOf i).toNat)
  case atStart => exact ⟨0, Nat.zero_le _, rfl, by omega⟩
  case round =>
    obtain ⟨k, hk, rfl, hall⟩ := hrel
    have HA := Lib.hid hall
    clear hall
    by_cases hlt : k < ss.length
    · rcases hr with hr | ⟨b, off, rfl, hc⟩
      · have : ss = [] := by simpa using hr
        subst this
        simp at hlt
      · have hcell : w.cell? ⟨b, off + k, none⟩ = some (.string ss[k]) := by
          have := hc.cell hs (i := k) (by simpa using hlt)
          simpa using this
        by_cases hx : x = ss[k]
        · have hb := str_beq_true hx
          have HF := Lib.hid (idxOf_at hlt HA.out (by rw [List.getElem?_eq_getElem hlt, ← hx]))
          clear hx
          go_wp2
          go_ret
          exact ⟨ret_n HF.out.symm, rfl⟩
        · have hb := str_beq_false hx
          have HF := Lib.hid hx
          clear hx
          go_wp2
          go_round
          case rel =>
            refine ⟨k + 1, by omega, by go_num, fun j hj => ?_⟩
            by_cases e : j = k
            · subst e; rw [List.getElem?_eq_getElem hlt]; exact fun e => HF.out (Option.some.inj e).symm
            · exact HA.out j (by omega)
          case measure => simp [intOf]; omega
    · have HF := Lib.hid (idxOf_none (x := x) (l := ss) (fun j hj => HA.out j (by omega)))
      go_wp2
      go_ret
      exact ⟨ret_n HF.out.symm, rfl⟩
theorem slices_Contains_string_string_ (w : World) (h : Hp) (hs : Sub h w) (v : Value) (ss : List ByteArray) (x : ByteArray) (hv : Sl h v (ss.map Value.string)) : Calls Tryz.prog 103 #[v, .string x] w fun e w' => e = .returned (.bool (inL x ss)) ∧ w = w' := by
  go_enter Tryz.func103, Tryz.ntmps103
  go_wp2_with (first | (go_at_call 182; refine (slices_Index_string_string_ _ h hs v ss x hv).mono ?_; rintro e w' ⟨rfl, rfl⟩))
  go_ret
  exact ⟨ret_b (idxOf_mem _ _), rfl⟩
theorem impl_keywords (w : World) : Calls Tryz.prog 104 #[] w fun e w' => e = .returned (.slice (some ⟨w.heap.size, 0, none⟩) 17 17) ∧ w.alloc (.cells kwCells.toArray 9) = w' := by
  go_enter Tryz.func104, Tryz.ntmps104
  go_wp2
  go_ret
  exact ⟨rfl, rfl⟩
theorem Sl_new (w : World) (vs : List Value) (e : TypeId) (h1 : vs.length ≤ maxLen) : Sl (hp (w.alloc (.cells vs.toArray e))) (.slice (some ⟨w.heap.size, 0, none⟩) vs.length vs.length) vs := by
  refine ⟨_, _, rfl, Nat.le_refl _, h1, .inr ⟨_, _, rfl, vs.toArray, e, (0, 0), ?_, fun i hi => ?_⟩⟩
  · show (w.heap.push _)[w.heap.size]? = _
    simp
  · simp
theorem impl_NameOk (w : World) (s : ByteArray) (hs : s.size ≤ maxLen) : Calls Tryz.prog 43 #[.string s] w fun e w' => e = .returned (.bool (nameM s)) ∧ Below w.heap.size w w' := by
  cases hW : wordM s.data.toList
  · go_enter Tryz.func43, Tryz.ntmps43
    go_wp2_with (first | (go_at_call 101; refine (impl_wordOk _ _ hs).mono ?_; rintro e w' ⟨rfl, rfl⟩))
    go_ret
    exact ⟨ret_b (by rw [nameM, hW]; rfl), Below.refl _ _⟩
  · have h0 := wordM_pos hW
    cases hL : lowI (s[0].toNat : Int)
    · go_enter Tryz.func43, Tryz.ntmps43
      go_wp2_with (first | (go_at_call 101; refine (impl_wordOk _ _ hs).mono ?_; rintro e w' ⟨rfl, rfl⟩) | (go_at_call 102; refine (impl_isLower _ _).mono ?_; rintro e w' ⟨rfl, rfl⟩))
      go_ret
      exact ⟨ret_b (by rw [nameM, hW, headIs_at _ _ h0, lowB, hL]; rfl), Below.refl _ _⟩
    · go_enter Tryz.func43, Tryz.ntmps43
      go_wp2_with (first | (go_at_call 101; refine (impl_wordOk _ _ hs).mono ?_; rintro e w' ⟨rfl, rfl⟩) | (go_at_call 102; refine (impl_isLower _ _).mono ?_; rintro e w' ⟨rfl, rfl⟩) | (go_at_call 104; refine (impl_keywords _).mono ?_; rintro e w' ⟨rfl, rfl⟩) | (go_at_call 103; refine (slices_Contains_string_string_ _ _ (Sub.self _) _ kwList s (Sl_new _ kwCells _ (by unfold maxLen; decide))).mono ?_; rintro e w' ⟨rfl, rfl⟩))
      go_ret
      exact ⟨ret_b (by rw [nameM, hW, headIs_at _ _ h0, lowB, hL]; rfl), (Below.refl _ _).alloc (Nat.le_refl _) _⟩
theorem inL_at {x : ByteArray} {l : List ByteArray} {k : Nat} (h : k < l.length) (e : x = l[k]) : inL x l = true := (inL_iff _ _).2 (e ▸ List.getElem_mem h)
theorem inL_none {x : ByteArray} {l : List ByteArray} (h : ∀ j, j < l.length → l[j]? ≠ some x) : inL x l = false := by
  cases e : inL x l with
  | false => rfl
  | true =>
    obtain ⟨j, hj, ej⟩ := List.getElem_of_mem ((inL_iff _ _).1 e)
    exact absurd (by rw [List.getElem?_eq_getElem hj, ej]) (h j hj)
theorem spec_l01Kept (w : World) (s : ByteArray) : Calls Tryz.prog 109 #[.string s] w fun e w' => e = .returned (.bool (inL s kwList)) ∧ Below w.heap.size w w' := by
  have hS := Sl_new w kwCells 9 (by unfold maxLen; decide)
  obtain ⟨a, c, e1, -, -, hr⟩ := hS
  injection e1 with e1 _ e2
  subst e1
  have HC : ∀ k (h : k < kwList.length) (wr : World), Sub (hp (w.alloc (.cells kwCells.toArray 9))) wr → wr.cell? ⟨w.heap.size, k, none⟩ = some (.string kwList[k]) := by
    intro k h wr hw
    rcases hr with hr | ⟨b, off, e, hc⟩
    · simp [kwCells, kwList] at hr
    · injection e with e; injection e with eb eo _; subst eb; subst eo
      have := hc.cell hw (i := k) (by simpa [kwCells] using h)
      simpa [kwCells] using this
  clear hr
  have HC := Lib.hid HC
  go_enter Tryz.func109, Tryz.ntmps109
  go_wp2
  go_loopw [7] (fun i wr => ∃ k : Nat, k ≤ 17 ∧ i = .int .i64 k ∧ (∀ j, j < k → kwList[j]? ≠ some s) ∧ Sub (hp (w.alloc (.cells kwCells.toArray 9))) wr ∧ Below w.heap.size w wr) (fun i _ => 17 - (intOf i).toNat)
  case atStart => exact ⟨0, Nat.zero_le _, rfl, by omega, Sub.self _, (Below.refl _ _).alloc (Nat.le_refl _) _⟩
  case round =>
    obtain ⟨k, hk, rfl, hall, hsub, hbel⟩ := hrel
    have HA := Lib.hid hall
    clear hall
    by_cases hlt : k < 17
    · have hcell := HC.out k hlt _ hsub
      generalize hq : kwList[k]'hlt = q at hcell
      by_cases hx : s = q
      · have hb := str_beq_true hx
        have HF := Lib.hid (inL_at (x := s) (l := kwList) hlt (by rw [hx, ← hq]))
        clear hx hq
        go_wp2
        go_ret
        exact ⟨ret_b HF.out.symm, hbel⟩
      · have hb := str_beq_false hx
        have HF := Lib.hid hx
        have HQ := Lib.hid hq
        clear hx hq
        go_wp2
        go_roundw
        case rel =>
          refine ⟨k + 1, by omega, by go_num, fun j hj => ?_, hsub, hbel⟩
          by_cases e : j = k
          · subst e; rw [List.getElem?_eq_getElem hlt, HQ.out]; exact fun e => HF.out (Option.some.inj e).symm
          · exact HA.out j (by omega)
        case measure => simp [intOf]; omega
    · have HF := Lib.hid (inL_none (x := s) (l := kwList) (fun j hj => HA.out j (by have : kwList.length = 17 := rfl; omega)))
      go_wp2
      go_ret
      exact ⟨ret_b HF.out.symm, hbel⟩
theorem spec_NameOk (w : World) (s : ByteArray) (hs : s.size ≤ maxLen) : Calls Tryz.prog 47 #[.string s] w fun e w' => e = .returned (.bool (nameM s)) ∧ Below w.heap.size w w' := by
  cases hW : spWord 1 s.data.toList
  · go_enter Tryz.func47, Tryz.ntmps47
    go_wp2_with (first | (go_at_call 108; refine (spec_l01Word _ _ _ hs).mono ?_; rintro e w' ⟨rfl, rfl⟩))
    go_ret
    exact ⟨ret_b (by rw [nameM, ← spWord_low, hW]; rfl), Below.refl _ _⟩
  · go_enter Tryz.func47, Tryz.ntmps47
    go_wp2_with (first | (go_at_call 108; refine (spec_l01Word _ _ _ hs).mono ?_; rintro e w' ⟨rfl, rfl⟩) | (go_at_call 109; refine (spec_l01Kept _ _).mono ?_; rintro e w1 ⟨rfl, hb⟩))
    go_ret
    exact ⟨ret_b (by rw [nameM, ← spWord_low, hW]; rfl), hb⟩
end Go.Proofs.YtgcdbmcoendcdaaGreat
