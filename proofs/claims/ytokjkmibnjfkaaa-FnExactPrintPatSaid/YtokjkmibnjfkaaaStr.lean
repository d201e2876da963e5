/- Plain words on bytes and words: no program in sight. -/
import Derived.WalkKit
namespace Go.Proofs.Ytokjkmibnjfkaaa

/-- a byte's class: what the tests of both texts ask of it. -/
def digI (n : Int) : Bool := decide (48 ≤ n) && decide (n ≤ 57)
def lowI (n : Int) : Bool := decide (97 ≤ n) && decide (n ≤ 122)
def uppI (n : Int) : Bool := decide (65 ≤ n) && decide (n ≤ 90)
def worI (n : Int) : Bool := lowI n || uppI n || digI n || n == 95
def clsI (n : Int) : Int := if lowI n then 1 else if uppI n then 2 else if digI n || n == 95 then 3 else 0

theorem cls_zero (n : Int) : (clsI n == 0) = !worI n := by grind [clsI, worI]
theorem cls_one (n : Int) : (clsI n == 1) = lowI n := by grind [clsI]
theorem cls_two (n : Int) : (clsI n == 2) = uppI n := by grind [clsI, lowI, uppI]

def worB (b : UInt8) : Bool := worI (b.toNat : Int)
def lowB (b : UInt8) : Bool := lowI (b.toNat : Int)
def uppB (b : UInt8) : Bool := uppI (b.toNat : Int)
def digB (b : UInt8) : Bool := digI (b.toNat : Int)

/-- the first k bytes are bytes of words. -/
def allWor (l : List UInt8) : Bool := l.all worB
def wordM (l : List UInt8) : Bool := allWor l && decide (1 ≤ l.length) && decide (l.length ≤ 12)
def headIs (p : UInt8 → Bool) (l : List UInt8) : Bool := match l with | [] => false | b :: _ => p b
def conM (l : List UInt8) : Bool := wordM l && headIs uppB l

theorem allWor_take_succ (l : List UInt8) (k : Nat) (h : k < l.length) : allWor (l.take (k + 1)) = (allWor (l.take k) && worB l[k]) := by
  unfold allWor
  rw [List.take_succ_eq_append_getElem h, List.all_append, List.all_cons, List.all_nil, Bool.and_true]
theorem allWor_of_take {l : List UInt8} {k : Nat} (h : k = l.length) (ht : allWor (l.take k) = true) : allWor l = true := by
  subst h; simpa using ht
theorem allWor_false {l : List UInt8} {k : Nat} (h : k < l.length) (hw : worB l[k] = false) : allWor l = false := by
  unfold allWor
  rw [List.all_eq_false]
  exact ⟨l[k], List.getElem_mem h, by simp [hw]⟩
theorem bget (s : ByteArray) (k : Nat) (h : k < s.size) : s.data.toList[k]'h = s[k] := rfl
theorem blen (s : ByteArray) : s.data.toList.length = s.size := rfl
theorem allWor_snoc (s : ByteArray) (k : Nat) (h : k < s.size) (ha : allWor (s.data.toList.take k) = true) (hw : worI (s[k].toNat : Int) = true) : allWor (s.data.toList.take (k + 1)) = true := by
  rw [allWor_take_succ _ _ h, ha]; exact hw
theorem allWor_stop (s : ByteArray) (k : Nat) (h : k < s.size) (hw : worI (s[k].toNat : Int) = false) : allWor s.data.toList = false :=
  allWor_false (l := s.data.toList) h hw
theorem allWor_end (s : ByteArray) (k : Nat) (h : k = s.size) (ha : allWor (s.data.toList.take k) = true) : allWor s.data.toList = true :=
  allWor_of_take (l := s.data.toList) h ha
def headCls (f : Int) (l : List UInt8) : Bool := match l with | [] => false | b :: _ => clsI (b.toNat : Int) == f
def spWord (f : Int) (l : List UInt8) : Bool := decide (1 ≤ l.length) && decide (l.length ≤ 12) && headCls f l && allWor l
theorem headCls_list (f : Int) (l : List UInt8) (h : 0 < l.length) : headCls f l = (clsI (l[0].toNat : Int) == f) := by
  cases l with
  | nil => simp at h
  | cons b l => rfl
theorem headCls_at (f : Int) (s : ByteArray) (h : 0 < s.size) : headCls f s.data.toList = (clsI (s[0].toNat : Int) == f) := headCls_list f s.data.toList h
theorem headIs_list (p : UInt8 → Bool) (l : List UInt8) (h : 0 < l.length) : headIs p l = p l[0] := by
  cases l with
  | nil => simp at h
  | cons b l => rfl
theorem headIs_at (p : UInt8 → Bool) (s : ByteArray) (h : 0 < s.size) : headIs p s.data.toList = p s[0] := headIs_list p s.data.toList h
theorem spWord_len {f : Int} {s : ByteArray} (h : ¬ (1 ≤ s.size ∧ s.size ≤ 12)) : spWord f s.data.toList = false := by
  unfold spWord; rw [blen]; grind
theorem spWord_head {f : Int} {s : ByteArray} (h : 0 < s.size) (hc : (clsI (s[0].toNat : Int) != f) = true) : spWord f s.data.toList = false := by
  unfold spWord; rw [headCls_at f s h]; grind
theorem spWord_all {f : Int} {s : ByteArray} (h : 0 < s.size) (h2 : s.size ≤ 12) (hc : (clsI (s[0].toNat : Int) != f) = false) : spWord f s.data.toList = allWor s.data.toList := by
  unfold spWord; rw [headCls_at f s h, blen]; grind
theorem spWord_con (l : List UInt8) : spWord 2 l = conM l := by
  unfold spWord conM wordM
  have : headCls 2 l = headIs uppB l := by cases l <;> simp [headCls, headIs, cls_two, uppB]
  rw [this]; grind
theorem spWord_low (l : List UInt8) : spWord 1 l = (wordM l && headIs lowB l) := by
  unfold spWord wordM
  have : headCls 1 l = headIs lowB l := by cases l <;> simp [headCls, headIs, cls_one, lowB]
  rw [this]; grind
theorem wordM_pos {s : ByteArray} (h : wordM s.data.toList = true) : 0 < s.size := by
  unfold wordM at h; rw [blen] at h; grind
theorem conM_of {s : ByteArray} (h : wordM s.data.toList = true) (h0 : 0 < s.size) : uppI (s[0].toNat : Int) = conM s.data.toList := by
  unfold conM; rw [h, headIs_at _ _ h0]; rfl
theorem conM_not {s : ByteArray} (h : wordM s.data.toList = false) : false = conM s.data.toList := by
  unfold conM; rw [h]; rfl
theorem bytes_ext {a b : ByteArray} (h : a.data.toList = b.data.toList) : a = b := by
  cases a; cases b; simp at h; simp [h]
theorem str_beq (x y : ByteArray) : (x.toList == y.toList) = decide (x = y) := by
  rw [ByteArray.toList_eq, ByteArray.toList_eq, Bool.eq_iff_iff]
  simp only [beq_iff_eq, decide_eq_true_eq]
  exact ⟨bytes_ext, fun h => by rw [h]⟩
theorem str_beq_true {x y : ByteArray} (h : x = y) : (x.toList == y.toList) = true := by rw [str_beq]; simp [h]
theorem str_beq_false {x y : ByteArray} (h : x ≠ y) : (x.toList == y.toList) = false := by rw [str_beq]; simp [h]

/-- the first place of a string in a list, -1 where it isn't. -/
def idxOf (x : ByteArray) : List ByteArray → Int
  | [] => -1
  | s :: l => if s = x then 0 else if idxOf x l < 0 then -1 else idxOf x l + 1
theorem idxOf_ge (x : ByteArray) (l : List ByteArray) : -1 ≤ idxOf x l := by
  induction l with
  | nil => simp [idxOf]
  | cons s l ih => simp only [idxOf]; grind
theorem idxOf_at {x : ByteArray} : ∀ {l : List ByteArray} {k : Nat} (_ : k < l.length) (_ : ∀ j, j < k → l[j]? ≠ some x) (_ : l[k]? = some x), idxOf x l = k
  | [], k, h, _, _ => by simp at h
  | s :: l, 0, _, _, h => by simp at h; simp [idxOf, h]
  | s :: l, k + 1, hk, hn, h => by
    have h0 : s ≠ x := by have := hn 0 (by omega); simpa using this
    have ih := idxOf_at (l := l) (k := k) (by simpa using hk) (fun j hj => by have := hn (j + 1) (by omega); simpa using this) (by simpa using h)
    simp only [idxOf, if_neg h0, ih]
    grind
theorem idxOf_none {x : ByteArray} : ∀ {l : List ByteArray} (_ : ∀ j, j < l.length → l[j]? ≠ some x), idxOf x l = -1
  | [], _ => rfl
  | s :: l, h => by
    have h0 : s ≠ x := by have := h 0 (by simp); simpa using this
    have ih := idxOf_none (l := l) (fun j hj => by have := h (j + 1) (by simpa using hj); simpa using this)
    simp only [idxOf, if_neg h0, ih]
    grind
theorem idxOf_mem_iff (x : ByteArray) (l : List ByteArray) : 0 ≤ idxOf x l ↔ x ∈ l := by
  induction l with
  | nil => simp [idxOf]
  | cons s l ih =>
    have h1 := idxOf_ge x l
    rw [List.mem_cons, ← ih]
    by_cases h : s = x
    · have e : idxOf x (s :: l) = 0 := by simp [idxOf, h]
      rw [e]; simp [h]
    · have e : idxOf x (s :: l) = if idxOf x l < 0 then -1 else idxOf x l + 1 := by simp [idxOf, h]
      have hx : ¬ x = s := fun e => h e.symm
      rw [e]; simp only [hx, false_or]
      grind
/-- a string is in a list. -/
def inL (x : ByteArray) (l : List ByteArray) : Bool := l.any fun s => decide (s = x)
theorem inL_iff (x : ByteArray) (l : List ByteArray) : inL x l = true ↔ x ∈ l := by
  unfold inL
  rw [List.any_eq_true]
  exact ⟨fun ⟨s, hs, he⟩ => by have := of_decide_eq_true he; exact this ▸ hs, fun h => ⟨x, h, by simp⟩⟩
theorem idxOf_mem (x : ByteArray) (l : List ByteArray) : decide (0 ≤ idxOf x l) = inL x l := by
  rw [Bool.eq_iff_iff, decide_eq_true_eq, inL_iff, idxOf_mem_iff]
end Go.Proofs.Ytokjkmibnjfkaaa
