import Derived.Test.YthkgncddilkmbaaHPat
import Derived.Test.YthkgncddilkmbaaOrd
import Derived.Test.YthkgncddilkmbaaBase
/- Right patterns, plain. -/
namespace Go.Proofs.Ythkgncddilkmbaa
set_option linter.unusedVariables false
set_option linter.unusedSimpArgs false
open Go.RowKit
def shapeM (s : ByteArray) (k : Nat) (pair : Bool) : Bool :=
  if s.toList == [116, 114, 117, 101] || s.toList == [102, 97, 108, 115, 101] || s.toList == [91, 93] then (k : Int) == 0
  else if s.toList == [58, 58] then ((k : Int) == 1) && pair
  else conM s.data.toList && decide ((k : Int) ≤ 1)
abbrev kidsP (xs : List DPNode) : List (List Int) := xs.map fun x => x.kids
theorem kidsP_len (xs : List DPNode) : (kidsP xs).length = xs.length := List.length_map ..
theorem kidsP_at (xs : List DPNode) (k : Nat) (h : k < xs.length) : (kidsP xs)[k]'(by simpa using h) = xs[k].kids := by simp
/-- the only child is a pair. -/
def pairP (xs : List DPNode) (l : List Int) : Bool := match l with
  | [k] => decide (0 ≤ k) && decide (k < xs.length) && (match xs[k.toNat]? with | some x => x.kind == 5 | none => false)
  | _ => false
theorem pairP_no (xs : List DPNode) (l : List Int) (h : ¬ l.length = 1) : pairP xs l = false := by
  unfold pairP
  split
  · simp at h
  · rfl
theorem pairP_at (xs : List DPNode) (l : List Int) (h : l.length = 1) (k : Nat) (hk : k < xs.length) (hl : l[0]'(by omega) = (k : Int)) : pairP xs l = (xs[k].kind == 5) := by
  match l, h with
  | [z], _ =>
    have hz : z = (k : Int) := hl
    subst hz
    have e : pairP xs [(k : Int)] = (decide (0 ≤ (k : Int)) && decide ((k : Int) < xs.length) && (match xs[(k : Int).toNat]? with | some x => x.kind == 5 | none => false)) := rfl
    rw [e, decide_eq_true (by omega), decide_eq_true (by omega), Int.toNat_natCast, List.getElem?_eq_getElem hk]
    rfl
theorem pairP_out (xs : List DPNode) (l : List Int) (h : l.length = 1) (hl : l[0]'(by omega) < 0 ∨ (xs.length : Int) ≤ l[0]'(by omega)) : pairP xs l = false := by
  match l, h with
  | [z], _ =>
    have hz : z < 0 ∨ (xs.length : Int) ≤ z := hl
    have e : pairP xs [z] = (decide (0 ≤ z) && decide (z < xs.length) && (match xs[z.toNat]? with | some x => x.kind == 5 | none => false)) := rfl
    rw [e]
    rcases hz with hz | hz
    · rw [decide_eq_false (by omega)]; rfl
    · rw [decide_eq_false (p := z < (xs.length : Int)) (by omega), Bool.and_false]; rfl
def pnodeB (p : Bool) (x : DPNode) : Bool :=
  if x.kind = 3 then ((x.kids.length : Int) == 0) && x.s.toList.isEmpty && (decide (-4611686018427387903 ≤ x.n) && decide (x.n ≤ 4611686018427387903))
  else if x.kind = 2 then ((x.kids.length : Int) == 0) && (x.n == 0) && nameM x.s
  else if x.kind = 6 ∨ x.kind = 1 then ((x.kids.length : Int) == 0) && (x.n == 0) && x.s.toList.isEmpty
  else if x.kind = 5 then ((x.kids.length : Int) == 2) && (x.n == 0) && x.s.toList.isEmpty
  else if x.kind = 4 then (x.n == 0) && shapeM x.s x.kids.length p
  else false
def pnodeM (xs : List DPNode) (x : DPNode) : Bool := pnodeB (pairP xs x.kids) x
def dupB (y x : DPNode) : Bool := (x.kind == 2) && ((y.kind == 2) && decide (y.s = x.s))
def goodAt (xs : List DPNode) (i : Nat) (h : i < xs.length) : Bool := pnodeM xs xs[i] && (xs.take i).all fun y => !dupB y xs[i]
def patM (xs : List DPNode) : Bool := decide (1 ≤ xs.length) && decide (xs.length ≤ 600) && (List.finRange xs.length).all (fun i => goodAt xs i.1 i.2) && orderM (kidsP xs)
theorem fin_all {n : Nat} {p : Fin n → Bool} : (List.finRange n).all p = true ↔ ∀ i, p i = true := by simp [List.all_eq_true]
theorem patM_bad {xs : List DPNode} {k : Nat} (h : k < xs.length) (hb : goodAt xs k h = false) : patM xs = false := by
  have : (List.finRange xs.length).all (fun i => goodAt xs i.1 i.2) = false := by
    rw [List.all_eq_false]
    exact ⟨⟨k, h⟩, List.mem_finRange _, by simp [hb]⟩
  unfold patM
  rw [this, Bool.and_false, Bool.false_and]
theorem good_false1 {xs : List DPNode} {k : Nat} (h : k < xs.length) (hb : pnodeM xs xs[k] = false) : goodAt xs k h = false := by unfold goodAt; rw [hb]; rfl
theorem good_false2 {xs : List DPNode} {k j : Nat} (h : k < xs.length) (hj : j < k) (hb : dupB (xs[j]'(by omega)) xs[k] = true) : goodAt xs k h = false := by
  unfold goodAt
  have : ((xs.take k).all fun y => !dupB y xs[k]) = false := by
    rw [List.all_eq_false]
    refine ⟨xs[j]'(by omega), ?_, by rw [hb]; simp⟩
    rw [List.mem_take_iff_getElem]
    exact ⟨j, by omega, rfl⟩
  rw [this, Bool.and_false]
theorem good_true {xs : List DPNode} {k : Nat} (h : k < xs.length) (hb : pnodeM xs xs[k] = true) (hd : ∀ j (hj : j < k), dupB (xs[j]'(by omega)) xs[k] = false) : goodAt xs k h = true := by
  unfold goodAt
  rw [hb, Bool.true_and, List.all_eq_true]
  intro y hy
  rw [List.mem_take_iff_getElem] at hy
  obtain ⟨j, hj, rfl⟩ := hy
  rw [hd j (by omega)]; rfl
theorem good_upto {xs : List DPNode} {k : Nat} (h : ∀ j (hj : j < xs.length), j < k → goodAt xs j hj = true) (hlt : k < xs.length) (hk : goodAt xs k hlt = true) : ∀ j (hj : j < xs.length), j < k + 1 → goodAt xs j hj = true := fun j hj hjk => by
  rcases Nat.lt_or_ge j k with q | q
  · exact h j hj q
  · obtain rfl : j = k := by omega
    exact hk
theorem pKids_inP (ks : List (List Int)) (n : Nat) : ∀ (l : List Int) (m e : Nat), pKids (pEnd ks n) l m = some e → ∀ z ∈ l, ∃ q : Nat, z = (q : Int) ∧ q < ks.length
  | [], m, e, h, z, hz => by cases hz
  | k :: l, m, e, h, z, hz => by
    rw [pKids_cons] at h
    cases hc : walkR ks n k m with
    | none => rw [hc] at h; cases h
    | some e1 =>
      rw [hc] at h
      have hb := walkR_bd hc
      rcases List.mem_cons.1 hz with rfl | hz
      · exact ⟨m, hb.1, by omega⟩
      · exact pKids_inP ks n l e1 e h z hz
theorem pEnd_inP (ks : List (List Int)) : ∀ (n m e : Nat), pEnd ks n m = some e → ∀ k (h : k < ks.length), m ≤ k → k < e → ∀ z ∈ ks[k], ∃ q : Nat, z = (q : Int) ∧ q < ks.length
  | 0, m, e, h => by cases h
  | n + 1, m, e, h => by
    intro k hk h1 h2 z hz
    have hm : m < ks.length := by
      rcases Nat.lt_or_ge m ks.length with q | q
      · exact q
      · rw [pEnd_out _ _ _ q] at h; cases h
    rw [pEnd_at _ _ _ hm] at h
    by_cases hkm : k = m
    · subst hkm
      exact pKids_inP ks n _ _ _ h z hz
    · have key : ∀ (l : List Int) (m e : Nat), pKids (pEnd ks n) l m = some e → m ≤ k → k < e → ∃ q : Nat, z = (q : Int) ∧ q < ks.length := by
        intro l
        induction l with
        | nil =>
          intro m e h a b
          have h' : some m = some e := h
          injection h' with h'; omega
        | cons k0 l ih =>
          intro m e h a b
          rw [pKids_cons] at h
          cases hc : walkR ks n k0 m with
          | none => rw [hc] at h; cases h
          | some e1 =>
            rw [hc] at h
            have hb := walkR_bd hc
            by_cases hke : k < e1
            · unfold walkR at hc
              rw [if_pos hb.1] at hc
              exact pEnd_inP ks n m e1 hc k hk a hke z hz
            · exact ih e1 e h (by omega) b
      exact key _ _ _ h (by omega) h2
theorem order_inP {xs : List DPNode} (h : orderM (kidsP xs) = true) (k : Nat) (hk : k < xs.length) (h1 : xs[k].kids.length = 1) : ∃ q : Nat, xs[k].kids[0]'(by omega) = (q : Int) ∧ q < xs.length := by
  unfold orderM at h
  have he : pEnd (kidsP xs) (kidsP xs).length 0 = some (kidsP xs).length := by simpa using h
  have := pEnd_inP (kidsP xs) _ _ _ he k (by rw [kidsP_len]; exact hk) (Nat.zero_le _) (by rw [kidsP_len]; exact hk) (xs[k].kids[0]'(by omega)) (by rw [kidsP_at xs k hk]; exact List.getElem_mem _)
  rw [kidsP_len] at this
  exact this
/-- the names so far. -/
def NamesAt (xs : List DPNode) (k : Nat) (ns : List ByteArray) : Prop := ns.length ≤ k ∧ ∀ s, s ∈ ns ↔ ∃ j, ∃ h : j < xs.length, j < k ∧ xs[j].kind = 2 ∧ xs[j].s = s
theorem NamesAt.zero (xs : List DPNode) : NamesAt xs 0 [] := ⟨Nat.le_refl _, fun s => ⟨fun h => (by cases h), fun ⟨j, _, hj, _⟩ => (by omega)⟩⟩
theorem NamesAt.skip {xs : List DPNode} {k : Nat} {ns : List ByteArray} (h : NamesAt xs k ns) (hk : k < xs.length) (h2 : xs[k].kind ≠ 2) : NamesAt xs (k + 1) ns := by
  refine ⟨by have := h.1; omega, fun s => ?_⟩
  rw [h.2 s]
  constructor
  · rintro ⟨j, hj, a, b⟩
    exact ⟨j, hj, by omega, b⟩
  · rintro ⟨j, hj, a, b, c⟩
    refine ⟨j, hj, ?_, b, c⟩
    rcases Nat.lt_or_ge j k with q | q
    · exact q
    · obtain rfl : j = k := by omega
      exact absurd b h2
theorem NamesAt.add {xs : List DPNode} {k : Nat} {ns : List ByteArray} (h : NamesAt xs k ns) (hk : k < xs.length) (h2 : xs[k].kind = 2) : NamesAt xs (k + 1) (ns ++ [xs[k].s]) := by
  refine ⟨by have := h.1; simp; omega, fun s => ?_⟩
  rw [List.mem_append, h.2 s, List.mem_singleton]
  constructor
  · rintro (⟨j, hj, a, b⟩ | rfl)
    · exact ⟨j, hj, by omega, b⟩
    · exact ⟨k, hk, by omega, h2, rfl⟩
  · rintro ⟨j, hj, a, b, c⟩
    rcases Nat.lt_or_ge j k with q | q
    · exact .inl ⟨j, hj, q, b, c⟩
    · obtain rfl : j = k := by omega
      exact .inr c.symm
theorem NamesAt.dup {xs : List DPNode} {k : Nat} {ns : List ByteArray} (h : NamesAt xs k ns) (hk : k < xs.length) (h2 : xs[k].kind = 2) (hi : inL xs[k].s ns = true) : goodAt xs k hk = false := by
  obtain ⟨j, hj, a, b, c⟩ := (h.2 _).1 ((inL_iff _ _).1 hi)
  exact good_false2 hk a (by unfold dupB; rw [h2, b, decide_eq_true c]; rfl)
theorem NamesAt.none {xs : List DPNode} {k : Nat} {ns : List ByteArray} (h : NamesAt xs k ns) (hk : k < xs.length) (hp : pnodeM xs xs[k] = true) (hi : xs[k].kind = 2 → inL xs[k].s ns = false) : goodAt xs k hk = true := by
  refine good_true hk hp fun j hj => ?_
  unfold dupB
  by_cases h2 : xs[k].kind = 2
  · have hn := hi h2
    by_cases hj2 : (xs[j]'(by omega)).kind = 2
    · by_cases hs : (xs[j]'(by omega)).s = xs[k].s
      · have : inL xs[k].s ns = true := (inL_iff _ _).2 ((h.2 _).2 ⟨j, by omega, hj, hj2, hs⟩)
        rw [this] at hn; cases hn
      · rw [decide_eq_false hs]; simp
    · simp [hj2]
  · simp [h2]
end Go.Proofs.Ythkgncddilkmbaa
