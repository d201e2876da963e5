/- The text of a pattern: plain. -/
import Derived.Test.YtokjkmibnjfkaaaNodePat
import Derived.Test.YtokjkmibnjfkaaaDec
import Derived.Test.YtokjkmibnjfkaaaBytes
namespace Go.Proofs.Ytokjkmibnjfkaaa
set_option linter.unusedVariables false
set_option linter.unusedSimpArgs false
def ptxt (xs : List DPNode) : Nat → Nat → ByteArray
  | 0, _ => ⟨#[]⟩
  | f + 1, m => match xs[m]? with
    | none => ⟨#[]⟩
    | some x =>
      if x.kind = 1 then ⟨#[95]⟩
      else if x.kind = 2 then x.s
      else if x.kind = 3 then bs (numT x.n)
      else if x.kind = 6 then ⟨#[40, 41]⟩
      else if x.kind = 5 then ⟨#[40]⟩ ++ ptxt xs f (x.kids.getD 0 0).toNat ++ ⟨#[44, 32]⟩ ++ ptxt xs f (x.kids.getD 1 0).toNat ++ ⟨#[41]⟩
      else if x.kids.length = 0 then x.s
      else if x.s.toList = [58, 58] then ⟨#[40]⟩ ++ ptxt xs f (((xs.getD (x.kids.getD 0 0).toNat x).kids.getD 0 0).toNat) ++ ⟨#[32, 58, 58, 32]⟩ ++ ptxt xs f (((xs.getD (x.kids.getD 0 0).toNat x).kids.getD 1 0).toNat) ++ ⟨#[41]⟩
      else ⟨#[40]⟩ ++ x.s ++ ⟨#[32]⟩ ++ ptxt xs f (x.kids.getD 0 0).toNat ++ ⟨#[41]⟩
/-- what stands at a place of a right pattern. -/
inductive PView (xs : List DPNode) (f m e : Nat) (x : DPNode) : Prop where
  | wild : x.kind = 1 → PView xs f m e x
  | var : x.kind = 2 → x.s.size ≤ 12 → PView xs f m e x
  | num : x.kind = 3 → PView xs f m e x
  | unit : x.kind = 6 → PView xs f m e x
  | pair (e0 : Nat) : x.kind = 5 → x.kids = [((m + 1 : Nat) : Int), (e0 : Int)] → pEnd (kidsP xs) f (m + 1) = some e0 → pEnd (kidsP xs) f e0 = some e → PView xs f m e x
  | con0 : x.kind = 4 → x.kids = [] → x.s.size ≤ 12 → PView xs f m e x
  | cons (g e0 : Nat) (y : DPNode) : x.kind = 4 → f = g + 1 → x.s.toList = [58, 58] → x.kids = [((m + 1 : Nat) : Int)] → xs[m + 1]? = some y → y.kind = 5 → y.kids = [((m + 2 : Nat) : Int), (e0 : Int)] → pEnd (kidsP xs) g (m + 2) = some e0 → pEnd (kidsP xs) g e0 = some e → PView xs f m e x
  | con1 : x.kind = 4 → ¬ x.s.toList = [58, 58] → x.s.size ≤ 12 → x.kids = [((m + 1 : Nat) : Int)] → pEnd (kidsP xs) f (m + 1) = some e → PView xs f m e x
theorem pEnd_lt {ks : List (List Int)} {n m e : Nat} (h : pEnd ks n m = some e) : m < ks.length := by
  rcases Nat.lt_or_ge m ks.length with q | q
  · exact q
  · rw [pEnd_out ks n m q] at h; cases h
theorem pKids1 {ks : List (List Int)} {f m e : Nat} {a : Int} (h : pKids (pEnd ks f) [a] m = some e) : a = (m : Int) ∧ pEnd ks f m = some e := by
  rw [pKids] at h
  split at h
  · rename_i hm
    refine ⟨hm, ?_⟩
    cases hc : pEnd ks f m with
    | none => rw [hc] at h; cases h
    | some e1 => rw [hc] at h; exact h
  · cases h
theorem pKids2 {ks : List (List Int)} {f m e : Nat} {a b : Int} (h : pKids (pEnd ks f) [a, b] m = some e) : a = (m : Int) ∧ ∃ e0 : Nat, b = (e0 : Int) ∧ pEnd ks f m = some e0 ∧ pEnd ks f e0 = some e := by
  rw [pKids] at h
  split at h
  · rename_i hm
    refine ⟨hm, ?_⟩
    cases hc : pEnd ks f m with
    | none => rw [hc] at h; cases h
    | some e1 =>
      rw [hc] at h
      obtain ⟨h1, h2⟩ := pKids1 (show pKids (pEnd ks f) [b] e1 = some e from h)
      exact ⟨e1, h1, rfl, h2⟩
  · cases h
theorem nil_of_len {α : Type} {l : List α} (h : ((l.length : Nat) : Int) = 0) : l = [] := List.eq_nil_of_length_eq_zero (by omega)
theorem toList_size (s : ByteArray) : s.toList.length = s.size := by rw [ByteArray.toList_eq]; rfl
theorem conM_len {s : ByteArray} (h : conM s.data.toList = true) : s.size ≤ 12 := by
  unfold conM wordM at h
  simp only [Bool.and_eq_true, decide_eq_true_eq] at h
  have : s.size = s.data.toList.length := rfl
  omega
theorem nameM_len12 {s : ByteArray} (h : nameM s = true) : s.size ≤ 12 := by
  unfold nameM wordM at h
  simp only [Bool.and_eq_true, decide_eq_true_eq] at h
  have : s.size = s.data.toList.length := rfl
  omega
theorem kids5 {xs : List DPNode} {y : DPNode} (h : pnodeM xs y = true) (h5 : y.kind = 5) : ∃ a b, y.kids = [a, b] := by
  unfold pnodeM pnodeB at h
  simp only [h5] at h
  simp at h
  have := h.1.1
  match hk : y.kids, this with
  | [a, b], _ => exact ⟨a, b, rfl⟩
  | [], q => simp at q
  | [a], q => simp at q
  | a :: b :: c :: l, q => simp at q; omega
theorem pview {xs : List DPNode} (hg : ∀ k (h : k < xs.length), pnodeM xs xs[k] = true) {f m e : Nat} (h : pEnd (kidsP xs) (f + 1) m = some e) : ∃ hm : m < xs.length, PView xs f m e xs[m] := by
  have hm : m < xs.length := by have := pEnd_lt h; rwa [kidsP_len] at this
  refine ⟨hm, ?_⟩
  have hn := hg m hm
  rw [pEnd_at (kidsP xs) f m (by rw [kidsP_len]; exact hm), kidsP_at xs m hm] at h
  generalize xs[m] = x at hn h
  by_cases h3 : x.kind = 3
  · exact .num h3
  by_cases h2 : x.kind = 2
  · unfold pnodeM pnodeB at hn
    simp only [h2] at hn
    simp at hn
    exact .var h2 (nameM_len12 hn.2)
  by_cases h6 : x.kind = 6
  · exact .unit h6
  by_cases h1 : x.kind = 1
  · exact .wild h1
  by_cases h5 : x.kind = 5
  · obtain ⟨a, b, hk⟩ := kids5 hn h5
    rw [hk] at h
    obtain ⟨q1, e0, q2, q3, q4⟩ := pKids2 h
    exact .pair e0 h5 (by rw [hk, q1, q2]) q3 q4
  by_cases h4 : x.kind = 4
  · unfold pnodeM pnodeB at hn
    simp only [h4] at hn
    simp at hn
    have hsh := hn.2
    unfold shapeM at hsh
    have hts := toList_size x.s
    split at hsh
    · rename_i hc
      have h0 : x.kids = [] := nil_of_len (by simpa using hsh)
      refine .con0 h4 h0 ?_
      simp only [Bool.or_eq_true, beq_iff_eq] at hc
      rcases hc with (hc | hc) | hc <;> (rw [hc] at hts; simp at hts; omega)
    · split at hsh
      · rename_i hc
        have hs2 : x.s.toList = [58, 58] := by simpa using hc
        simp only [Bool.and_eq_true, beq_iff_eq] at hsh
        have hl : x.kids.length = 1 := by have := hsh.1; omega
        match hk : x.kids, hl with
        | [a], _ =>
          rw [hk] at h
          obtain ⟨rfl, q2⟩ := pKids1 h
          have hm1 : m + 1 < xs.length := by have := pEnd_lt q2; rwa [kidsP_len] at this
          have hp := hsh.2
          rw [hk, pairP_at xs _ rfl (m + 1) hm1 rfl] at hp
          have hy5 : xs[m + 1].kind = 5 := by simpa using hp
          obtain ⟨a, b, hyk⟩ := kids5 (hg (m + 1) hm1) hy5
          cases f with
          | zero => rw [pEnd] at q2; cases q2
          | succ g =>
            rw [pEnd_at (kidsP xs) g (m + 1) (by rw [kidsP_len]; exact hm1), kidsP_at xs (m + 1) hm1, hyk] at q2
            obtain ⟨z1, e0, z2, z3, z4⟩ := pKids2 q2
            exact .cons g e0 xs[m + 1] h4 rfl hs2 hk (List.getElem?_eq_getElem hm1) hy5 (by rw [hyk, z1, z2]) z3 z4
      · rename_i hc
        simp only [Bool.and_eq_true, decide_eq_true_eq] at hsh
        have hs2 : ¬ x.s.toList = [58, 58] := by simpa using hc
        have h12 := conM_len hsh.1
        have hl : x.kids.length ≤ 1 := by have := hsh.2; omega
        match hk : x.kids, hl with
        | [], _ => exact .con0 h4 hk h12
        | [a], _ =>
          rw [hk] at h
          obtain ⟨rfl, q2⟩ := pKids1 h
          exact .con1 h4 hs2 h12 hk q2
        | a :: b :: l, q => simp at q
  · exfalso
    unfold pnodeM pnodeB at hn
    simp [h1, h2, h3, h4, h5, h6] at hn
theorem ptxt_at {xs : List DPNode} {m : Nat} {x : DPNode} (f : Nat) (h : xs[m]? = some x) : ptxt xs (f + 1) m =
      if x.kind = 1 then ⟨#[95]⟩
      else if x.kind = 2 then x.s
      else if x.kind = 3 then bs (numT x.n)
      else if x.kind = 6 then ⟨#[40, 41]⟩
      else if x.kind = 5 then ⟨#[40]⟩ ++ ptxt xs f (x.kids.getD 0 0).toNat ++ ⟨#[44, 32]⟩ ++ ptxt xs f (x.kids.getD 1 0).toNat ++ ⟨#[41]⟩
      else if x.kids.length = 0 then x.s
      else if x.s.toList = [58, 58] then ⟨#[40]⟩ ++ ptxt xs f (((xs.getD (x.kids.getD 0 0).toNat x).kids.getD 0 0).toNat) ++ ⟨#[32, 58, 58, 32]⟩ ++ ptxt xs f (((xs.getD (x.kids.getD 0 0).toNat x).kids.getD 1 0).toNat) ++ ⟨#[41]⟩
      else ⟨#[40]⟩ ++ x.s ++ ⟨#[32]⟩ ++ ptxt xs f (x.kids.getD 0 0).toNat ++ ⟨#[41]⟩ := by rw [ptxt, h]
theorem pt_wild {xs : List DPNode} {m : Nat} {x : DPNode} (f : Nat) (h : xs[m]? = some x) (k : x.kind = 1) : ptxt xs (f + 1) m = ⟨#[95]⟩ := by rw [ptxt_at f h]; simp [k]
theorem pt_var {xs : List DPNode} {m : Nat} {x : DPNode} (f : Nat) (h : xs[m]? = some x) (k : x.kind = 2) : ptxt xs (f + 1) m = x.s := by rw [ptxt_at f h]; simp [k]
theorem pt_num {xs : List DPNode} {m : Nat} {x : DPNode} (f : Nat) (h : xs[m]? = some x) (k : x.kind = 3) : ptxt xs (f + 1) m = bs (numT x.n) := by rw [ptxt_at f h]; simp [k]
theorem pt_unit {xs : List DPNode} {m : Nat} {x : DPNode} (f : Nat) (h : xs[m]? = some x) (k : x.kind = 6) : ptxt xs (f + 1) m = ⟨#[40, 41]⟩ := by rw [ptxt_at f h]; simp [k]
theorem pt_pair {xs : List DPNode} {m a b : Nat} {x : DPNode} (f : Nat) (h : xs[m]? = some x) (k : x.kind = 5) (hk : x.kids = [(a : Int), (b : Int)]) : ptxt xs (f + 1) m = ⟨#[40]⟩ ++ ptxt xs f a ++ ⟨#[44, 32]⟩ ++ ptxt xs f b ++ ⟨#[41]⟩ := by
  rw [ptxt_at f h]; simp [k, hk]
theorem pt_con0 {xs : List DPNode} {m : Nat} {x : DPNode} (f : Nat) (h : xs[m]? = some x) (k : x.kind = 4) (hk : x.kids = []) : ptxt xs (f + 1) m = x.s := by rw [ptxt_at f h]; simp [k, hk]
theorem pt_con1 {xs : List DPNode} {m a : Nat} {x : DPNode} (f : Nat) (h : xs[m]? = some x) (k : x.kind = 4) (hs : ¬ x.s.toList = [58, 58]) (hk : x.kids = [(a : Int)]) : ptxt xs (f + 1) m = ⟨#[40]⟩ ++ x.s ++ ⟨#[32]⟩ ++ ptxt xs f a ++ ⟨#[41]⟩ := by
  rw [ptxt_at f h]; simp [k, hk, hs]
theorem pt_cons {xs : List DPNode} {m a b c : Nat} {x y : DPNode} (f : Nat) (h : xs[m]? = some x) (k : x.kind = 4) (hs : x.s.toList = [58, 58]) (hk : x.kids = [(a : Int)]) (hy : xs[a]? = some y) (hyk : y.kids = [(b : Int), (c : Int)]) : ptxt xs (f + 1) m = ⟨#[40]⟩ ++ ptxt xs f b ++ ⟨#[32, 58, 58, 32]⟩ ++ ptxt xs f c ++ ⟨#[41]⟩ := by
  have hd : xs.getD a x = y := by rw [List.getD_eq_getElem?_getD, hy]; rfl
  rw [ptxt_at f h]
  simp only [k, hk, hs, List.getD_cons_zero, Int.toNat_natCast, hd, hyk, List.getD_cons_succ]
  simp
theorem ptxt_size (xs : List DPNode) (hg : ∀ k (h : k < xs.length), pnodeM xs xs[k] = true) : ∀ (f' m e : Nat), pEnd (kidsP xs) f' m = some e → ∀ f, f' ≤ f → (ptxt xs f m).size ≤ 64 * (e - m) := by
  intro f'
  induction f' using Nat.strongRecOn with
  | _ f' ih =>
    intro m e h f hf
    have hbd := pEnd_bd _ _ _ _ h
    cases f' with
    | zero => rw [pEnd] at h; cases h
    | succ g =>
      obtain ⟨f, rfl⟩ : ∃ q, f = q + 1 := ⟨f - 1, by omega⟩
      obtain ⟨hm, hv⟩ := pview hg h
      have hx := List.getElem?_eq_getElem hm
      rcases hv with k | ⟨k, hs⟩ | k | k | ⟨e0, k, hk, h1, h2⟩ | ⟨k, hk, hs⟩ | ⟨g', e0, y, k, rfl, hs, hk, hy, -, hyk, h1, h2⟩ | ⟨k, hs, h12, hk, h1⟩
      · rw [pt_wild f hx k]; change 1 ≤ _; omega
      · rw [pt_var f hx k]; omega
      · rw [pt_num f hx k]
        have := numT_len xs[m].n
        have e1 : (bs (numT xs[m].n)).size = (numT xs[m].n).length := by simp [bs, ByteArray.size]
        omega
      · rw [pt_unit f hx k]; change 2 ≤ _; omega
      · rw [pt_pair f hx k hk]
        have i1 := ih g (by omega) _ _ h1 f (by omega)
        have i2 := ih g (by omega) _ _ h2 f (by omega)
        have b1 := pEnd_bd _ _ _ _ h1
        have b2 := pEnd_bd _ _ _ _ h2
        simp only [ByteArray.size_append]
        have z1 : (⟨#[40]⟩ : ByteArray).size = 1 := rfl
        have z2 : (⟨#[44, 32]⟩ : ByteArray).size = 2 := rfl
        have z3 : (⟨#[41]⟩ : ByteArray).size = 1 := rfl
        omega
      · rw [pt_con0 f hx k hk]; omega
      · rw [pt_cons f hx k hs hk hy hyk]
        have i1 := ih g' (by omega) _ _ h1 f (by omega)
        have i2 := ih g' (by omega) _ _ h2 f (by omega)
        have b1 := pEnd_bd _ _ _ _ h1
        have b2 := pEnd_bd _ _ _ _ h2
        simp only [ByteArray.size_append]
        have z1 : (⟨#[40]⟩ : ByteArray).size = 1 := rfl
        have z2 : (⟨#[32, 58, 58, 32]⟩ : ByteArray).size = 4 := rfl
        have z3 : (⟨#[41]⟩ : ByteArray).size = 1 := rfl
        omega
      · rw [pt_con1 f hx k hs hk]
        have i1 := ih g (by omega) _ _ h1 f (by omega)
        have b1 := pEnd_bd _ _ _ _ h1
        simp only [ByteArray.size_append]
        have z1 : (⟨#[40]⟩ : ByteArray).size = 1 := rfl
        have z2 : (⟨#[32]⟩ : ByteArray).size = 1 := rfl
        have z3 : (⟨#[41]⟩ : ByteArray).size = 1 := rfl
        omega
end Go.Proofs.Ytokjkmibnjfkaaa
