import Derived.Test.YtahdaknaoogpkaaGreatPaB
import Derived.Test.YtahdaknaoogpkaaGreatDecB
/- The text of a pattern's tree: plain. -/
namespace Go.Proofs.YtahdaknaoogpkaaGreat
set_option linter.unusedVariables false
set_option linter.unusedSimpArgs false
open Arb
structure KT where
  kind : Int
  n : Nat
  s : ByteArray
  t : ByteArray
  sub : List ByteArray
instance : Inhabited KT := ⟨⟨0, 0, ⟨#[]⟩, ⟨#[]⟩, []⟩⟩
def ptK (a : PI) (ks : List KT) : ByteArray :=
  if a.kind = 1 then ⟨#[95]⟩
  else if a.kind = 2 then a.s
  else if a.kind = 3 then bs (numT a.n)
  else if a.kind = 6 then ⟨#[40, 41]⟩
  else if a.kind = 5 then ⟨#[40]⟩ ++ (ks.getD 0 default).t ++ ⟨#[44, 32]⟩ ++ (ks.getD 1 default).t ++ ⟨#[41]⟩
  else if ks.length = 0 then a.s
  else if a.s.toList = [58, 58] then ⟨#[40]⟩ ++ (ks.getD 0 default).sub.getD 0 ⟨#[]⟩ ++ ⟨#[32, 58, 58, 32]⟩ ++ (ks.getD 0 default).sub.getD 1 ⟨#[]⟩ ++ ⟨#[41]⟩
  else ⟨#[40]⟩ ++ a.s ++ ⟨#[32]⟩ ++ (ks.getD 0 default).t ++ ⟨#[41]⟩
mutual
def pk : PT → KT
  | .mk a l => ⟨a.kind, l.length, a.s, ptK a (pkL l), (pkL l).map fun k => k.t⟩
def pkL : List PT → List KT
  | [] => []
  | t :: l => pk t :: pkL l
end
def ptx (t : PT) : ByteArray := (pk t).t
theorem pkL_map (l : List PT) : pkL l = l.map pk := by
  induction l with
  | nil => rfl
  | cons t l ih => rw [pkL, ih]; rfl
theorem pk_mk (a : PI) (l : List PT) : pk (.mk a l) = ⟨a.kind, l.length, a.s, ptK a (l.map pk), l.map ptx⟩ := by
  rw [pk, pkL_map, List.map_map]; rfl
theorem ptx_mk (a : PI) (l : List PT) : ptx (.mk a l) = ptK a (l.map pk) := by rw [ptx, pk_mk]
section
variable {a b : PI} {x y : PT} {l : List PT}
theorem ptx_wild (k : a.kind = 1) : ptx (.mk a l) = ⟨#[95]⟩ := by rw [ptx_mk, ptK, if_pos k]
theorem ptx_var (k : a.kind = 2) : ptx (.mk a l) = a.s := by rw [ptx_mk, ptK, if_neg (by omega), if_pos k]
theorem ptx_num (k : a.kind = 3) : ptx (.mk a l) = bs (numT a.n) := by rw [ptx_mk, ptK, if_neg (by omega), if_neg (by omega), if_pos k]
theorem ptx_unit (k : a.kind = 6) : ptx (.mk a l) = ⟨#[40, 41]⟩ := by rw [ptx_mk, ptK, if_neg (by omega), if_neg (by omega), if_neg (by omega), if_pos k]
theorem ptx_pair (k : a.kind = 5) : ptx (.mk a [x, y]) = ⟨#[40]⟩ ++ ptx x ++ ⟨#[44, 32]⟩ ++ ptx y ++ ⟨#[41]⟩ := by rw [ptx_mk, ptK, if_neg (by omega), if_neg (by omega), if_neg (by omega), if_neg (by omega), if_pos k]; rfl
theorem ptx_con0 (k : a.kind = 4) : ptx (.mk a []) = a.s := by rw [ptx_mk, ptK, if_neg (by omega), if_neg (by omega), if_neg (by omega), if_neg (by omega), if_neg (by omega)]; rfl
theorem ptx_cons (k : a.kind = 4) (h : a.s.toList = [58, 58]) : ptx (.mk a [.mk b [x, y]]) = ⟨#[40]⟩ ++ ptx x ++ ⟨#[32, 58, 58, 32]⟩ ++ ptx y ++ ⟨#[41]⟩ := by
  rw [ptx_mk, ptK, if_neg (by omega), if_neg (by omega), if_neg (by omega), if_neg (by omega), if_neg (by omega), if_neg (by simp), if_pos h, List.map_cons, List.getD_cons_zero, pk_mk]; rfl
theorem ptx_con1 (k : a.kind = 4) (h : ¬ a.s.toList = [58, 58]) : ptx (.mk a [x]) = ⟨#[40]⟩ ++ a.s ++ ⟨#[32]⟩ ++ ptx x ++ ⟨#[41]⟩ := by
  rw [ptx_mk, ptK, if_neg (by omega), if_neg (by omega), if_neg (by omega), if_neg (by omega), if_neg (by omega), if_neg (by simp), if_neg h]; rfl
end
theorem conM_ne58 {s : ByteArray} (h : conM s.data.toList = true) : ¬ s.toList = [58, 58] := by
  have hd : s.toList = s.data.toList := by rw [ByteArray.toList_eq]
  rw [hd]
  intro q; rw [q] at h; revert h; decide
theorem conM_12 {s : ByteArray} (h : conM s.data.toList = true) : s.size ≤ 12 := by
  unfold conM wordM at h
  simp only [Bool.and_eq_true, decide_eq_true_eq] at h
  have : s.size = s.data.toList.length := rfl
  omega
theorem nameM_12 {s : ByteArray} (h : nameM s = true) : s.size ≤ 12 := by
  unfold nameM wordM at h
  simp only [Bool.and_eq_true, decide_eq_true_eq] at h
  have : s.size = s.data.toList.length := rfl
  omega
theorem shape_12 {s : ByteArray} (h : shapeM s 0 false = true) : s.size ≤ 12 := by
  have hl : s.toList.length = s.size := by rw [ByteArray.toList_eq]; rfl
  unfold shapeM at h
  split at h
  · rename_i hc
    simp only [Bool.or_eq_true, beq_iff_eq] at hc
    rcases hc with (hc | hc) | hc <;> (rw [hc] at hl; simp at hl; omega)
  · split at h
    · simp at h
    · simp only [Bool.and_eq_true] at h; exact conM_12 h.1
theorem ptx_size : ∀ t : PT, okP t → (ptx t).size ≤ 64 * t.size := fun t => by
  induction t using Arb.indS with
  | h t ih =>
    intro ok
    obtain ⟨a, l⟩ := t
    have ok1 := ok.kid
    have ihk : ∀ t ∈ l, (ptx t).size ≤ 64 * t.size := fun t ht => ih t (size_lt ht) (ok1 t ht)
    have z1 : ∀ a : UInt8, (⟨#[a]⟩ : ByteArray).size = 1 := fun _ => rfl
    have z2 : ∀ a b : UInt8, (⟨#[a, b]⟩ : ByteArray).size = 2 := fun _ _ => rfl
    have z4 : ∀ a b c d : UInt8, (⟨#[a, b, c, d]⟩ : ByteArray).size = 4 := fun _ _ _ _ => rfl
    have v := ok.root
    cases v with
    | wild k e => rw [ptx_wild k, z1, size_mk]; omega
    | var k e _ h => rw [ptx_var k, size_mk]; have := nameM_12 h; omega
    | int k e => rw [ptx_num k, size_mk, bs_size]; have := numT_len a.n; omega
    | con0 k e _ h => subst e; rw [ptx_con0 k, size_mk]; have := shape_12 h; omega
    | cons b x y k e _ _ h =>
      subst e
      have h1 := ih x (size_lt2 (r := [x, y]) (by simp) (List.mem_singleton.2 rfl)) ((ok1 (.mk b [x, y]) (by simp)).kid x (by simp))
      have h2 := ih y (size_lt2 (r := [x, y]) (by simp) (List.mem_singleton.2 rfl)) ((ok1 (.mk b [x, y]) (by simp)).kid y (by simp))
      rw [ptx_cons k h]
      simp only [ByteArray.size_append, z1, z4, size_mk, sizeL_cons, sizeL_nil]; omega
    | con1 x k e _ h =>
      subst e
      have h1 := ihk x (by simp)
      have h2 := conM_12 h
      rw [ptx_con1 k (conM_ne58 h)]
      simp only [ByteArray.size_append, z1, size_mk, sizeL_cons, sizeL_nil]; omega
    | pair x y k e =>
      subst e
      have h1 := ihk x (by simp)
      have h2 := ihk y (by simp)
      rw [ptx_pair k]
      simp only [ByteArray.size_append, z1, z2, size_mk, sizeL_cons, sizeL_nil]; omega
    | unit k e => rw [ptx_unit k, z2, size_mk]; omega
end Go.Proofs.YtahdaknaoogpkaaGreat
