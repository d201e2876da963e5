import Derived.Test.YtahdaknaoogpkaaGreatExB
import Derived.Test.YtahdaknaoogpkaaGreatPxT
import Derived.Test.YtahdaknaoogpkaaGreatQuo
import Derived.Lib.Join
/- The text of an expression's tree: plain. -/
namespace Go.Proofs.YtahdaknaoogpkaaGreat
set_option linter.unusedVariables false
set_option linter.unusedSimpArgs false
open Arb
open Classical in
noncomputable def ptree (xs : List DPNode) : PT := if h : ∃ t : PT, xs = Arb.lay PI.node 0 t ∧ okP t ∧ t.size ≤ 600 then h.choose else .mk ⟨1, 0, ⟨#[]⟩⟩ []
theorem ptree_spec {xs : List DPNode} (h : patM xs = true) : xs = Arb.lay PI.node 0 (ptree xs) ∧ okP (ptree xs) ∧ (ptree xs).size ≤ 600 := by
  have := ptree_of h
  unfold ptree
  rw [dif_pos this]; exact this.choose_spec
noncomputable def ptT (q : MPat) : ByteArray := ptx (ptree q.nodes)
theorem ptT_size {q : MPat} (h : patM q.nodes = true) : (ptT q).size ≤ 38400 := by
  obtain ⟨-, h1, h2⟩ := ptree_spec h
  have := ptx_size _ h1
  unfold ptT; omega
noncomputable def armT (q : MPat) (t : ByteArray) : ByteArray := ptT q ++ ⟨#[32, 45, 62, 32]⟩ ++ t
def joinB (l : List ByteArray) : ByteArray := bs (Lib.join (l.map fun x => x.data.toList) [32, 124, 32])
noncomputable def armsT (qs : List MPat) (ts : List ByteArray) : ByteArray := joinB ((qs.zip ts).map fun p => armT p.1 p.2)
noncomputable def etK (a : EI) (ks : List KT) : ByteArray :=
  if a.kind = 1 then bs (numT a.n)
  else if a.kind = 2 then bs (quoL a.s.data.toList)
  else if a.kind = 3 then a.s
  else if a.kind = 12 then ⟨#[40, 41]⟩
  else if a.kind = 4 then (if ks.length = 0 then a.s
    else if a.s.toList = [58, 58] then ⟨#[40]⟩ ++ (ks.getD 0 default).sub.getD 0 ⟨#[]⟩ ++ ⟨#[32, 58, 58, 32]⟩ ++ (ks.getD 0 default).sub.getD 1 ⟨#[]⟩ ++ ⟨#[41]⟩
    else ⟨#[40]⟩ ++ a.s ++ ⟨#[32]⟩ ++ (ks.getD 0 default).t ++ ⟨#[41]⟩)
  else if a.kind = 5 then ⟨#[40, 102, 117, 110, 32]⟩ ++ a.s ++ ⟨#[32, 45, 62, 32]⟩ ++ (ks.getD 0 default).t ++ ⟨#[41]⟩
  else if a.kind = 6 then (if (ks.getD 0 default).kind = 4 ∧ (ks.getD 0 default).n = 0 then ⟨#[40, 40]⟩ ++ (ks.getD 0 default).t ++ ⟨#[41, 32]⟩ ++ (ks.getD 1 default).t ++ ⟨#[41]⟩ else ⟨#[40]⟩ ++ (ks.getD 0 default).t ++ ⟨#[32]⟩ ++ (ks.getD 1 default).t ++ ⟨#[41]⟩)
  else if a.kind = 7 then ⟨#[40, 108, 101, 116, 32]⟩ ++ a.s ++ ⟨#[32, 61, 32]⟩ ++ (ks.getD 0 default).t ++ ⟨#[32, 105, 110, 32]⟩ ++ (ks.getD 1 default).t ++ ⟨#[41]⟩
  else if a.kind = 8 then ⟨#[40, 108, 101, 116, 32, 114, 101, 99, 32]⟩ ++ a.s ++ ⟨#[32]⟩ ++ (ks.getD 0 default).s ++ ⟨#[32, 61, 32]⟩ ++ (ks.getD 0 default).sub.getD 0 ⟨#[]⟩ ++ ⟨#[32, 105, 110, 32]⟩ ++ (ks.getD 1 default).t ++ ⟨#[41]⟩
  else if a.kind = 9 then ⟨#[40, 105, 102, 32]⟩ ++ (ks.getD 0 default).t ++ ⟨#[32, 116, 104, 101, 110, 32]⟩ ++ (ks.getD 1 default).t ++ ⟨#[32, 101, 108, 115, 101, 32]⟩ ++ (ks.getD 2 default).t ++ ⟨#[41]⟩
  else if a.kind = 10 then ⟨#[40]⟩ ++ (ks.getD 0 default).t ++ ⟨#[32]⟩ ++ a.s ++ ⟨#[32]⟩ ++ (ks.getD 1 default).t ++ ⟨#[41]⟩
  else if a.kind = 11 then ⟨#[40]⟩ ++ (ks.getD 0 default).t ++ ⟨#[44, 32]⟩ ++ (ks.getD 1 default).t ++ ⟨#[41]⟩
  else if a.kind = 14 then ⟨#[40, 114, 97, 105, 115, 101, 32]⟩ ++ (ks.getD 0 default).t ++ ⟨#[41]⟩
  else if a.kind = 15 then ⟨#[40, 116, 114, 121, 32]⟩ ++ (ks.getD 0 default).t ++ ⟨#[32, 119, 105, 116, 104, 32]⟩ ++ a.s ++ ⟨#[32, 45, 62, 32]⟩ ++ (ks.getD 1 default).t ++ ⟨#[32, 101, 110, 100, 41]⟩
  else if a.kind = 16 then ⟨#[40, 114, 101, 102, 32]⟩ ++ (ks.getD 0 default).t ++ ⟨#[41]⟩
  else if a.kind = 17 then ⟨#[40, 33, 32]⟩ ++ (ks.getD 0 default).t ++ ⟨#[41]⟩
  else if a.kind = 18 then ⟨#[40]⟩ ++ (ks.getD 0 default).t ++ ⟨#[32, 58, 61, 32]⟩ ++ (ks.getD 1 default).t ++ ⟨#[41]⟩
  else if a.kind = 19 then ⟨#[40]⟩ ++ (ks.getD 0 default).t ++ ⟨#[59, 32]⟩ ++ (ks.getD 1 default).t ++ ⟨#[41]⟩
  else if a.kind = 13 then ⟨#[40, 109, 97, 116, 99, 104, 32]⟩ ++ (ks.getD 0 default).t ++ ⟨#[32, 119, 105, 116, 104, 32]⟩ ++ armsT a.pats ((ks.drop 1).map fun k => k.t) ++ ⟨#[32, 101, 110, 100, 41]⟩
  else a.s
mutual
noncomputable def ek : ET → KT
  | .mk a l => ⟨a.kind, l.length, a.s, etK a (ekL l), (ekL l).map fun k => k.t⟩
noncomputable def ekL : List ET → List KT
  | [] => []
  | t :: l => ek t :: ekL l
end
noncomputable def etx (t : ET) : ByteArray := (ek t).t
theorem ekL_map (l : List ET) : ekL l = l.map ek := by
  induction l with
  | nil => rfl
  | cons t l ih => rw [ekL, ih]; rfl
theorem ek_mk (a : EI) (l : List ET) : ek (.mk a l) = ⟨a.kind, l.length, a.s, etK a (l.map ek), l.map etx⟩ := by
  rw [ek, ekL_map, List.map_map]; rfl
theorem etx_mk (a : EI) (l : List ET) : etx (.mk a l) = etK a (l.map ek) := by rw [etx, ek_mk]
section
variable {a b : EI} {x y z : ET} {l : List ET}
theorem etx_int (k : a.kind = 1) : etx (.mk a l) = bs (numT a.n) := by rw [etx_mk, etK, if_pos k]
theorem etx_str (k : a.kind = 2) : etx (.mk a l) = bs (quoL a.s.data.toList) := by rw [etx_mk]; unfold etK; simp [k]
theorem etx_var (k : a.kind = 3) : etx (.mk a l) = a.s := by rw [etx_mk]; unfold etK; simp [k]
theorem etx_unit (k : a.kind = 12) : etx (.mk a l) = ⟨#[40, 41]⟩ := by rw [etx_mk]; unfold etK; simp [k]
theorem etx_con0 (k : a.kind = 4) : etx (.mk a []) = a.s := by rw [etx_mk]; unfold etK; simp [k]
theorem etx_cons (k : a.kind = 4) (h : a.s.toList = [58, 58]) : etx (.mk a [.mk b [x, y]]) = ⟨#[40]⟩ ++ etx x ++ ⟨#[32, 58, 58, 32]⟩ ++ etx y ++ ⟨#[41]⟩ := by rw [etx_mk]; unfold etK; simp [k, h, ek_mk]
theorem etx_con1 (k : a.kind = 4) (h : ¬ a.s.toList = [58, 58]) : etx (.mk a [x]) = ⟨#[40]⟩ ++ a.s ++ ⟨#[32]⟩ ++ etx x ++ ⟨#[41]⟩ := by rw [etx_mk]; unfold etK; simp [k, h]; rfl
theorem etx_func (k : a.kind = 5) : etx (.mk a [x]) = ⟨#[40, 102, 117, 110, 32]⟩ ++ a.s ++ ⟨#[32, 45, 62, 32]⟩ ++ etx x ++ ⟨#[41]⟩ := by rw [etx_mk]; unfold etK; simp [k]; rfl
theorem etx_appc (k : a.kind = 6) (h : b.kind = 4) : etx (.mk a [.mk b [], y]) = ⟨#[40, 40]⟩ ++ etx (.mk b []) ++ ⟨#[41, 32]⟩ ++ etx y ++ ⟨#[41]⟩ := by rw [etx_mk]; unfold etK; simp [k, h, ek_mk]; rfl
theorem etx_app (k : a.kind = 6) (h : ¬ (b.kind = 4 ∧ l.length = 0)) : etx (.mk a [.mk b l, y]) = ⟨#[40]⟩ ++ etx (.mk b l) ++ ⟨#[32]⟩ ++ etx y ++ ⟨#[41]⟩ := by
  rw [etx_mk]; unfold etK; simp only [k, Int.reduceEq, if_false, if_true, reduceIte, List.map_cons, List.map_nil, List.getD_cons_zero, List.getD_cons_succ]
  rw [if_neg (by rw [ek_mk]; exact h)]; rfl
theorem etx_let (k : a.kind = 7) : etx (.mk a [x, y]) = ⟨#[40, 108, 101, 116, 32]⟩ ++ a.s ++ ⟨#[32, 61, 32]⟩ ++ etx x ++ ⟨#[32, 105, 110, 32]⟩ ++ etx y ++ ⟨#[41]⟩ := by rw [etx_mk]; unfold etK; simp [k]; rfl
theorem etx_rec (k : a.kind = 8) : etx (.mk a [.mk b [x], y]) = ⟨#[40, 108, 101, 116, 32, 114, 101, 99, 32]⟩ ++ a.s ++ ⟨#[32]⟩ ++ b.s ++ ⟨#[32, 61, 32]⟩ ++ etx x ++ ⟨#[32, 105, 110, 32]⟩ ++ etx y ++ ⟨#[41]⟩ := by rw [etx_mk]; unfold etK; simp [k, ek_mk]; rfl
theorem etx_if (k : a.kind = 9) : etx (.mk a [x, y, z]) = ⟨#[40, 105, 102, 32]⟩ ++ etx x ++ ⟨#[32, 116, 104, 101, 110, 32]⟩ ++ etx y ++ ⟨#[32, 101, 108, 115, 101, 32]⟩ ++ etx z ++ ⟨#[41]⟩ := by rw [etx_mk]; unfold etK; simp [k]; rfl
theorem etx_prim (k : a.kind = 10) : etx (.mk a [x, y]) = ⟨#[40]⟩ ++ etx x ++ ⟨#[32]⟩ ++ a.s ++ ⟨#[32]⟩ ++ etx y ++ ⟨#[41]⟩ := by rw [etx_mk]; unfold etK; simp [k]; rfl
theorem etx_pair (k : a.kind = 11) : etx (.mk a [x, y]) = ⟨#[40]⟩ ++ etx x ++ ⟨#[44, 32]⟩ ++ etx y ++ ⟨#[41]⟩ := by rw [etx_mk]; unfold etK; simp [k]; rfl
theorem etx_raise (k : a.kind = 14) : etx (.mk a [x]) = ⟨#[40, 114, 97, 105, 115, 101, 32]⟩ ++ etx x ++ ⟨#[41]⟩ := by rw [etx_mk]; unfold etK; simp [k]; rfl
theorem etx_try (k : a.kind = 15) : etx (.mk a [x, y]) = ⟨#[40, 116, 114, 121, 32]⟩ ++ etx x ++ ⟨#[32, 119, 105, 116, 104, 32]⟩ ++ a.s ++ ⟨#[32, 45, 62, 32]⟩ ++ etx y ++ ⟨#[32, 101, 110, 100, 41]⟩ := by rw [etx_mk]; unfold etK; simp [k]; rfl
theorem etx_ref (k : a.kind = 16) : etx (.mk a [x]) = ⟨#[40, 114, 101, 102, 32]⟩ ++ etx x ++ ⟨#[41]⟩ := by rw [etx_mk]; unfold etK; simp [k]; rfl
theorem etx_get (k : a.kind = 17) : etx (.mk a [x]) = ⟨#[40, 33, 32]⟩ ++ etx x ++ ⟨#[41]⟩ := by rw [etx_mk]; unfold etK; simp [k]; rfl
theorem etx_set (k : a.kind = 18) : etx (.mk a [x, y]) = ⟨#[40]⟩ ++ etx x ++ ⟨#[32, 58, 61, 32]⟩ ++ etx y ++ ⟨#[41]⟩ := by rw [etx_mk]; unfold etK; simp [k]; rfl
theorem etx_seq (k : a.kind = 19) : etx (.mk a [x, y]) = ⟨#[40]⟩ ++ etx x ++ ⟨#[59, 32]⟩ ++ etx y ++ ⟨#[41]⟩ := by rw [etx_mk]; unfold etK; simp [k]; rfl
theorem etx_mat (k : a.kind = 13) : etx (.mk a (x :: l)) = ⟨#[40, 109, 97, 116, 99, 104, 32]⟩ ++ etx x ++ ⟨#[32, 119, 105, 116, 104, 32]⟩ ++ armsT a.pats (l.map etx) ++ ⟨#[32, 101, 110, 100, 41]⟩ := by
  rw [etx_mk]; unfold etK; simp [k]; rfl
end
def strB (a : EI) (_ : List ET) : Prop := a.s.size ≤ 1048576
theorem joinB_size (l : List ByteArray) : (joinB l).size ≤ 3 * l.length + (l.map fun x => x.size).sum := by
  cases l with
  | nil => simp [joinB, Lib.join_nil, bs_size]
  | cons x r =>
    unfold joinB
    rw [bs_size, List.map_cons, Lib.join_cons, List.length_append, Lib.joinTail_length]
    have e : Lib.lens (r.map fun x => x.data.toList) = (r.map fun x => x.size).sum := by
      unfold Lib.lens; rw [List.map_map]; rfl
    rw [e, List.length_map, List.map_cons, List.sum_cons, List.length_cons]
    have : x.data.toList.length = x.size := rfl
    simp only [List.length_cons, List.length_nil]
    omega
theorem armT_size (q : MPat) (h : patM q.nodes = true) (t : ByteArray) : (armT q t).size ≤ 38404 + t.size := by
  have := ptT_size h
  unfold armT
  simp only [ByteArray.size_append]
  have e : (⟨#[32, 45, 62, 32]⟩ : ByteArray).size = 4 := rfl
  omega
theorem arms_sum : ∀ (qs : List MPat) (l : List ET), (∀ q ∈ qs, patM q.nodes = true) → (∀ t ∈ l, (etx t).size + 40000 ≤ 5000000 * t.size) → qs.length = l.length → 3 * l.length + (((qs.zip (l.map etx)).map fun p => armT p.1 p.2).map fun x => x.size).sum ≤ 5000000 * sizeL l
  | [], [], _, _, _ => by simp
  | q :: qs, t :: l, h1, h2, h3 => by
    have := arms_sum qs l (fun q h => h1 q (List.mem_cons_of_mem _ h)) (fun t h => h2 t (List.mem_cons_of_mem _ h)) (by simpa using h3)
    have a := armT_size q (h1 q (List.mem_cons_self ..)) (etx t)
    have b := h2 t (List.mem_cons_self ..)
    simp only [List.map_cons, List.zip_cons_cons, List.sum_cons, List.length_cons, sizeL_cons]
    omega
theorem armsT_size {qs : List MPat} {l : List ET} (h1 : ∀ q ∈ qs, patM q.nodes = true) (h2 : ∀ t ∈ l, (etx t).size + 40000 ≤ 5000000 * t.size) (h3 : qs.length = l.length) : (armsT qs (l.map etx)).size ≤ 5000000 * sizeL l := by
  have := joinB_size ((qs.zip (l.map etx)).map fun p => armT p.1 p.2)
  have a := arms_sum qs l h1 h2 h3
  unfold armsT
  rw [List.length_map, List.length_zip, List.length_map, h3, Nat.min_self] at this
  omega
theorem etx_size : ∀ t : ET, okT t → All strB t → (etx t).size + 40000 ≤ 5000000 * t.size := fun t => by
  induction t using Arb.indS with
  | h t ih =>
    intro ok hb
    obtain ⟨a, l⟩ := t
    have ok1 := ok.kid
    have hb1 := hb.kid
    have ihk : ∀ t ∈ l, (etx t).size + 40000 ≤ 5000000 * t.size := fun t ht => ih t (size_lt ht) (ok1 t ht) (hb1 t ht)
    have z1 : ∀ a : UInt8, (⟨#[a]⟩ : ByteArray).size = 1 := fun _ => rfl
    have z2 : ∀ a b : UInt8, (⟨#[a, b]⟩ : ByteArray).size = 2 := fun _ _ => rfl
    have z3 : ∀ a b c : UInt8, (⟨#[a, b, c]⟩ : ByteArray).size = 3 := fun _ _ _ => rfl
    have z4 : ∀ a b c d : UInt8, (⟨#[a, b, c, d]⟩ : ByteArray).size = 4 := fun _ _ _ _ => rfl
    have z5 : ∀ a b c d e : UInt8, (⟨#[a, b, c, d, e]⟩ : ByteArray).size = 5 := fun _ _ _ _ _ => rfl
    have z6 : ∀ a b c d e f : UInt8, (⟨#[a, b, c, d, e, f]⟩ : ByteArray).size = 6 := fun _ _ _ _ _ _ => rfl
    have z7 : ∀ a b c d e f g : UInt8, (⟨#[a, b, c, d, e, f, g]⟩ : ByteArray).size = 7 := fun _ _ _ _ _ _ _ => rfl
    have z9 : ∀ a b c d e f g h i : UInt8, (⟨#[a, b, c, d, e, f, g, h, i]⟩ : ByteArray).size = 9 := fun _ _ _ _ _ _ _ _ _ => rfl
    have hs : a.s.size ≤ 1048576 := hb.root
    have V := ok.root
    have v := V.v
    have fin : ∀ {x : ET}, x ∈ l → (etx x).size + 40000 ≤ 5000000 * x.size := fun h => ihk _ h
    cases v with
    | int k e => rw [etx_int k, size_mk, bs_size]; have := numT_len a.n; omega
    | str k e =>
      rw [etx_str k, size_mk, bs_size]
      have := quoL_len a.s.data.toList
      have : a.s.data.toList.length = a.s.size := rfl
      omega
    | var k e => rw [etx_var k, size_mk]; omega
    | unit k e => rw [etx_unit k, size_mk, z2]; omega
    | con0 k e => subst e; rw [etx_con0 k, size_mk]; omega
    | cons b x y k e _ h =>
      subst e
      have h1 := ih x (size_lt2 (r := [x, y]) (by simp) (List.mem_singleton.2 rfl)) ((ok1 (.mk b [x, y]) (by simp)).kid x (by simp)) ((hb1 (.mk b [x, y]) (by simp)).kid x (by simp))
      have h2 := ih y (size_lt2 (r := [x, y]) (by simp) (List.mem_singleton.2 rfl)) ((ok1 (.mk b [x, y]) (by simp)).kid y (by simp)) ((hb1 (.mk b [x, y]) (by simp)).kid y (by simp))
      rw [etx_cons k h]
      simp only [ByteArray.size_append, z1, z4, size_mk, sizeL_cons, sizeL_nil]; omega
    | con1 x k e h =>
      subst e
      have h1 := ihk x (by simp)
      rw [etx_con1 k (conM_ne58 h)]
      simp only [ByteArray.size_append, z1, size_mk, sizeL_cons, sizeL_nil]; omega
    | func x k e =>
      subst e
      have h1 := ihk x (by simp)
      rw [etx_func k]
      simp only [ByteArray.size_append, z1, z4, z5, size_mk, sizeL_cons, sizeL_nil]; omega
    | app x y k e =>
      subst e
      have h1 := ihk x (by simp)
      have h2 := ihk y (by simp)
      obtain ⟨b, r⟩ := x
      by_cases hc : b.kind = 4 ∧ r.length = 0
      · obtain ⟨hc1, hc2⟩ := hc
        obtain rfl := List.eq_nil_of_length_eq_zero hc2
        rw [etx_appc k hc1]
        simp only [ByteArray.size_append, z1, z2, size_mk, sizeL_cons, sizeL_nil] at h1 ⊢; omega
      · rw [etx_app k hc]
        simp only [ByteArray.size_append, z1, size_mk, sizeL_cons, sizeL_nil] at h1 ⊢; omega
    | let_ x y k e =>
      subst e
      have h1 := ihk x (by simp)
      have h2 := ihk y (by simp)
      rw [etx_let k]
      simp only [ByteArray.size_append, z1, z3, z4, z5, size_mk, sizeL_cons, sizeL_nil]; omega
    | rec_ b x y k e =>
      subst e
      have h1 := ih x (size_lt2 (r := [x]) (by simp) (List.mem_cons_self ..)) ((ok1 (.mk b [x]) (by simp)).kid x (by simp)) ((hb1 (.mk b [x]) (by simp)).kid x (by simp))
      have h2 := ihk y (by simp)
      have h3 : b.s.size ≤ 1048576 := (hb1 (.mk b [x]) (by simp)).root
      rw [etx_rec k]
      simp only [ByteArray.size_append, z1, z3, z4, z9, size_mk, sizeL_cons, sizeL_nil]; omega
    | if_ x y z k e =>
      subst e
      have h1 := ihk x (by simp)
      have h2 := ihk y (by simp)
      have h3 := ihk z (by simp)
      rw [etx_if k]
      simp only [ByteArray.size_append, z1, z4, z6, size_mk, sizeL_cons, sizeL_nil]; omega
    | prim x y k e =>
      subst e
      have h1 := ihk x (by simp)
      have h2 := ihk y (by simp)
      rw [etx_prim k]
      simp only [ByteArray.size_append, z1, size_mk, sizeL_cons, sizeL_nil]; omega
    | pair x y k e =>
      subst e
      have h1 := ihk x (by simp)
      have h2 := ihk y (by simp)
      rw [etx_pair k]
      simp only [ByteArray.size_append, z1, z2, size_mk, sizeL_cons, sizeL_nil]; omega
    | mat x r k e h =>
      subst e
      have h1 := ihk x (by simp)
      have h2 := armsT_size V.pm (fun t ht => ihk t (List.mem_cons_of_mem _ ht)) h
      rw [etx_mat k]
      simp only [ByteArray.size_append, z1, z5, z6, z7, size_mk, sizeL_cons, sizeL_nil]; omega
    | raise x k e =>
      subst e
      have h1 := ihk x (by simp)
      rw [etx_raise k]
      simp only [ByteArray.size_append, z1, z7, size_mk, sizeL_cons, sizeL_nil]; omega
    | try_ x y k e =>
      subst e
      have h1 := ihk x (by simp)
      have h2 := ihk y (by simp)
      rw [etx_try k]
      simp only [ByteArray.size_append, z1, z4, z5, z6, size_mk, sizeL_cons, sizeL_nil]; omega
    | ref x k e =>
      subst e
      have h1 := ihk x (by simp)
      rw [etx_ref k]
      simp only [ByteArray.size_append, z1, z5, size_mk, sizeL_cons, sizeL_nil]; omega
    | get x k e =>
      subst e
      have h1 := ihk x (by simp)
      rw [etx_get k]
      simp only [ByteArray.size_append, z1, z3, size_mk, sizeL_cons, sizeL_nil]; omega
    | set x y k e =>
      subst e
      have h1 := ihk x (by simp)
      have h2 := ihk y (by simp)
      rw [etx_set k]
      simp only [ByteArray.size_append, z1, z4, size_mk, sizeL_cons, sizeL_nil]; omega
    | seq x y k e =>
      subst e
      have h1 := ihk x (by simp)
      have h2 := ihk y (by simp)
      rw [etx_seq k]
      simp only [ByteArray.size_append, z1, z2, size_mk, sizeL_cons, sizeL_nil]; omega
end Go.Proofs.YtahdaknaoogpkaaGreat
