import Derived.Test.YtahdaknaoogpkaaGreatGoN
import Derived.Test.YtahdaknaoogpkaaGreatHTyT
import Derived.Test.YtahdaknaoogpkaaGreatPgB
/- The text of a program: the model; the parts of both texts. -/
namespace Go.Proofs.YtahdaknaoogpkaaGreat
set_option linter.unusedVariables false
set_option linter.unusedSimpArgs false
open Go.RowKit Arb
def conT (c : MCon) : ByteArray := if c.has = true then c.name ++ ⟨#[32, 111, 102, 32]⟩ ++ bs (textT c.arg c.arg.length 0) else c.name
def preT (n : Int) : ByteArray := if n = 1 then ⟨#[39, 97, 32]⟩ else if n = 2 then ⟨#[40, 39, 97, 44, 32, 39, 98, 41, 32]⟩ else ⟨#[]⟩
noncomputable def typT (t : MType) : ByteArray := ⟨#[116, 121, 112, 101, 32]⟩ ++ (preT t.params ++ t.name) ++ ⟨#[32, 61, 32]⟩ ++ joinB (t.cons.map conT) ++ ⟨#[59, 32]⟩
noncomputable def outT (ts : List MType) : ByteArray := ts.foldl (fun o t => o ++ typT t) ⟨#[]⟩
theorem outT_succ {ts : List MType} {k : Nat} (h : k < ts.length) : outT (ts.take (k + 1)) = outT (ts.take k) ++ typT ts[k] := by
  unfold outT; rw [List.take_succ_eq_append_getElem h, List.foldl_append]; rfl
theorem conOk_ty {n : Int} {c : MCon} (h : conOkM n c = true) (hb : c.has = true) : tyOkM c.arg = true := by
  unfold conOkM at h; rw [if_pos hb] at h
  simp only [Bool.and_eq_true] at h; exact h.2.1
theorem tyOk_parts {xs : List TyI} (h : tyOkM xs = true) : xs.length ≤ 200 ∧ (∀ x ∈ xs, itemM x = true) ∧ endM xs 0 = xs.length := by
  unfold tyOkM tyItemsM at h
  simp only [Bool.and_eq_true, decide_eq_true_eq, List.all_eq_true] at h
  exact ⟨h.1, h.2.1, h.2.2⟩
theorem conOk_12 {n : Int} {c : MCon} (h : conOkM n c = true) : c.name.size ≤ 12 := by
  unfold conOkM at h
  simp only [Bool.and_eq_true] at h
  exact conM_12 h.1
theorem tyT_size {xs : List TyI} (h : tyOkM xs = true) : (bs (textT xs xs.length 0)).size ≤ 8000 := by
  obtain ⟨h1, h2, h3⟩ := tyOk_parts h
  have := textT_len xs h2 xs.length 0 xs.length h3
  rw [bs_size]; omega
theorem conT_size {n : Int} {c : MCon} (h : conOkM n c = true) : (conT c).size ≤ 8016 := by
  have h1 := conOk_12 h
  unfold conT
  split
  · rename_i hb
    have := tyT_size (conOk_ty h hb)
    simp only [ByteArray.size_append, z4]; omega
  · omega
structure TyG (t : MType) : Prop where
  n : t.name.size ≤ 12
  p : t.params = 0 ∨ t.params = 1 ∨ t.params = 2
  l : t.cons.length ≤ 8
  c : ∀ c ∈ t.cons, conOkM t.params c = true
theorem typeM_g {t : MType} (h : typeM t = true) : TyG t := by
  unfold typeM at h
  simp only [Bool.and_eq_true, decide_eq_true_eq, List.all_eq_true] at h
  obtain ⟨⟨⟨⟨⟨h1, h2⟩, h3⟩, h4⟩, h5⟩, h6⟩ := h
  exact ⟨nameM_12 h1, by omega, h5, h6⟩
theorem consT_sum : ∀ {n : Int} {l : List MCon}, (∀ c ∈ l, conOkM n c = true) → (((l.map conT).map fun x => x.size).sum ≤ 8016 * l.length)
  | _, [], _ => by simp
  | n, c :: l, h => by
    have h1 := conT_size (h c (List.mem_cons_self ..))
    have h2 := consT_sum fun c hc => h c (List.mem_cons_of_mem _ hc)
    simp only [List.map_cons, List.sum_cons, List.length_cons]; omega
theorem TyG.js {t : MType} (g : TyG t) (k : Nat) : (joinB ((t.cons.map conT).take k)).size ≤ 70000 := by
  have h1 := joinB_size ((t.cons.map conT).take k)
  have h2 := consT_sum (n := t.params) (l := t.cons.take k) fun c hc => g.c c (List.mem_of_mem_take hc)
  rw [← List.map_take] at h1 ⊢
  have : (t.cons.take k).length ≤ 8 := by rw [List.length_take]; have := g.l; omega
  rw [List.length_map] at h1
  omega
theorem preT_size (n : Int) : (preT n).size ≤ 9 := by
  unfold preT; split
  · exact (by decide : (3 : Nat) ≤ 9)
  · split
    · exact (by decide : (9 : Nat) ≤ 9)
    · exact (by decide : (0 : Nat) ≤ 9)
theorem typT_size {t : MType} (g : TyG t) : (typT t).size ≤ 70040 := by
  have h := g.js t.cons.length
  have hl : (t.cons.map conT).length = t.cons.length := List.length_map _
  rw [← hl, List.take_length] at h
  have := preT_size t.params
  have := g.n
  unfold typT
  simp only [ByteArray.size_append, z2, z3, z5]; omega
theorem outT_size : ∀ {ts : List MType}, (∀ t ∈ ts, TyG t) → ∀ k, k ≤ ts.length → (outT (ts.take k)).size ≤ 70040 * k := fun {ts} h k => by
  induction k with
  | zero => intro _; exact Nat.le_refl 0
  | succ k ih =>
    intro hk
    have h1 := ih (by omega)
    have h2 := typT_size (h _ (List.getElem_mem (show k < ts.length by omega)))
    rw [outT_succ (show k < ts.length by omega), ByteArray.size_append]; omega
noncomputable def progT (p : MProgram) (t : ET) : ByteArray := outT p.types ++ etx t
end Go.Proofs.YtahdaknaoogpkaaGreat
