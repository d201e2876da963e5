/- Data in slices, whatever the elements: sizes, copies under way. -/
import Derived.Test.YtokjkmibnjfkaaaOwn
namespace Go.Proofs.Ytokjkmibnjfkaaa
set_option linter.unusedVariables false
open Go.RowKit
/-- the answer of a size function: what is left, or less than nothing; P: the data are small. -/
def SzS (left : Int) (P : Prop) (e : Ending) : Prop := ∃ r : Int, e = .returned (.int .i64 r) ∧ -1 ≤ r ∧ r ≤ left ∧ (0 ≤ r → P)
def SmallS {α : Type} (s : α → Prop) (xs : List α) : Prop := xs.length ≤ 1048576 ∧ ∀ i (h : i < xs.length), s xs[i]
/-- a copy under way: j elements are laid, the others are as made. -/
def Part {α : Type} (k : Nat) (R : Hp → List Value → α → Prop) (e : TypeId) (h : Hp) (B g : Nat) (xs : List α) (w : World) (j : Nat) (hc : Hp) : Prop :=
  ∃ rows : List (List Value), rows.length = xs.length ∧ (∀ r ∈ rows, r.length = k) ∧ Own w B e k (.slice (some ⟨g, 0, none⟩) xs.length xs.length) xs.length rows.flatten ∧
    (∀ i (h1 : i < rows.length) (h2 : i < xs.length), i < j → R hc rows[i] xs[i]) ∧ Live h B hc w ∧ hc g = none ∧ B ≤ g
theorem flatten_len {k : Nat} : ∀ (rows : List (List Value)), (∀ r ∈ rows, r.length = k) → rows.flatten.length = rows.length * k
  | [], _ => by simp
  | r :: l, h => by
    rw [List.flatten_cons, List.length_append, h r (by simp), flatten_len l (fun x hx => h x (by simp [hx])), List.length_cons, Nat.add_mul]; omega
/-- k cells from a place on, set. -/
def setRow : List Value → Nat → List Value → List Value
  | xs, _, [] => xs
  | xs, p, u :: r => setRow (xs.set p u) (p + 1) r
theorem setRow_cons (y : Value) : ∀ (r l : List Value) (p : Nat), setRow (y :: l) (p + 1) r = y :: setRow l p r
  | [], _, _ => rfl
  | u :: r, l, p => by rw [setRow, setRow, List.set_cons_succ, setRow_cons y r]
theorem setRow_app : ∀ (a l : List Value) (p : Nat) (r : List Value), setRow (a ++ l) (a.length + p) r = a ++ setRow l p r
  | [], l, p, r => by simp
  | y :: a, l, p, r => by
    rw [List.cons_append, List.length_cons, show a.length + 1 + p = a.length + p + 1 by omega, setRow_cons, setRow_app a l p r]; rfl
theorem setRow_head : ∀ (r r0 l : List Value), r.length = r0.length → setRow (r0 ++ l) 0 r = r ++ l
  | [], [], l, _ => rfl
  | [], _ :: _, _, h => by simp at h
  | u :: r, [], _, h => by simp at h
  | u :: r, u0 :: r0, l, h => by
    rw [setRow, List.cons_append, List.set_cons_zero, Nat.zero_add, show (1 : Nat) = 0 + 1 from rfl, setRow_cons, setRow_head r r0 l (by simpa using h)]; rfl
theorem setRow_flat {k : Nat} : ∀ (rows : List (List Value)) (j : Nat) (r : List Value), (∀ r ∈ rows, r.length = k) → r.length = k → j < rows.length → setRow rows.flatten (j * k) r = (rows.set j r).flatten
  | [], j, r, _, _, h => by simp at h
  | r0 :: l, 0, r, h, hr, _ => by
    rw [List.flatten_cons, Nat.zero_mul, setRow_head r r0 _ (by rw [hr, h r0 (by simp)])]; rfl
  | r0 :: l, j + 1, r, h, hr, hj => by
    have h0 := h r0 (by simp)
    rw [List.flatten_cons, show (j + 1) * k = r0.length + j * k by rw [h0, Nat.add_mul]; omega, setRow_app, setRow_flat l j r (fun x hx => h x (by simp [hx])) hr (by simpa using hj)]
    rfl
/-- the row is laid. -/
theorem Part.lay {α : Type} {k : Nat} {R : Hp → List Value → α → Prop} {e : TypeId} {h : Hp} {B g : Nat} {xs : List α} {w' : World} {j : Nat} {hc hc' : Hp} {rows : List (List Value)} (r : List Value)
    (h1 : rows.length = xs.length) (h2 : ∀ r ∈ rows, r.length = k) (hr : r.length = k) (hown : Own w' B e k (.slice (some ⟨g, 0, none⟩) xs.length xs.length) xs.length (setRow rows.flatten (j * k) r))
    (h3 : ∀ i (h1 : i < rows.length) (h2 : i < xs.length), i < j → R hc rows[i] xs[i]) (hle : HLe hc hc') (hm : ∀ r x, R hc r x → R hc' r x) (hj : j < xs.length) (hR : R hc' r xs[j]) (hl : Live h B hc' w') (hg : hc' g = none) (hB : B ≤ g) :
    Part k R e h B g xs w' (j + 1) hc' := by
  refine ⟨rows.set j r, by simpa using h1, ?_, ?_, ?_, hl, hg, hB⟩
  · intro x hx
    rcases List.mem_or_eq_of_mem_set hx with hx | rfl
    · exact h2 x hx
    · exact hr
  · rw [← setRow_flat rows j r h2 hr (by omega)]; exact hown
  · intro i i1 i2 hij
    by_cases he : i = j
    · subst he
      rw [List.getElem_set_self]; exact hR
    · rw [List.getElem_set_ne (by omega)]
      exact hm _ _ (h3 i (by simpa using i1) i2 (by omega))
theorem made_rows (z : Array Value) (k n : Nat) (hz : z.size = k) (hk : 0 < k) : (madeCells z (n * k)).toList = (List.replicate n z.toList).flatten := by
  have key : ∀ n : Nat, (List.range (n * k)).map (fun j => (z[j % k]!)) = (List.replicate n z.toList).flatten := by
    intro n
    induction n with
    | zero => simp
    | succ n ih =>
      rw [List.replicate_succ', List.flatten_append, ← ih, Nat.add_mul, Nat.one_mul, List.range_add, List.map_append]
      congr 1
      rw [List.map_map]
      simp only [List.flatten_cons, List.flatten_nil, List.append_nil]
      apply List.ext_getElem
      · simp [hz]
      · intro i h1 h2
        simp only [List.getElem_map, List.getElem_range, Function.comp_apply]
        have hi : i < k := by simpa using h1
        rw [Nat.add_comm, Nat.add_mul_mod_self_right, Nat.mod_eq_of_lt hi, getElem!_pos z i (by omega)]
        simp
  rw [← key]
  simp [madeCells, hz]
theorem Part.start {α : Type} {k : Nat} {R : Hp → List Value → α → Prop} {e : TypeId} {h : Hp} {B g : Nat} {xs : List α} {w : World} {z : Array Value} (hz : z.size = k) (hk : 0 < k) (hown : Own w B e k (.slice (some ⟨g, 0, none⟩) xs.length xs.length) xs.length (madeCells z (xs.length * k)).toList) (hl : Live h B h w) (hg : h g = none) (hB : B ≤ g) :
    Part k R e h B g xs w 0 h := by
  rw [made_rows z k _ hz hk] at hown
  refine ⟨_, by simp, ?_, hown, fun i _ _ hi => by omega, hl, hg, hB⟩
  intro r hr
  rw [(List.mem_replicate.1 hr).2]; simpa using hz
theorem Part.done {α : Type} {k : Nat} {R : Hp → List Value → α → Prop} {e : TypeId} {h : Hp} {B g : Nat} {xs : List α} {w : World} {hc : Hp} (hm : ∀ h h' r x, HLe h h' → R h r x → R h' r x) (hp : Part k R e h B g xs w xs.length hc) :
    SlOf k R (ext h B w) (.slice (some ⟨g, 0, none⟩) xs.length xs.length) xs := by
  obtain ⟨rows, h1, h2, hown, h3, hl, hg, hB⟩ := hp
  have ho := hl.out
  have := own_read (w := w) (B := B) (e := e) (k := k) (v := .slice (some ⟨g, 0, none⟩) xs.length xs.length) rows id (fun x hx => h2 x hx) (fun _ r x => r = x) (ext h B w) (fun b hb => ext_new hb) (fun _ _ => rfl) (by rw [h1, List.flatMap_id]; exact hown)
  obtain ⟨a, c, e1, hc1, hc2, hr⟩ := this
  injection e1 with e1 e2 e3
  subst e1 e3
  refine ⟨_, _, rfl, by omega, hc2, ?_⟩
  rcases hr with hr | ⟨b, off, ea, hr⟩
  · left
    have : rows.length = 0 := by rw [hr]; rfl
    exact List.eq_nil_of_length_eq_zero (by omega)
  · right
    refine ⟨b, off, ea, fun i hi => ?_⟩
    obtain ⟨r, r1, r2, rfl⟩ := hr i (by omega)
    exact ⟨_, r1, r2, hm _ _ _ _ ho (h3 i (by omega) hi hi)⟩
/-- cells of the array that is being laid. -/
theorem own_cells {w : World} {B g n m c : Nat} {e : TypeId} {k : Nat} {xs : List Value} (h : Own w B e k (.slice (some ⟨g, 0, none⟩) m c) n xs) (j : Nat) (hj : j < n * k) : (∃ o, w.cell? ⟨g, j, none⟩ = some o) ∧ w.frozen? ⟨g, j, none⟩ = false := by
  obtain ⟨-, -, hxl, hcs, hfr, -⟩ := own_parts h
  exact ⟨⟨_, (hcs j (by omega)).trans (List.getElem?_eq_getElem (by omega))⟩, hfr j⟩

theorem Live.le_of {h : Hp} {B : Nat} {h1 : Hp} {w1 w2 : World} (l : Live h B (ext h1 w1.heap.size w2) w2) (s : Sub h1 w1) : HLe h1 (ext h1 w1.heap.size w2) := fun b o e => by rw [ext_old (s.lt e)]; exact e
theorem ext_mono {h h' : Hp} {B : Nat} {w : World} (l : HLe h h') : HLe (ext h B w) (ext h' B w) := fun b o e => by
  by_cases hb : b < B
  · rw [ext_old hb] at e ⊢; exact l _ _ e
  · rw [ext_new (by omega)] at e ⊢; exact e
theorem Live.next {h h1 : Hp} {B : Nat} {wa wb w2 : World} (_ : Live h B h1 wa) (hb : Below wb.heap.size wb w2) (g : Live h B h1 wb) : Live h B h1 w2 := g.below hb
end Go.Proofs.Ytokjkmibnjfkaaa
