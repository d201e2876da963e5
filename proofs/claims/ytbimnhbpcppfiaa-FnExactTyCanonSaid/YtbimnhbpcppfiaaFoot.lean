/- Data that a call has made, with the blocks that they lie in: what may be written over. -/
import Derived.Test.YtbimnhbpcppfiaaDat
namespace Go.Proofs.Ytbimnhbpcppfiaa
set_option linter.unusedVariables false
open Go.RowKit
/-- nothing that was there has changed, but for some blocks. -/
structure Fr (bs : List Nat) (w w' : World) : Prop where
  os : w'.os = w.os
  tape : w'.tape = w.tape
  output : w'.output = w.output
  size : w.heap.size ≤ w'.heap.size
  block : ∀ b, b < w.heap.size → b ∉ bs → w'.heap[b]? = w.heap[b]?
theorem Fr.refl (bs : List Nat) (w : World) : Fr bs w w := ⟨rfl, rfl, rfl, Nat.le_refl _, fun _ _ _ => rfl⟩
theorem Fr.trans {bs : List Nat} {a b c : World} (h : Fr bs a b) (k : Fr bs b c) : Fr bs a c :=
  ⟨k.os.trans h.os, k.tape.trans h.tape, k.output.trans h.output, Nat.le_trans h.size k.size, fun i hi hb => (k.block i (Nat.lt_of_lt_of_le hi h.size) hb).trans (h.block i hi hb)⟩
theorem Fr.of_below {w w' : World} (bs : List Nat) (h : Below w.heap.size w w') : Fr bs w w' := ⟨h.os, h.tape, h.output, h.size, fun b hb _ => h.block b hb⟩
theorem Fr.mono {bs cs : List Nat} {w w' : World} (h : Fr bs w w') (s : ∀ b ∈ bs, b ∈ cs) : Fr cs w w' := ⟨h.os, h.tape, h.output, h.size, fun b hb hn => h.block b hb (fun x => hn (s b x))⟩
theorem Fr.below {bs : List Nat} {w w' : World} {B : Nat} (h : Fr bs w w') (hB : B ≤ w.heap.size) (hbs : ∀ b ∈ bs, B ≤ b) : Below B w w' :=
  ⟨h.os, h.tape, h.output, h.size, fun b hb => h.block b (Nat.lt_of_lt_of_le hb hB) (fun x => by have := hbs b x; omega)⟩
theorem Fr.setCell {bs : List Nat} {a w : World} {p : Addr} (h : Fr bs a w) (hp : p.block ∈ bs) (v : Value) : Fr bs a (w.setCell p v) := by
  refine ⟨h.os, h.tape, h.output, by simpa using h.size, fun b hb hn => ?_⟩
  rw [Below.heap_setCell _ _ _ _ (fun e => hn (by rw [e]; exact hp))]
  exact h.block b hb hn
theorem Sub.fr {h : Hp} {bs : List Nat} {w w' : World} (s : Sub h w) (f : Fr bs w w') (hn : ∀ b ∈ bs, h b = Option.none) : Sub h w' := fun b o e => by
  rw [f.block b (s.lt e) (fun x => by rw [hn b x] at e; cases e)]; exact s b o e
/-- a slice with the blocks that it lies in, its elements' blocks too. -/
def OwnX {α : Type} (e : TypeId) (k : Nat) (RX : Hp → List Value → α → List Nat → Prop) (h : Hp) (v : Value) (xs : List α) (bs : List Nat) : Prop :=
  (xs = [] ∧ bs = [] ∧ ∃ a c, v = .slice a 0 c ∧ c ≤ maxLen) ∨
  ∃ (g c : Nat) (cur : Array Value) (rows : List (List Value)) (bss : List (List Nat)), v = .slice (some ⟨g, 0, none⟩) xs.length c ∧ bs = g :: bss.flatten ∧ h g = some (.cells cur e (0, 0)) ∧ xs.length ≤ c ∧ c ≤ maxLen ∧
    cur.size = c * k ∧ cur.toList.take (xs.length * k) = rows.flatten ∧ rows.length = xs.length ∧ bss.length = xs.length ∧ (∀ r ∈ rows, r.length = k) ∧
    ∀ i (h1 : i < rows.length) (h2 : i < xs.length) (h3 : i < bss.length), RX h rows[i] xs[i] bss[i]
theorem OwnX.mono {α : Type} {e : TypeId} {k : Nat} {RX : Hp → List Value → α → List Nat → Prop} {h h' : Hp} {v : Value} {xs : List α} {bs : List Nat} (q : OwnX e k RX h v xs bs)
    (hg : ∀ b ∈ bs, h' b = h b) (hR : ∀ r x cs, (∀ b ∈ cs, b ∈ bs) → RX h r x cs → RX h' r x cs) : OwnX e k RX h' v xs bs := by
  rcases q with q | ⟨g, c, cur, rows, bss, e1, e2, e3, e4, e5, e6, e7, e8, e9, e10, e11⟩
  · exact .inl q
  · refine .inr ⟨g, c, cur, rows, bss, e1, e2, by rw [hg g (by rw [e2]; simp)]; exact e3, e4, e5, e6, e7, e8, e9, e10, fun i h1 h2 h3 => hR _ _ _ (fun b hb => ?_) (e11 i h1 h2 h3)⟩
    rw [e2]
    exact List.mem_cons_of_mem _ (List.mem_flatten.2 ⟨_, List.getElem_mem h3, hb⟩)
theorem OwnX.len {α : Type} {e : TypeId} {k : Nat} {RX : Hp → List Value → α → List Nat → Prop} {h : Hp} {v : Value} {xs : List α} {bs : List Nat} (q : OwnX e k RX h v xs bs) : ∃ a c, v = .slice a xs.length c ∧ xs.length ≤ c ∧ c ≤ maxLen := by
  rcases q with ⟨rfl, _, a, c, rfl, hc⟩ | ⟨g, c, cur, rows, bss, e1, e2, e3, e4, e5, e6, e7, e8, e9, e10, e11⟩
  · exact ⟨a, c, rfl, Nat.zero_le _, hc⟩
  · exact ⟨_, c, e1, e4, e5⟩
theorem flatten_at {k : Nat} : ∀ (rows : List (List Value)) (i j : Nat), (∀ r ∈ rows, r.length = k) → (h : i < rows.length) → j < k → rows.flatten[i * k + j]? = rows[i][j]?
  | [], i, j, _, h, _ => by simp at h
  | r :: l, 0, j, hr, _, hj => by
    rw [List.flatten_cons, Nat.zero_mul, Nat.zero_add, List.getElem?_append_left (by rw [hr r (by simp)]; exact hj)]; rfl
  | r :: l, i + 1, j, hr, h, hj => by
    have h0 := hr r (by simp)
    rw [List.flatten_cons, List.getElem?_append_right (by rw [h0, Nat.add_mul]; omega), h0, show (i + 1) * k + j - k = i * k + j by rw [Nat.add_mul]; omega]
    exact flatten_at l i j (fun x hx => hr x (by simp [hx])) (by simpa using h) hj
/-- it reads as a slice. -/
theorem OwnX.read {α : Type} {e : TypeId} {k : Nat} {RX : Hp → List Value → α → List Nat → Prop} {R : Hp → List Value → α → Prop} {h : Hp} {v : Value} {xs : List α} {bs : List Nat} (q : OwnX e k RX h v xs bs) (hR : ∀ r x cs, RX h r x cs → R h r x) : SlOf k R h v xs := by
  rcases q with ⟨rfl, _, a, c, rfl, hc⟩ | ⟨g, c, cur, rows, bss, e1, e2, e3, e4, e5, e6, e7, e8, e9, e10, e11⟩
  · exact ⟨a, c, rfl, Nat.zero_le _, hc, .inl rfl⟩
  · refine ⟨_, c, e1, e4, e5, .inr ⟨g, 0, rfl, fun i hi => ⟨rows[i]'(by omega), e10 _ (List.getElem_mem _), ⟨cur, e, (0, 0), e3, fun j hj => ?_⟩, hR _ _ _ (e11 i (by omega) hi (by omega))⟩⟩⟩
    have hjk : j < k := by rw [e10 _ (List.getElem_mem _)] at hj; exact hj
    have hlt : i * k + j < xs.length * k := by
      have : (i + 1) * k ≤ xs.length * k := Nat.mul_le_mul_right _ hi
      rw [Nat.add_mul, Nat.one_mul] at this; omega
    rw [Nat.zero_add, ← Array.getElem?_toList, ← List.getElem?_take_of_lt hlt, e7]
    exact flatten_at rows i j e10 (by omega) hjk
/-- the part of a heap that is none of some blocks. -/
def sans (h : Hp) (bs : List Nat) : Hp := fun b => if b ∈ bs then none else h b
theorem sans_none {h : Hp} {bs : List Nat} {b : Nat} (hb : b ∈ bs) : sans h bs b = none := by unfold sans; rw [if_pos hb]
theorem sans_at {h : Hp} {bs : List Nat} {b : Nat} (hb : b ∉ bs) : sans h bs b = h b := by unfold sans; rw [if_neg hb]
theorem sans_le {h : Hp} {bs : List Nat} : HLe (sans h bs) h := fun b o e => by
  unfold sans at e
  split at e
  · cases e
  · exact e
def noHp : Hp := fun _ => none
theorem noHp_sub (w : World) : Sub noHp w := fun _ _ e => by cases e
theorem noHp_le (h : Hp) : HLe noHp h := fun _ _ e => by cases e
/-- elements that hold no memory of their own. -/
def leafX {α : Type} (enc : α → List Value) (P : α → Prop) (_ : Hp) (r : List Value) (x : α) (bs : List Nat) : Prop := r = enc x ∧ P x ∧ bs = []
theorem replicate_flatten_nil {α : Type} (n : Nat) : (List.replicate n ([] : List α)).flatten = [] := by
  induction n with
  | zero => rfl
  | succ n ih => rw [List.replicate_succ, List.flatten_cons, ih]; rfl
theorem OwnX.leaf {α : Type} {e : TypeId} {k : Nat} {w : World} {B : Nat} {v : Value} (l : List α) (enc : α → List Value) (P : α → Prop) (hk : ∀ x ∈ l, (enc x).length = k) (hP : ∀ x ∈ l, P x)
    (h : Own w B e k v l.length (l.flatMap enc)) : ∃ bs, OwnX e k (leafX enc P) (hp w) v l bs ∧ bs.Nodup ∧ ∀ b ∈ bs, B ≤ b ∧ b < w.heap.size := by
  obtain ⟨h1, ⟨rfl, h2⟩ | ⟨g, cap, cur, rfl, hg, hh, hc, hm, hs, ht⟩⟩ := h
  · have : l = [] := by simpa using h2
    subst this
    exact ⟨[], .inl ⟨rfl, rfl, none, 0, rfl, by decide⟩, List.nodup_nil, fun _ hb => by cases hb⟩
  · refine ⟨[g], .inr ⟨g, cap, cur, l.map enc, List.replicate l.length [], rfl, by rw [replicate_flatten_nil], hh, hc, hm, hs, by rw [ht, List.flatMap_def], by simp, by simp, ?_, ?_⟩, by simp, ?_⟩
    · intro r hr
      obtain ⟨x, hx, rfl⟩ := List.mem_map.1 hr
      exact hk x hx
    · intro i h1 h2 h3
      exact ⟨by simp, hP _ (List.getElem_mem h2), by simp⟩
    · intro b hb
      obtain rfl : b = g := by simpa using hb
      refine ⟨hg, ?_⟩
      rcases Nat.lt_or_ge b w.heap.size with hl | hl
      · exact hl
      · rw [Array.getElem?_eq_none hl] at hh; cases hh
theorem OwnX.leafG {α : Type} {e : TypeId} {k : Nat} {w : World} {B g n c : Nat} (l : List α) (enc : α → List Value) (P : α → Prop) (hk : ∀ x ∈ l, (enc x).length = k) (hP : ∀ x ∈ l, P x)
    (h : Own w B e k (.slice (some ⟨g, 0, none⟩) n c) l.length (l.flatMap enc)) : OwnX e k (leafX enc P) (hp w) (.slice (some ⟨g, 0, none⟩) n c) l [g] := by
  obtain ⟨h1, ⟨e1, h2⟩ | ⟨g', cap, cur, e1, hg, hh, hc, hm, hs, ht⟩⟩ := h
  · cases e1
  · injection e1 with e1 e2 e3
    injection e1 with e1
    injection e1 with e1
    subst e1 e2 e3
    refine .inr ⟨g, c, cur, l.map enc, List.replicate l.length [], rfl, by rw [replicate_flatten_nil], hh, hc, hm, hs, by rw [ht, List.flatMap_def], by simp, by simp, ?_, ?_⟩
    · intro r hr
      obtain ⟨x, hx, rfl⟩ := List.mem_map.1 hr
      exact hk x hx
    · intro i h1 h2 h3
      exact ⟨by simp, hP _ (List.getElem_mem h2), by simp⟩
theorem rows_leaf {α : Type} {h : Hp} (enc : α → List Value) (P : α → Prop) : ∀ (rows : List (List Value)) (l : List α) (bss : List (List Nat)), rows.length = l.length → bss.length = l.length → (∀ i (h1 : i < rows.length) (h2 : i < l.length) (h3 : i < bss.length), leafX enc P h rows[i] l[i] bss[i]) → rows = l.map enc ∧ bss.flatten = [] ∧ ∀ x ∈ l, P x
  | [], [], [], _, _, _ => ⟨rfl, rfl, fun _ hx => by cases hx⟩
  | r :: rows, x :: l, b :: bss, h1, h2, h3 => by
    have h0 := h3 0 (by simp) (by simp) (by simp)
    have ih := rows_leaf enc P rows l bss (by simpa using h1) (by simpa using h2) (fun i a b c => h3 (i + 1) (by simpa using a) (by simpa using b) (by simpa using c))
    obtain ⟨e1, e2, e3⟩ := h0
    simp only [List.getElem_cons_zero] at e1 e2 e3
    refine ⟨by rw [e1, ih.1]; rfl, by rw [List.flatten_cons, e3, ih.2.1]; rfl, ?_⟩
    intro y hy
    rcases List.mem_cons.1 hy with rfl | hy
    · exact e2
    · exact ih.2.2 y hy
  | [], _ :: _, _, h1, _, _ => by simp at h1
  | _ :: _, [], _, h1, _, _ => by simp at h1
  | _, [], _ :: _, _, h2, _ => by simp at h2
  | _, _ :: _, [], _, h2, _ => by simp at h2
/-- back: an own slice, or one without elements. -/
theorem OwnX.toOwn {α : Type} {e : TypeId} {k : Nat} {w : World} {v : Value} {l : List α} {bs : List Nat} {enc : α → List Value} {P : α → Prop} (q : OwnX e k (leafX enc P) (hp w) v l bs) :
    l = [] ∨ ∃ g c, v = .slice (some ⟨g, 0, none⟩) l.length c ∧ bs = [g] ∧ Own w g e k v l.length (l.flatMap enc) := by
  rcases q with q | ⟨g, c, cur, rows, bss, e1, e2, e3, e4, e5, e6, e7, e8, e9, e10, e11⟩
  · exact .inl q.1
  · obtain ⟨r1, r2, r3⟩ := rows_leaf enc P rows l bss e8 e9 e11
    refine .inr ⟨g, c, e1, by rw [e2, r2], ?_, .inr ⟨g, c, cur, e1, Nat.le_refl _, e3, e4, e5, e6, by rw [e7, r1, List.flatMap_def]⟩⟩
    rw [List.flatMap_def, ← r1, flatten_len rows e10, e8]
end Go.Proofs.Ytbimnhbpcppfiaa
