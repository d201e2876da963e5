/- Slices that a call makes, whatever their elements: reading, writing, appending, handing back. -/
import Derived.Test.YtokjkmibnjfkaaaProg
import Derived.Test.YtokjkmibnjfkaaaOpen
import Derived.Lib.Hide
namespace Go.Proofs.Ytokjkmibnjfkaaa
set_option linter.unusedVariables false
open Go.RowKit

/-- the call's own slice: element type e, k cells an element, n elements, the cells xs. -/
abbrev Own (w : World) (B : Nat) (e : TypeId) (k : Nat) (v : Value) (n : Nat) (xs : List Value) : Prop := w.ownsRow B e k v n xs

theorem own_kept {w w' : World} {B C : Nat} {e : TypeId} {k n : Nat} {v : Value} {xs : List Value} (h : Own w B e k v n xs) (hb : Below C w w') (hc : w.heap.size ≤ C) : Own w' B e k v n xs := by
  obtain ⟨h1, h2⟩ := h
  refine ⟨h1, h2.imp id fun ⟨g, cap, cur, ev, hg, hh, r⟩ => ⟨g, cap, cur, ev, hg, ?_, r⟩⟩
  have : g < w.heap.size := by
    rcases Nat.lt_or_ge g w.heap.size with hl | hl
    · exact hl
    · rw [Array.getElem?_eq_none hl] at hh; cases hh
  rw [hb.block g (by omega)]; exact hh
theorem own_len {w : World} {B : Nat} {e : TypeId} {k n : Nat} {v : Value} {xs : List Value} (h : Own w B e k v n xs) : ∃ a c, v = .slice a n c ∧ n ≤ c ∧ c ≤ maxLen := by
  obtain ⟨h1, ⟨ev, h2⟩ | ⟨g, cap, cur, ev, _, _, h3, h4, _⟩⟩ := h
  · exact ⟨none, 0, by rw [ev, h2], by omega, by decide⟩
  · exact ⟨_, _, ev, h3, h4⟩
theorem own_ne_nil {w : World} {B : Nat} {e : TypeId} {k n : Nat} {v : Value} {xs : List Value} (h : Own w B e k v n xs) (hn : 0 < n) : ∃ g c, v = .slice (some ⟨g, 0, none⟩) n c := by
  obtain ⟨h1, ⟨ev, h2⟩ | ⟨g, cap, cur, ev, _⟩⟩ := h
  · omega
  · exact ⟨_, _, ev⟩
theorem own_parts {w : World} {B g n m c : Nat} {e : TypeId} {k : Nat} {xs : List Value} (h : Own w B e k (.slice (some ⟨g, 0, none⟩) m c) n xs) :
    m = n ∧ B ≤ g ∧ xs.length = n * k ∧ (∀ j, j < xs.length → w.cell? ⟨g, j, none⟩ = xs[j]?) ∧ (∀ j, w.frozen? ⟨g, j, none⟩ = false) ∧ g < w.heap.size := by
  obtain ⟨h1, ⟨ev, h2⟩ | ⟨g', cap, cur, ev, hg, hh, hc, hm, hs, ht⟩⟩ := h
  · cases ev
  · injection ev with ev e2 e3
    injection ev with ev
    injection ev with ev
    subst ev
    refine ⟨e2, hg, h1, fun j hj => ?_, fun j => ?_, ?_⟩
    · simp only [World.cell?, hh]
      rw [if_neg (by simp)]
      rw [← Array.getElem?_toList, ← ht, List.getElem?_take_of_lt (by omega)]
    · simp [World.frozen?, hh]
    · rcases Nat.lt_or_ge g w.heap.size with hl | hl
      · exact hl
      · rw [Array.getElem?_eq_none hl] at hh; cases hh
theorem own_set {w : World} {B g n m c : Nat} {e : TypeId} {k : Nat} {xs : List Value} (h : Own w B e k (.slice (some ⟨g, 0, none⟩) m c) n xs) (j : Nat) (u : Value) :
    Own (w.setCell ⟨g, j, none⟩ u) B e k (.slice (some ⟨g, 0, none⟩) m c) n (xs.set j u) := by
  obtain ⟨h1, ⟨ev, h2⟩ | ⟨g', cap, cur, ev, hg, hh, hc, hm, hs, ht⟩⟩ := h
  · cases ev
  · injection ev with ev e2 e3
    injection ev with ev
    injection ev with ev
    subst ev
    refine ⟨by simpa using h1, .inr ⟨g, cap, cur.setIfInBounds j u, by rw [e3, e2], hg, ?_, hc, hm, by simpa using hs, ?_⟩⟩
    · simp only [World.setCell, Array.getElem?_modify, if_true, hh, Option.map_some]
      rw [if_neg (by simp)]
    · rw [Array.toList_setIfInBounds, ← ht, List.take_set]
/-- a literal slice that was just laid. -/
theorem own_made (w : World) (B : Nat) (hB : B ≤ w.heap.size) (e : TypeId) (k n : Nat) (vals : List Value) (hl : vals.length = n * k) (hn : n ≤ maxLen) :
    Own (w.alloc (.cells vals.toArray e)) B e k (.slice (some ⟨w.heap.size, 0, none⟩) n n) n vals := by
  refine ⟨hl, .inr ⟨w.heap.size, n, vals.toArray, rfl, hB, ?_, Nat.le_refl _, hn, by simpa using hl, by simp [List.take_of_length_le, hl]⟩⟩
  show (w.heap.push _)[w.heap.size]? = _
  simp

/-- an owned slice, handed back: it reads as the list. -/
theorem own_read {α : Type} {w : World} {B : Nat} {e : TypeId} {k : Nat} {v : Value} (l : List α) (enc : α → List Value) (hk : ∀ x ∈ l, (enc x).length = k) (R : Hp → List Value → α → Prop) (h' : Hp) (hh' : ∀ b, B ≤ b → h' b = w.heap[b]?) (hR : ∀ x ∈ l, R h' (enc x) x)
    (h : Own w B e k v l.length (l.flatMap enc)) : SlOf k R h' v l := by
  obtain ⟨h1, ⟨rfl, h2⟩ | ⟨g, cap, cur, rfl, hg, hh, hc, hm, hs, ht⟩⟩ := h
  · have : l = [] := by simpa using h2
    subst this
    exact SlOf.nil _ _ _
  · refine ⟨_, cap, rfl, hc, hm, .inr ⟨g, 0, rfl, fun i hi => ⟨enc l[i], hk _ (List.getElem_mem hi), ⟨cur, e, (0, 0), (hh' g hg).trans hh, fun j hj => ?_⟩, hR _ (List.getElem_mem hi)⟩⟩⟩
    have hjk : j < k := by rw [hk _ (List.getElem_mem hi)] at hj; exact hj
    have hlt : i * k + j < l.length * k := by
      have : (i + 1) * k ≤ l.length * k := Nat.mul_le_mul_right _ hi
      rw [Nat.add_mul, Nat.one_mul] at this; omega
    rw [Nat.zero_add, ← Array.getElem?_toList, ← List.getElem?_take_of_lt hlt, ht]
    have key : ∀ (l : List α) (i : Nat) (hi : i < l.length), (∀ x ∈ l, (enc x).length = k) → (l.flatMap enc)[i * k + j]? = (enc l[i])[j]? := by
      intro l
      induction l with
      | nil => intro i hi; simp at hi
      | cons x l ih =>
        intro i hi hx
        have hx0 := hx x (by simp)
        rw [List.flatMap_cons]
        cases i with
        | zero =>
          rw [Nat.zero_mul, Nat.zero_add, List.getElem?_append_left (by omega)]; rfl
        | succ i =>
          rw [List.getElem?_append_right (by rw [hx0, Nat.add_mul]; omega), hx0, show (i + 1) * k + j - k = i * k + j by rw [Nat.add_mul]; omega]
          exact ih i (by simpa using hi) (fun y hy => hx y (by simp [hy]))
    exact key l i hi hk

section
variable {t e : TypeId} {z : Value} {k bytes : Nat} (ht : Try.prog.underlying t = some (.slice e)) (hinfo : (Try.prog.info? e).map (fun i => (i.zero, i.size, i.bytes)) = some (some z, k, bytes)) (hz : z.cells.size = k) (hk : 0 < k)
include ht hinfo hz hk
/-- append of cells that lie somewhere. -/
theorem app_at {ops : Array Oper} {rest : List Oper} {o : Oper} {a : Act} {Q : Exit → Act → World → Prop} (w : World) (hgd : o.guard = none) (s x : Operand)
    (ho : o.op = .call { callee := .builtin .append, args := #[s, x], argTypes := #[t, t] })
    (B : Nat) (v : Value) (n : Nat) (xs : List Value) (hs : a.eval s = v) (hown : Own w B e k v n xs)
    (ad : Addr) (m c : Nat) (news : List Value) (hx : a.eval x = .slice (some ad) m c) (hl : news.length = m * k)
    (hnews : ∀ j u, news[j]? = some u → w.cell? (ad.add j) = some u) (h1 : ∀ u ∈ news, u.oneCell' = true)
    (h63 : n + m ≤ maxLen) (hroom : (n + m) * bytes ≤ 140737488355328) (hbase : B ≤ w.heap.size)
    (h : ∀ v' w', Own w' B e k v' (n + m) (xs ++ news) → Below B w w' → wpList Try.prog ops Q rest (a.put o.dst v') w') : wpList Try.prog ops Q (o :: rest) a w := by
  obtain ⟨i, hi, hz0, hz1, hz2⟩ := info_parts hinfo
  refine wpList_append_own w hgd s x t ho B e i z k bytes ht hi hz0 hz1 hz2 hz hk v n xs hs hown ad m c news hx hl hnews h1 h63 hroom hbase ?_
  intro v' w' h1 h2 _
  refine h v' w' h1 ((Below.refl B w).grown h2 hbase ?_)
  intro k hk
  exact (World.ownsRow.lt hown k hk).1
/-- append of cells that were laid just before. -/
theorem app_lit {ops : Array Oper} {rest : List Oper} {o : Oper} {a : Act} {Q : Exit → Act → World → Prop} (w : World) (hgd : o.guard = none) (s x : Operand)
    (ho : o.op = .call { callee := .builtin .append, args := #[s, x], argTypes := #[t, t] })
    (B : Nat) (v : Value) (n : Nat) (xs : List Value) (hs : a.eval s = v) (hown : Own w B e k v n xs)
    (m : Nat) (vals : List Value) (hx : a.eval x = .slice (some ⟨w.heap.size, 0, none⟩) m m) (news : List Value) (hn : vals = news) (hl : news.length = m * k) (h1 : ∀ u ∈ news, u.oneCell' = true)
    (h63 : n + m ≤ maxLen) (hroom : (n + m) * bytes ≤ 140737488355328) (hbase : B ≤ w.heap.size)
    (h : ∀ v' w', Own w' B e k v' (n + m) (xs ++ news) → Below B w w' → wpList Try.prog ops Q rest (a.put o.dst v') w') :
    wpList Try.prog ops Q (o :: rest) a (w.alloc (.cells vals.toArray e)) := by
  subst hn
  refine app_at ht hinfo hz hk _ hgd s x ho B v n xs hs (World.ownsRow.alloc hown _) ⟨w.heap.size, 0, none⟩ m m vals hx hl (fun j u hj => ?_) h1 h63 hroom ?_ ?_
  · rw [addr_add]
    simp only [World.cell?]
    have : (w.alloc (.cells vals.toArray e)).heap[w.heap.size]? = some (.cells vals.toArray e) := by show (w.heap.push _)[w.heap.size]? = _; simp
    rw [this]
    simpa using hj
  · have : (w.alloc (.cells vals.toArray e)).heap.size = w.heap.size + 1 := by simp
    omega
  · intro v' w' h1 h2
    exact h v' w' h1 (((Below.refl B w).alloc hbase _).trans h2)
omit hz hk in
/-- make([]T, n). -/
theorem make_n {ops : Array Oper} {rest : List Oper} {o : Oper} {a : Act} {Q : Exit → Act → World → Prop} (w : World) (hgd : o.guard = none) (l c : Operand)
    (hop : o.op = Op.makeSlice t l c) (B : Nat) (L C : Int) (n : Nat) (hl : a.eval l = .int .i64 L) (hc : a.eval c = .int .i64 C) (hL : L = (n : Int)) (hC : C = (n : Int)) (b2 : bytes * n ≤ 281474976710656) (b3 : n ≤ maxLen) (b4 : B ≤ w.heap.size)
    (h : ∀ w', Own w' B e k (.slice (some ⟨w.heap.size, 0, none⟩) n n) n (madeCells z.cells (n * k)).toList → Below w.heap.size w w' → wpList Try.prog ops Q rest (a.put o.dst (.slice (some ⟨w.heap.size, 0, none⟩) n n)) w') : wpList Try.prog ops Q (o :: rest) a w := by
  obtain ⟨i, hi, hz0, hz1, hz2⟩ := info_parts hinfo
  refine wpList_make_full w hgd l c t hop B e i z k ht hi hz0 hz1 .i64 .i64 L C n hl hc hL hC (by rw [hz2]; exact b2) b3 b4 ?_
  intro w' h1 h2
  exact h w' h1 ((Below.refl w.heap.size w).grown h2 (Nat.le_refl _) (fun k hk => by cases hk))
end
end Go.Proofs.Ytokjkmibnjfkaaa
